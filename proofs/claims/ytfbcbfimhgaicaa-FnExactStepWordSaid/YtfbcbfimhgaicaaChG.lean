/- Chains: the reference's chain. -/
import Derived.Test.YtfbcbfimhgaicaaChF
import Derived.Test.YtfbcbfimhgaicaaGoldF
set_option linter.unusedSimpArgs false
set_option linter.unusedVariables false
namespace Go.Proofs.Ytfbcbfimhgaicaa
open Go.RowKit
theorem own2_mono {w : World} {B B' : Nat} {e : TypeId} {v : Value} {n : Nat} {xs : List Value} (h : w.ownsRow B e 2 v n xs) (hb : B' ≤ B) : w.ownsRow B' e 2 v n xs := by
  refine ⟨h.1, ?_⟩
  rcases h.2 with h' | ⟨g, c, cur, h1, h2, h3⟩
  · exact .inl h'
  · exact .inr ⟨g, c, cur, h1, by omega, h3⟩
theorem own2_prefix {w : World} {B : Nat} {g N n c : Nat} {L : List GP} (h : w.ownsRow B 58 2 (.slice (some ⟨g, 0, none⟩) N c) N (gv L)) (hn : n ≤ N) : w.ownsRow B 58 2 (.slice (some ⟨g, 0, none⟩) n c) n (gv (L.take n)) := by
  have hl : L.length = N := by have := h.1; rw [gv_len] at this; omega
  rcases h.2 with ⟨h', _⟩ | ⟨g0, cap0, cur, he, hbg, hg, hnc, hcm, hcs, ht⟩
  · cases h'
  · cases he
    refine ⟨by rw [gv_len, List.length_take]; omega, .inr ⟨g, c, cur, rfl, hbg, hg, by omega, hcm, hcs, ?_⟩⟩
    have e : gv L = gv (L.take n) ++ gv (L.drop n) := by rw [← gv_app, List.take_append_drop]
    have hk : (gv (L.take n)).length = n * 2 := gv_takel hl hn
    have : cur.toList.take (n * 2) = (cur.toList.take (N * 2)).take (n * 2) := by rw [List.take_take, Nat.min_eq_left (by omega)]
    rw [this, ht, e]
    exact List.take_left' hk
set_option maxRecDepth 20000 in
set_option maxHeartbeats 4000000 in
theorem l15Chain_any (c d e f : Int) (n : Nat) (w : World) (hw : Win (c, d) (e, f)) (hn : n ≤ 60) :
    Calls Try.prog 87 #[.agg #[.int .i64 (c), .int .i64 (d)], .agg #[.int .i64 (e), .int .i64 (f)], .int .i64 n] w fun ex w' => ∃ g cp, ex = .returned (.slice (some ⟨g, 0, none⟩) n cp) ∧ w'.ownsRow w.heap.size 58 2 (.slice (some ⟨g, 0, none⟩) n cp) n (gv ((specL (c, d) (e, f)).take n)) ∧ Below w.heap.size w w' := by
  have hl1 : -100 ≤ c ∧ c ≤ 100 := hw.l1
  have hl2 : -100 ≤ d ∧ d ≤ 100 := hw.l2
  have hh1 : -100 ≤ e ∧ e ≤ 100 := hw.h1
  have hh2 : -100 ≤ f ∧ f ≤ 100 := hw.h2
  have hnI : (n : Int) ≤ 60 := by omega
  have hw' := Lib.hid hw
  have hmany : Hid (n ≤ (specL (c, d) (e, f)).length) := by
    obtain ⟨hS, hs⟩ := specL_asc hw
    have c1 := many hw (L := specL (c, d) (e, f)) (fun z h1 h2 h3 => (hs z).2 ((allS_iff hw z).2 ⟨h1, by omega, by omega⟩))
    have := List.length_filter_le (fun e : GP => decide (e.2 ≤ 196)) (specL (c, d) (e, f))
    show _ ≤ _
    omega
  have hown0 := World.ownsRow_lit (base := w.heap.size + 2) (e := 58) (size := 2) ((w.alloc (.cells #[.int .i64 c, .int .i64 d] 58)).alloc (.cells #[.int .i64 e, .int .i64 f] 58)) #[] 0 (by simp) (by decide) rfl
  clear hw
  go_enter Try.func87, Try.ntmps87
  go_wp2_with fail
  go_loopw [7, 8] (fun out bv wr => ∃ t g cp N : Nat, t ≤ 401 ∧ bv = .int .i64 ((t : Int) - 200) ∧ out = .slice (some ⟨g, 0, none⟩) N cp ∧ (PS (c, d) (e, f) t 0).length = N ∧ wr.ownsRow (w.heap.size + 2) 58 2 (.slice (some ⟨g, 0, none⟩) N cp) N (gv (PS (c, d) (e, f) t 0)) ∧ Below (w.heap.size + 2) ((w.alloc (.cells #[.int .i64 c, .int .i64 d] 58)).alloc (.cells #[.int .i64 e, .int .i64 f] 58)) wr) (fun _ bv _ => 401 - (intOf bv + 200).toNat)
  case atStart => exact ⟨0, w.heap.size + 2, 0, 0, by omega, rfl, by simp, rfl, by simpa [PS_zero, gv] using hown0, (Below.refl _ _).alloc (by simp) _⟩
  case round =>
    clear hown0
    obtain ⟨t, g, cp, N, ht, rfl, rfl, hN, hown, hbel⟩ := hrel
    have hzb := hbel.size
    simp only [World.size_alloc] at hzb
    obtain ⟨b, hb⟩ : ∃ b, (t : Int) - 200 = b := ⟨_, rfl⟩
    have hb1 : -200 ≤ b ∧ b ≤ 201 := by omega
    rw [hb]
    by_cases hlt : t < 401
    · have hb2 : b ≤ 200 := by omega
      have hcl0 : wr.cell? ⟨w.heap.size, 0, none⟩ = some (.int .i64 c) := (hbel.cell (by simp)).trans (by simp [go_sem])
      have hcl1 : wr.cell? ⟨w.heap.size, 1, none⟩ = some (.int .i64 d) := (hbel.cell (by simp)).trans (by simp [go_sem])
      have hbw : w.heap.size < wr.heap.size := by omega
      have hbw1 : w.heap.size + 1 < wr.heap.size := by omega
      have hF := fun w => l14Floor_any (-c + b) (-d - b) w (by omega) (by omega)
      have hfb := frst_b hw'.out (b := b) (by omega)
      obtain ⟨F, hFF⟩ : ∃ F, frst (c, d) b = F := ⟨_, rfl⟩
      have hFF' := Lib.hid hFF
      obtain ⟨G, hG⟩ : ∃ G, flo (-c + b) (-d - b) = G := ⟨_, rfl⟩
      have hGF : -G = F := by rw [← hFF, ← hG]; rfl
      rw [hG] at hF
      rw [hFF] at hfb
      have hb' := Lib.hid hb
      clear hb hFF hG
      go_wp2_with (go_at_call 121; refine (hF _).mono ?_; rintro ex w1 ⟨rfl, hbF⟩; have hzF := hbF.size)
      go_loopw [7, 10] (fun out av wr2 => ∃ k g cp N : Nat, k ≤ 5 ∧ av = .int .i64 (F + k) ∧ out = .slice (some ⟨g, 0, none⟩) N cp ∧ (PS (c, d) (e, f) t k).length = N ∧ wr2.ownsRow (w.heap.size + 2) 58 2 (.slice (some ⟨g, 0, none⟩) N cp) N (gv (PS (c, d) (e, f) t k)) ∧ Below (w.heap.size + 2) ((w.alloc (.cells #[.int .i64 c, .int .i64 d] 58)).alloc (.cells #[.int .i64 e, .int .i64 f] 58)) wr2) (fun _ av _ => 5 - (intOf av - F).toNat)
      case atStart => exact ⟨0, g, cp, N, by omega, by simp, rfl, hN, own2_below hown hbF, Qtrans hbF (by omega) hbel⟩
      case round =>
        clear hF hN hown hcl0 hcl1 hzb hbw hbw1 hbF hzF hbel
        obtain ⟨k, g, cp, N, hk, rfl, rfl, hN, hown, hbel⟩ := hrel
        have hzb := hbel.size
        simp only [World.size_alloc] at hzb
        have hcl0 : wr.cell? ⟨w.heap.size, 0, none⟩ = some (.int .i64 c) := (hbel.cell (by simp)).trans (by simp [go_sem])
        have hcl1 : wr.cell? ⟨w.heap.size, 1, none⟩ = some (.int .i64 d) := (hbel.cell (by simp)).trans (by simp [go_sem])
        have hch0 : wr.cell? ⟨w.heap.size + 1, 0, none⟩ = some (.int .i64 e) := (hbel.cell (by simp)).trans (by simp [go_sem])
        have hch1 : wr.cell? ⟨w.heap.size + 1, 1, none⟩ = some (.int .i64 f) := (hbel.cell (by simp)).trans (by simp [go_sem])
        have hbw : w.heap.size < wr.heap.size := by omega
        have hbw1 : w.heap.size + 1 < wr.heap.size := by omega
        obtain ⟨a, ha⟩ : ∃ a, F + (k : Int) = a := ⟨_, rfl⟩
        rw [ha]
        have hlast : F + 5 = F + ((5 : Nat) : Int) := rfl
        by_cases hk5 : k < 5
        · have hab : a < F + 5 := by omega
          have haI : -10000 ≤ a ∧ a ≤ 10004 := by omega
          have hS := fun w => l14Sign_any a b w (by omega) (by omega)
          have hM := fun w => l15Within_any c d e f a b w (by omega) (by omega) (by omega) (by omega) (by omega) (by omega)
          have hP : ∀ (B' g' c' : Nat) (W : World), B' ≤ W.heap.size → W.ownsRow B' 58 2 (.slice (some ⟨g', 0, none⟩) N c') N (gv (PS (c, d) (e, f) t k)) → Calls Try.prog 93 #[.slice (some ⟨g', 0, none⟩) N c', .agg #[.int .i64 (a), .int .i64 (b)]] W fun ex w' => ∃ g2 c2, ex = .returned (.slice (some ⟨g2, 0, none⟩) (N + 1) c2) ∧ w'.ownsRow B' 58 2 (.slice (some ⟨g2, 0, none⟩) (N + 1) c2) (N + 1) (gv (gput (PS (c, d) (e, f) t k) (a, b))) ∧ Below W.heap.size W w' := fun B' g' c' W h1 h2 => by
            have hbs := PS_bg hw'.out (k := k) ht hk
            have hl := PS_len (lo := (c, d)) (hi := (e, f)) ht hk
            exact l15Put_any B' g' N c' _ (a, b) W h1 (by omega) hbs ⟨⟨by show -50000 ≤ a; omega, by show a ≤ 50000; omega⟩, ⟨by show -50000 ≤ b; omega, by show b ≤ 50000; omega⟩⟩ h2
          have hin := in_sgn hw'.out (a := a) (b := b) (by omega) (by omega)
          have hI : ∀ q, inC (c, d) (e, f) (a, b) = q → Hid (inC (c, d) (e, f) (frst (c, d) ((t : Int) - 200) + (k : Int), (t : Int) - 200) = q) := fun q hq => by
            show _ = _; rw [hb'.out, hFF'.out, ha]; exact hq
          have hpt : Hid ((frst (c, d) ((t : Int) - 200) + (k : Int), (t : Int) - 200) = ((a, b) : GP)) := by show _ = _; rw [hb'.out, hFF'.out, ha]
          have ha' := Lib.hid ha
          clear ha
          obtain ⟨m, hm⟩ : ∃ m, mated c d e f a b = m := ⟨_, rfl⟩
          rw [hm] at hM
          have hm' : mated (c, d).1 (c, d).2 (e, f).1 (e, f).2 a b = m := hm
          rw [hm'] at hin
          clear hm hm'
          obtain ⟨sg, hsg⟩ : ∃ sg, sgn a b = sg := ⟨_, rfl⟩
          rw [hsg] at hS hin
          clear hsg
          by_cases h0 : 0 ≤ sg
          · rw [decide_eq_true h0, Bool.true_and] at hin
            have hIm := hI m hin
            cases m
            · have hPS := PS_out (lo := (c, d)) (hi := (e, f)) hIm.out
              go_wp2_with (first | (go_at_call 120; refine (hS _).mono ?_; rintro ex w3 ⟨rfl, hb3⟩; have hz3 := hb3.size; (simp only [World.size_alloc] at hz3); have k0 : w3.cell? ⟨w.heap.size, 0, none⟩ = some (.int .i64 c) := (hb3.cell (by simp; omega)).trans ((calloc hbw).trans hcl0); have k1 : w3.cell? ⟨w.heap.size, 1, none⟩ = some (.int .i64 d) := (hb3.cell (by simp; omega)).trans ((calloc hbw).trans hcl1); have k2 : w3.cell? ⟨w.heap.size + 1, 0, none⟩ = some (.int .i64 e) := (hb3.cell (by simp; omega)).trans ((calloc hbw1).trans hch0); have k3 : w3.cell? ⟨w.heap.size + 1, 1, none⟩ = some (.int .i64 f) := (hb3.cell (by simp; omega)).trans ((calloc hbw1).trans hch1); have k4 : w3.cell? ⟨wr.heap.size, 0, none⟩ = some (.int .i64 a) := (hb3.cell (by simp)).trans (by simp [go_sem]); have k5 : w3.cell? ⟨wr.heap.size, 1, none⟩ = some (.int .i64 b) := (hb3.cell (by simp)).trans (by simp [go_sem])) | (go_at_call 122; go_loud (refine (hM _).mono ?_; rintro ex w4 ⟨rfl, hb4⟩; have hz4 := hb4.size; have k6 : w4.cell? ⟨wr.heap.size, 0, none⟩ = some (.int .i64 a) := (hb4.cell (by show wr.heap.size < _; omega)).trans k4; have k7 : w4.cell? ⟨wr.heap.size, 1, none⟩ = some (.int .i64 b) := (hb4.cell (by show wr.heap.size < _; omega)).trans k5)))
              exact ⟨⟨k + 1, g, cp, N, by omega, by rw [← ha'.out]; congr 1; omega, rfl, by rw [hPS]; exact hN, by rw [hPS]; exact own2_below (own2_below (hown.alloc _) hb3) hb4, Qtrans hb4 (by omega) (Qtrans hb3 (by simp; omega) (hbel.alloc (by omega) _))⟩, by have := ha'.out; simp [intOf]; omega⟩
            · have hPS := PS_in (lo := (c, d)) (hi := (e, f)) hIm.out
              rw [hpt.out] at hPS
              have hPS' := Lib.hid hPS
              clear hPS
              go_wp2_with (first | (first | (go_at_call 120; refine (hS _).mono ?_; rintro ex w3 ⟨rfl, hb3⟩; have hz3 := hb3.size; (simp only [World.size_alloc] at hz3); have k0 : w3.cell? ⟨w.heap.size, 0, none⟩ = some (.int .i64 c) := (hb3.cell (by simp; omega)).trans ((calloc hbw).trans hcl0); have k1 : w3.cell? ⟨w.heap.size, 1, none⟩ = some (.int .i64 d) := (hb3.cell (by simp; omega)).trans ((calloc hbw).trans hcl1); have k2 : w3.cell? ⟨w.heap.size + 1, 0, none⟩ = some (.int .i64 e) := (hb3.cell (by simp; omega)).trans ((calloc hbw1).trans hch0); have k3 : w3.cell? ⟨w.heap.size + 1, 1, none⟩ = some (.int .i64 f) := (hb3.cell (by simp; omega)).trans ((calloc hbw1).trans hch1); have k4 : w3.cell? ⟨wr.heap.size, 0, none⟩ = some (.int .i64 a) := (hb3.cell (by simp)).trans (by simp [go_sem]); have k5 : w3.cell? ⟨wr.heap.size, 1, none⟩ = some (.int .i64 b) := (hb3.cell (by simp)).trans (by simp [go_sem])) | (go_at_call 122; go_loud (refine (hM _).mono ?_; rintro ex w4 ⟨rfl, hb4⟩; have hz4 := hb4.size; have k6 : w4.cell? ⟨wr.heap.size, 0, none⟩ = some (.int .i64 a) := (hb4.cell (by show wr.heap.size < _; omega)).trans k4; have k7 : w4.cell? ⟨wr.heap.size, 1, none⟩ = some (.int .i64 b) := (hb4.cell (by show wr.heap.size < _; omega)).trans k5))) | (go_at_call 93; refine (hP (w.heap.size + 2) g cp w4 (by omega) (own2_below (own2_below (hown.alloc _) hb3) hb4)).mono ?_; rintro ex w5 ⟨g2, c2, rfl, hown5, hb5⟩; have hz5 := hb5.size))
              exact ⟨⟨k + 1, g2, c2, N + 1, by omega, by rw [← ha'.out]; congr 1; omega, rfl, by rw [hPS'.out, gput_len, hN], by rw [hPS'.out]; exact hown5, Qtrans hb5 (by omega) (Qtrans hb4 (by omega) (Qtrans hb3 (by simp; omega) (hbel.alloc (by omega) _)))⟩, by have := ha'.out; simp [intOf]; omega⟩
          · rw [decide_eq_false h0, Bool.false_and] at hin
            have hIm := hI false hin
            have hPS := PS_out (lo := (c, d)) (hi := (e, f)) hIm.out
            go_wp2_with (first | (go_at_call 120; refine (hS _).mono ?_; rintro ex w3 ⟨rfl, hb3⟩; have hz3 := hb3.size))
            exact ⟨⟨k + 1, g, cp, N, by omega, by rw [← ha'.out]; congr 1; omega, rfl, by rw [hPS]; exact hN, by rw [hPS]; exact own2_below (hown.alloc _) hb3, Qtrans hb3 (by simp; omega) (hbel.alloc (by omega) _)⟩, by have := ha'.out; simp [intOf]; omega⟩
        · obtain rfl : k = 5 := by omega
          have hab : ¬ a < F + 5 := by omega
          clear ha
          go_wp2_with fail
          exact ⟨⟨t + 1, g, cp, N, by omega, by have := hb'.out; congr 1; omega, rfl, by rw [← PS_roll]; exact hN, by rw [← PS_roll]; exact hown, hbel⟩, by have := hb'.out; simp [intOf]; omega⟩
    · obtain rfl : t = 401 := by omega
      obtain rfl : b = 201 := by omega
      rw [PS_end] at hN hown
      have hNn : n ≤ N := by rw [← hN]; exact hmany.out
      have hmin : min (n : Int) (N : Int) = n := by omega
      have h1 : (0 : Int) ≤ (n : Int) := by omega
      have h2 : (n : Int) ≤ (N : Int) := by omega
      have hcap : N ≤ cp := by
        rcases hown.2 with ⟨h', _⟩ | ⟨_, _, _, h', _, _, hc, hm, _⟩
        · cases h'
        · cases h'; exact hc
      have h3 : (n : Int) ≤ (cp : Int) := by omega
      go_wp2_with fail
      go_ret
      exact ⟨g, cp, rfl, own2_mono (own2_prefix hown hNn) (by omega), Qtrans hbel (by omega) (((Below.refl _ w).alloc (Nat.le_refl _) _).alloc (by simp) _)⟩
end Go.Proofs.Ytfbcbfimhgaicaa
