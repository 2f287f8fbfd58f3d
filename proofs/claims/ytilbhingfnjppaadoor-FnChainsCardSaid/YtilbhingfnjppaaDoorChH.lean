/- Chains: the walk of chain. -/
import Derived.Test.YtilbhingfnjppaaDoorChS
import Derived.Test.YtilbhingfnjppaaDoorChG
set_option linter.unusedSimpArgs false
set_option linter.unusedVariables false
namespace Go.Proofs.YtilbhingfnjppaaDoor
open Go.RowKit
def clIk (lo hi : GP) (b : Int) (k : Nat) : List GP := ((List.range k).map (fun (s : Nat) => ((low0 lo b + (s : Int) - 1, b) : GP))).filter (inC lo hi)
theorem clIk_next (lo hi : GP) (b : Int) (k : Nat) : clIk lo hi b (k + 1) = clIk lo hi b k ++ (if inC lo hi (low0 lo b + (k : Int) - 1, b) = true then [(low0 lo b + (k : Int) - 1, b)] else []) := by
  unfold clIk
  rw [List.range_succ, List.map_append, List.filter_append]
  congr 1
  rw [List.map_singleton, List.filter_cons, List.filter_nil]
theorem clIk_len (lo hi : GP) (b : Int) (k : Nat) : (clIk lo hi b k).length ≤ k := by
  unfold clIk
  refine Nat.le_trans (List.length_filter_le _ _) ?_
  simp
theorem allI_len (lo hi : GP) : ∀ N, (allI lo hi N).length ≤ 7 * N
  | 0 => by simp [allI]
  | N + 1 => by
    have h1 := allI_len lo hi N
    have h2 : (clI lo hi (frm hi + (N : Int))).length ≤ 7 := clIk_len lo hi _ 7
    rw [allI_next, List.length_append]; omega
def PI (lo hi : GP) (t k : Nat) : List GP := allI lo hi t ++ clIk lo hi (frm hi + (t : Int)) k
theorem PI_in {lo hi : GP} {t k : Nat} (h : inC lo hi (low0 lo (frm hi + (t : Int)) + (k : Int) - 1, frm hi + (t : Int)) = true) : PI lo hi t (k + 1) = PI lo hi t k ++ [(low0 lo (frm hi + (t : Int)) + (k : Int) - 1, frm hi + (t : Int))] := by
  unfold PI; rw [clIk_next, if_pos h, ← List.append_assoc]
theorem PI_out {lo hi : GP} {t k : Nat} (h : inC lo hi (low0 lo (frm hi + (t : Int)) + (k : Int) - 1, frm hi + (t : Int)) = false) : PI lo hi t (k + 1) = PI lo hi t k := by
  unfold PI; rw [clIk_next, if_neg (by rw [h]; simp), List.append_nil]
theorem PI_zero (lo hi : GP) : PI lo hi 0 0 = [] := rfl
theorem PI_roll (lo hi : GP) (t : Nat) : PI lo hi t 7 = PI lo hi (t + 1) 0 := by
  unfold PI; rw [allI_next]; simp [clIk, clI]
theorem PI_end (lo hi : GP) : PI lo hi 400 0 = allI lo hi 400 := by unfold PI; simp [clIk]
theorem PI_len {lo hi : GP} {t k : Nat} (ht : t ≤ 400) (hk : k ≤ 7) : (PI lo hi t k).length ≤ 2900 := by
  unfold PI
  rw [List.length_append]
  have h1 := allI_len lo hi t
  have h2 := clIk_len lo hi (frm hi + (t : Int)) k
  omega
theorem low0_b {lo hi : GP} (hw : Win lo hi) {b : Int} (hb : -700 ≤ b ∧ b ≤ 700) : -10000 ≤ low0 lo b ∧ low0 lo b ≤ 10000 := by
  have hl1 := hw.l1; have hl2 := hw.l2
  obtain ⟨g0, _, _⟩ := flo_lin (a := lo.1 - b) (b := lo.2 + b) (by omega) (by omega)
  unfold low0; omega
theorem sorted_first {lo hi : GP} (hw : Win lo hi) {M : List GP} (hp : M.Perm (allI lo hi 400)) (hs : M.Pairwise (fun x y => key x ≤ key y)) (n : Nat) (hn : n ≤ 60) : M.take n = (specL lo hi).take n ∧ 60 ≤ M.length := by
  have h1 : (allI lo hi 400).Pairwise (fun x y => key x ≠ key y) := List.Pairwise.imp_of_mem (fun {a b} ha hb h => key_ne_of (allI_bp hw ha) (allI_bp hw hb) h) (allI_pw lo hi 400)
  have h2 : M.Pairwise (fun x y => key x ≠ key y) := hp.symm.pairwise h1 (fun {a b} h => Ne.symm h)
  have h3 : ascK M := (List.pairwise_and_iff.2 ⟨hs, h2⟩).imp (fun {a b} h => by obtain ⟨p, q⟩ := h; omega)
  obtain ⟨q1, q2, q3⟩ := first_eq hw h3 (fun z => hp.mem_iff) n hn
  exact ⟨q1.symm, q3⟩
theorem allI_sixty {lo hi : GP} (hw : Win lo hi) : 60 ≤ (allI lo hi 400).length := by
  obtain ⟨h3, h4⟩ := fold_gput (allI lo hi 400) [] List.Pairwise.nil (by
    rw [List.nil_append]
    exact List.Pairwise.imp_of_mem (fun {a b} ha hb h => key_ne_of (allI_bp hw ha) (allI_bp hw hb) h) (allI_pw lo hi 400))
  obtain ⟨_, _, q3⟩ := first_eq hw h3 (fun z => by rw [h4]; simp) 0 (by omega)
  rw [fold_len] at q3
  simpa using q3
set_option maxRecDepth 20000 in
set_option maxHeartbeats 4000000 in
theorem chain_any (c d e f : Int) (n : Nat) (w : World) (hw : Win (c, d) (e, f)) (hn : n ≤ 60) :
    Calls Tryd.prog 67 #[.agg #[.int .i64 (c), .int .i64 (d)], .agg #[.int .i64 (e), .int .i64 (f)], .int .i64 n] w fun ex w' => ∃ g cp, ex = .returned (.slice (some ⟨g, 0, none⟩) n cp) ∧ w'.ownsRow w.heap.size 44 2 (.slice (some ⟨g, 0, none⟩) n cp) n (gv ((specL (c, d) (e, f)).take n)) ∧ Below w.heap.size w w' := by
  have hl1 : -100 ≤ c ∧ c ≤ 100 := hw.l1
  have hl2 : -100 ≤ d ∧ d ≤ 100 := hw.l2
  have hh1 : -100 ≤ e ∧ e ≤ 100 := hw.h1
  have hh2 : -100 ≤ f ∧ f ≤ 100 := hw.h2
  have hnI : (n : Int) ≤ 60 := by omega
  have hfb := frm_b hw
  have hF := fun w => floor_any e f w (by omega) (by omega)
  have hw' := Lib.hid hw
  obtain ⟨i0, hi0, hz0, hz1, hz2⟩ := info_parts infoG
  have hown0 : (((w.alloc (.cells #[.int .i64 c, .int .i64 d] 44)).alloc (.cells #[.int .i64 e, .int .i64 f] 44)).alloc (.cells #[] 44)).ownsRow (w.heap.size + 2) 44 2 (.slice (some ⟨w.heap.size + 1 + 1, 0, none⟩) 0 0) 0 [] := by
    have := World.ownsRow_lit (base := w.heap.size + 2) (e := 44) (size := 2) ((w.alloc (.cells #[.int .i64 c, .int .i64 d] 44)).alloc (.cells #[.int .i64 e, .int .i64 f] 44)) #[] 0 (by simp) (by decide) rfl
    simpa using this
  clear hw
  have hfl : Hid (frm (e, f) = if flo e f < 0 then (-(flo e f + 1)).tdiv 3 - 2 else (-(max (flo e f + 1) 0)).tdiv 2 - 2) := rfl
  obtain ⟨fr, hfr⟩ : ∃ fr, frm (e, f) = fr := ⟨_, rfl⟩
  have hfr' := Lib.hid hfr
  have hfl1 : Hid (fr = if flo e f < 0 then (-(flo e f + 1)).tdiv 3 - 2 else (-(max (flo e f + 1) 0)).tdiv 2 - 2) := by show _ = _; rw [← hfr]; exact hfl.out
  clear hfl
  rw [hfr] at hfb
  clear hfr
  have hFb := (flo_lin (a := e) (b := f) (by omega) (by omega)).1
  obtain ⟨F, hFF⟩ : ∃ F, flo e f = F := ⟨_, rfl⟩
  rw [hFF] at hF hFb
  have hfl2 : Hid (fr = if F < 0 then (-(F + 1)).tdiv 3 - 2 else (-(max (F + 1) 0)).tdiv 2 - 2) := by show _ = _; rw [← hFF]; exact hfl1.out
  clear hFF hfl1
  by_cases hneg : F < 0
  · have hm : max (F + 1) 0 = 0 := by omega
    obtain ⟨Q, hQ⟩ : ∃ Q, (F + 1).tdiv 3 = Q := ⟨_, rfl⟩
    have hfe := hfl2.out
    rw [if_pos hneg, Int.neg_tdiv, hQ] at hfe
    have w1 : wrap64 (-Q) = -Q := IntWalk.wrap64_in _ (by omega)
    have w2 : wrap64 (-Q - 2) = fr := by rw [hfe]; exact IntWalk.wrap64_in _ (by omega)
    clear hfe hfl2
    go_enter Tryd.func67, Tryd.ntmps67
    go_wp2_with (first | (go_at_call 101; (refine (hF _).mono ?_; rintro ex v1 ⟨rfl, hb1⟩; have zf1 := hb1.size; (try simp only [World.size_alloc] at zf1); have k0 : v1.cell? ⟨w.heap.size + 1, 0, none⟩ = some (.int .i64 e) := (hb1.cell (by first | (simp; done) | (show w.heap.size + 1 < _; omega))).trans (by first | assumption | (simp [go_sem]; done)); have k1 : v1.cell? ⟨w.heap.size + 1, 1, none⟩ = some (.int .i64 f) := (hb1.cell (by first | (simp; done) | (show w.heap.size + 1 < _; omega))).trans (by first | assumption | (simp [go_sem]; done)); have hO : v1.ownsRow (w.heap.size + 2) 44 2 (.slice (some ⟨w.heap.size + 1 + 1, 0, none⟩) 0 0) 0 [] := own2_below (by first | assumption | exact hown0) hb1; have hB2 : Below (w.heap.size + 2) ((w.alloc (.cells #[.int .i64 c, .int .i64 d] 44)).alloc (.cells #[.int .i64 e, .int .i64 f] 44)) v1 := Qtrans hb1 (by first | omega | (simp; omega) | simp) (by first | assumption | exact (Below.refl _ _).alloc (by simp) _))))
    clear hown0
    try rw [w2]
    go_loopw [7, 9] (fun out bv wr => ∃ t g cp N : Nat, t ≤ 400 ∧ bv = .int .i64 (fr + t) ∧ out = .slice (some ⟨g, 0, none⟩) N cp ∧ (PI (c, d) (e, f) t 0).length = N ∧ wr.ownsRow (w.heap.size + 2) 44 2 (.slice (some ⟨g, 0, none⟩) N cp) N (gv (PI (c, d) (e, f) t 0)) ∧ Below (w.heap.size + 2) ((w.alloc (.cells #[.int .i64 c, .int .i64 d] 44)).alloc (.cells #[.int .i64 e, .int .i64 f] 44)) wr) (fun _ bv _ => 400 - (intOf bv - fr).toNat)
    case atStart => exact ⟨0, w.heap.size + 2, 0, 0, by omega, by first | (simp; done) | (simp [w2]; done), rfl, rfl, hO, hB2⟩
    case round =>
      clear hF hO hB2 k0 k1 hneg hm hQ w1 w2
      obtain ⟨t, g, cp, N, ht, rfl, rfl, hN, hown, hbel⟩ := hrel
      have hzb := hbel.size
      simp only [World.size_alloc] at hzb
      obtain ⟨b, hb⟩ : ∃ b, fr + (t : Int) = b := ⟨_, rfl⟩
      rw [hb]
      by_cases hlt : t < 400
      · have hb1 : b < fr + 400 := by omega
        have hb2 : -200 ≤ b ∧ b ≤ 520 := by omega
        have hM : ∀ w, Calls Tryd.prog 68 #[.agg #[.int .i64 (c), .int .i64 (d)], .agg #[.int .i64 (b), .int .i64 (-b)]] w fun ex w' => ex = .returned (.agg #[.int .i64 (c - b), .int .i64 (d + b)]) ∧ Below w.heap.size w w' := fun w => by
          have := minus_in c d b (-b) w (by omega) (by omega) (by omega) (by omega)
          rwa [show d - -b = d + b by omega] at this
        have hFl := fun w => floor_any (c - b) (d + b) w (by omega) (by omega)
        have hlb := low0_b hw'.out (b := b) (by omega)
        obtain ⟨G, hG⟩ : ∃ G, low0 (c, d) b = G := ⟨_, rfl⟩
        have hG' := Lib.hid hG
        have hG2 : flo (c - b) (d + b) = G := hG
        rw [hG2] at hFl
        rw [hG] at hlb
        have hb' := Lib.hid hb
        have hcl0 : wr.cell? ⟨w.heap.size, 0, none⟩ = some (.int .i64 c) := (hbel.cell (by simp)).trans (by simp [go_sem])
        have hcl1 : wr.cell? ⟨w.heap.size, 1, none⟩ = some (.int .i64 d) := (hbel.cell (by simp)).trans (by simp [go_sem])
        clear hb hG hG2
        go_wp2_with (first | (go_at_call 68; refine (hM _).mono ?_; rintro ex v2 ⟨rfl, hb2⟩; have zf2 := hb2.size) | (go_at_call 101; refine (hFl _).mono ?_; rintro ex v3 ⟨rfl, hb3⟩; have zf3 := hb3.size))
        go_loopw [7, 44] (fun out kv wr2 => ∃ k g cp N : Nat, k ≤ 7 ∧ kv = .int .i64 k ∧ out = .slice (some ⟨g, 0, none⟩) N cp ∧ (PI (c, d) (e, f) t k).length = N ∧ wr2.ownsRow (w.heap.size + 2) 44 2 (.slice (some ⟨g, 0, none⟩) N cp) N (gv (PI (c, d) (e, f) t k)) ∧ Below (w.heap.size + 2) ((w.alloc (.cells #[.int .i64 c, .int .i64 d] 44)).alloc (.cells #[.int .i64 e, .int .i64 f] 44)) wr2) (fun _ kv _ => 7 - (intOf kv).toNat)
        case atStart => exact ⟨0, g, cp, N, by omega, rfl, rfl, hN, own2_below (own2_below hown hb2) hb3, Qtrans hb3 (by omega) (Qtrans hb2 (by omega) hbel)⟩
        case round =>
          clear hM hFl hN hown hcl0 hcl1 hzb hb2 zf2 hb3 zf3 hbel
          obtain ⟨k, g, cp, N, hk, rfl, rfl, hN, hown, hbel⟩ := hrel
          have hzb := hbel.size
          simp only [World.size_alloc] at hzb
          have hcl0 : wr.cell? ⟨w.heap.size, 0, none⟩ = some (.int .i64 c) := (hbel.cell (by simp)).trans (by simp [go_sem])
          have hcl1 : wr.cell? ⟨w.heap.size, 1, none⟩ = some (.int .i64 d) := (hbel.cell (by simp)).trans (by simp [go_sem])
          have hch0 : wr.cell? ⟨w.heap.size + 1, 0, none⟩ = some (.int .i64 e) := (hbel.cell (by simp)).trans (by simp [go_sem])
          have hch1 : wr.cell? ⟨w.heap.size + 1, 1, none⟩ = some (.int .i64 f) := (hbel.cell (by simp)).trans (by simp [go_sem])
          have hbw : w.heap.size < wr.heap.size := by omega
          have hbw1 : w.heap.size + 1 < wr.heap.size := by omega
          by_cases hk7 : k < 7
          · have hkI : (k : Int) < 7 := by omega
            obtain ⟨a, ha⟩ : ∃ a, G + (k : Int) - 1 = a := ⟨_, rfl⟩
            have haI : -10001 ≤ a ∧ a ≤ 10006 := by omega
            have hS := fun w => sign_any a b w (by omega) (by omega)
            have hMt := fun w => inWindow_any c d e f a b w (by omega) (by omega) (by omega) (by omega) (by omega) (by omega)
            have hNb := PI_len (lo := (c, d)) (hi := (e, f)) (t := t) (k := k) (by omega) hk
            rw [hN] at hNb
            have hin := in_sgn hw'.out (a := a) (b := b) (by omega) (by omega)
            have hI : ∀ q, inC (c, d) (e, f) (a, b) = q → Hid (inC (c, d) (e, f) (low0 (c, d) (frm (e, f) + (t : Int)) + (k : Int) - 1, frm (e, f) + (t : Int)) = q) := fun q hq => by
              show _ = _; rw [hfr'.out, hb'.out, hG'.out, ha]; exact hq
            have hpt : Hid ((low0 (c, d) (frm (e, f) + (t : Int)) + (k : Int) - 1, frm (e, f) + (t : Int)) = ((a, b) : GP)) := by show _ = _; rw [hfr'.out, hb'.out, hG'.out, ha]
            obtain ⟨m, hm⟩ : ∃ m, mated c d e f a b = m := ⟨_, rfl⟩
            rw [hm] at hMt
            have hm' : mated (c, d).1 (c, d).2 (e, f).1 (e, f).2 a b = m := hm
            rw [hm'] at hin
            clear hm hm'
            obtain ⟨sg, hsg⟩ : ∃ sg, sgn a b = sg := ⟨_, rfl⟩
            rw [hsg] at hS hin
            clear hsg
            by_cases h0 : 0 ≤ sg
            · rw [decide_eq_true h0, Bool.true_and] at hin
              have hIm := hI m hin
              clear hin hI
              cases m
              · have hPI := Lib.hid (PI_out (lo := (c, d)) (hi := (e, f)) hIm.out)
                go_wp2_with (first | (go_at_call 75; refine (hS _).mono ?_; rintro ex w3 ⟨rfl, hb3⟩; have hz3 := hb3.size; (simp only [World.size_alloc] at hz3); have k0 : w3.cell? ⟨w.heap.size, 0, none⟩ = some (.int .i64 c) := (hb3.cell (by simp; omega)).trans ((calloc hbw).trans hcl0); have k1 : w3.cell? ⟨w.heap.size, 1, none⟩ = some (.int .i64 d) := (hb3.cell (by simp; omega)).trans ((calloc hbw).trans hcl1); have k2 : w3.cell? ⟨w.heap.size + 1, 0, none⟩ = some (.int .i64 e) := (hb3.cell (by simp; omega)).trans ((calloc hbw1).trans hch0); have k3 : w3.cell? ⟨w.heap.size + 1, 1, none⟩ = some (.int .i64 f) := (hb3.cell (by simp; omega)).trans ((calloc hbw1).trans hch1); have k4 : w3.cell? ⟨wr.heap.size, 0, none⟩ = some (.int .i64 a) := (hb3.cell (by simp)).trans (by simp [go_sem]); have k5 : w3.cell? ⟨wr.heap.size, 1, none⟩ = some (.int .i64 b) := (hb3.cell (by simp)).trans (by simp [go_sem])) | (go_at_call 76; refine (hMt _).mono ?_; rintro ex w4 ⟨rfl, hb4⟩; have hz4 := hb4.size; have k6 : w4.cell? ⟨wr.heap.size, 0, none⟩ = some (.int .i64 a) := (hb4.cell (by show wr.heap.size < _; omega)).trans k4; have k7 : w4.cell? ⟨wr.heap.size, 1, none⟩ = some (.int .i64 b) := (hb4.cell (by show wr.heap.size < _; omega)).trans k5))
                exact ⟨⟨k + 1, g, cp, N, by omega, by congr 1, rfl, by rw [hPI.out]; exact hN, by rw [hPI.out]; exact own2_below (own2_below (hown.alloc _) hb3) hb4, Qtrans hb4 (by omega) (Qtrans hb3 (by simp; omega) (hbel.alloc (by omega) _))⟩, by simp [intOf]; omega⟩
              · have hPI := PI_in (lo := (c, d)) (hi := (e, f)) hIm.out
                rw [hpt.out] at hPI
                have hPI' := Lib.hid hPI
                clear hPI
                go_wp2_with (first | (first | (go_at_call 75; refine (hS _).mono ?_; rintro ex w3 ⟨rfl, hb3⟩; have hz3 := hb3.size; (simp only [World.size_alloc] at hz3); have k0 : w3.cell? ⟨w.heap.size, 0, none⟩ = some (.int .i64 c) := (hb3.cell (by simp; omega)).trans ((calloc hbw).trans hcl0); have k1 : w3.cell? ⟨w.heap.size, 1, none⟩ = some (.int .i64 d) := (hb3.cell (by simp; omega)).trans ((calloc hbw).trans hcl1); have k2 : w3.cell? ⟨w.heap.size + 1, 0, none⟩ = some (.int .i64 e) := (hb3.cell (by simp; omega)).trans ((calloc hbw1).trans hch0); have k3 : w3.cell? ⟨w.heap.size + 1, 1, none⟩ = some (.int .i64 f) := (hb3.cell (by simp; omega)).trans ((calloc hbw1).trans hch1); have k4 : w3.cell? ⟨wr.heap.size, 0, none⟩ = some (.int .i64 a) := (hb3.cell (by simp)).trans (by simp [go_sem]); have k5 : w3.cell? ⟨wr.heap.size, 1, none⟩ = some (.int .i64 b) := (hb3.cell (by simp)).trans (by simp [go_sem])) | (go_at_call 76; refine (hMt _).mono ?_; rintro ex w4 ⟨rfl, hb4⟩; have hz4 := hb4.size; have k6 : w4.cell? ⟨wr.heap.size, 0, none⟩ = some (.int .i64 a) := (hb4.cell (by show wr.heap.size < _; omega)).trans k4; have k7 : w4.cell? ⟨wr.heap.size, 1, none⟩ = some (.int .i64 b) := (hb4.cell (by show wr.heap.size < _; omega)).trans k5)) | (at_builtin; refine wpList_append_lies _ rfl _ _ _ rfl (w.heap.size + 2) 44 i0 _ 2 16 Tryd.underlying48 hi0 hz0 hz1 hz2 rfl (by decide) (.slice (some ⟨g, 0, none⟩) N cp) N (gv (PI (c, d) (e, f) t k)) (by rfl) ((own2_below (own2_below (hown.alloc _) hb3) hb4).alloc _) ⟨w4.heap.size, 0, none⟩ 1 1 [.int .i64 a, .int .i64 b] (by rfl) (by rfl) (World.news_of_block (cs := #[.int .i64 a, .int .i64 b]) (t := 44) (fr := (0, 0)) (heap_alloc_new w4 _)) (by simp [Value.oneCell']) (by omega) (by unfold maxLen; omega) (by omega) (by simp; omega) (w4.heap.size + 1) (by simp) ?_; intro gg capA w5 hown5 hgrow5 hatg hltg; have hz5 := hgrow5.size; (simp only [World.size_alloc] at hz5); have hgg : w.heap.size + 2 ≤ gg := (hown5.lt gg rfl).1))
                have hgB := (hown.lt g rfl).1
                have hb5 : Below (w.heap.size + 2) ((w.alloc (.cells #[.int .i64 c, .int .i64 d] 44)).alloc (.cells #[.int .i64 e, .int .i64 f] 44)) w5 := Below.grown ((Qtrans hb4 (by omega) (Qtrans hb3 (by simp; omega) (hbel.alloc (by omega) _))).alloc (by omega) _) hgrow5 (by simp; omega) (fun k hk => by simp [Value.ownBlock] at hk; omega)
                exact ⟨⟨k + 1, gg, capA, N + 1, by omega, by congr 1, rfl, by rw [hPI'.out, List.length_append, hN]; rfl, by rw [hPI'.out, gv_app]; exact hown5, hb5⟩, by simp [intOf]; omega⟩
            · rw [decide_eq_false h0, Bool.false_and] at hin
              have hIm := hI false hin
              clear hin hI
              have hPI := Lib.hid (PI_out (lo := (c, d)) (hi := (e, f)) hIm.out)
              go_wp2_with (first | (go_at_call 75; refine (hS _).mono ?_; rintro ex w3 ⟨rfl, hb3⟩; have hz3 := hb3.size; (simp only [World.size_alloc] at hz3); have k0 : w3.cell? ⟨w.heap.size, 0, none⟩ = some (.int .i64 c) := (hb3.cell (by simp; omega)).trans ((calloc hbw).trans hcl0); have k1 : w3.cell? ⟨w.heap.size, 1, none⟩ = some (.int .i64 d) := (hb3.cell (by simp; omega)).trans ((calloc hbw).trans hcl1); have k2 : w3.cell? ⟨w.heap.size + 1, 0, none⟩ = some (.int .i64 e) := (hb3.cell (by simp; omega)).trans ((calloc hbw1).trans hch0); have k3 : w3.cell? ⟨w.heap.size + 1, 1, none⟩ = some (.int .i64 f) := (hb3.cell (by simp; omega)).trans ((calloc hbw1).trans hch1); have k4 : w3.cell? ⟨wr.heap.size, 0, none⟩ = some (.int .i64 a) := (hb3.cell (by simp)).trans (by simp [go_sem]); have k5 : w3.cell? ⟨wr.heap.size, 1, none⟩ = some (.int .i64 b) := (hb3.cell (by simp)).trans (by simp [go_sem])) | (go_at_call 76; refine (hMt _).mono ?_; rintro ex w4 ⟨rfl, hb4⟩; have hz4 := hb4.size; have k6 : w4.cell? ⟨wr.heap.size, 0, none⟩ = some (.int .i64 a) := (hb4.cell (by show wr.heap.size < _; omega)).trans k4; have k7 : w4.cell? ⟨wr.heap.size, 1, none⟩ = some (.int .i64 b) := (hb4.cell (by show wr.heap.size < _; omega)).trans k5))
              exact ⟨⟨k + 1, g, cp, N, by omega, by congr 1, rfl, by rw [hPI.out]; exact hN, by rw [hPI.out]; exact own2_below (hown.alloc _) hb3, Qtrans hb3 (by simp; omega) (hbel.alloc (by omega) _)⟩, by simp [intOf]; omega⟩
          · obtain rfl : k = 7 := by omega
            go_wp2_with fail
            exact ⟨⟨t + 1, g, cp, N, by omega, by have := hb'.out; congr 1; omega, rfl, by rw [← PI_roll]; exact hN, by rw [← PI_roll]; exact hown, hbel⟩, by have := hb'.out; simp [intOf]; omega⟩
      · obtain rfl : t = 400 := by omega
        have hge : ¬ b < fr + 400 := by omega
        rw [PI_end] at hN hown
        have hNb := allI_len (c, d) (e, f) 400
        rw [hN] at hNb
        have hsort := sortC_any (w.heap.size + 2) g N cp (allI (c, d) (e, f) 400) wr (fun z hz => by
          obtain ⟨⟨h1, h2⟩, h3, h4⟩ := allI_bp hw'.out hz
          exact ⟨⟨by omega, by omega⟩, by omega, by omega⟩) (by omega) hown
        have hcp : N ≤ cp := by
          rcases hown.2 with ⟨h', _⟩ | ⟨_, _, _, h', _, _, hc, hm, _⟩
          · cases h'
          · cases h'; exact hc
        have h1 : (0 : Int) ≤ (n : Int) := by omega
        have hN' := Lib.hid hN
        clear hN hown
        have hsixty : n ≤ N := by have := allI_sixty hw'.out; have := hN'.out; omega
        have h2 : (n : Int) ≤ (N : Int) := by omega
        have h3 : (n : Int) ≤ (cp : Int) := by omega
        go_wp2_with (first | (go_at_call 69; refine hsort.mono ?_; rintro ex w3 ⟨rfl, M, hp, hs, hown3, hb3, hz3⟩))
        go_ret
        obtain ⟨q1, q2⟩ := sorted_first hw'.out hp hs n hn
        refine ⟨g, cp, rfl, ?_, Qtrans (hb3.mono (Nat.le_refl _)) (by omega) (Qtrans hbel (by omega) (((Below.refl _ w).alloc (Nat.le_refl _) _).alloc (by simp) _))⟩
        rw [← q1]
        exact own2_mono (own2_prefix hown3 hsixty) (by omega)
  · have hm : max (F + 1) 0 = F + 1 := by omega
    obtain ⟨Q, hQ⟩ : ∃ Q, (F + 1).tdiv 2 = Q := ⟨_, rfl⟩
    have hfe := hfl2.out
    rw [if_neg hneg, hm, Int.neg_tdiv, hQ] at hfe
    have w1 : wrap64 (-Q) = -Q := IntWalk.wrap64_in _ (by omega)
    have w2 : wrap64 (-Q - 2) = fr := by rw [hfe]; exact IntWalk.wrap64_in _ (by omega)
    clear hfe hfl2
    go_enter Tryd.func67, Tryd.ntmps67
    go_wp2_with (first | (go_at_call 101; (refine (hF _).mono ?_; rintro ex v1 ⟨rfl, hb1⟩; have zf1 := hb1.size; (try simp only [World.size_alloc] at zf1); have k0 : v1.cell? ⟨w.heap.size + 1, 0, none⟩ = some (.int .i64 e) := (hb1.cell (by first | (simp; done) | (show w.heap.size + 1 < _; omega))).trans (by first | assumption | (simp [go_sem]; done)); have k1 : v1.cell? ⟨w.heap.size + 1, 1, none⟩ = some (.int .i64 f) := (hb1.cell (by first | (simp; done) | (show w.heap.size + 1 < _; omega))).trans (by first | assumption | (simp [go_sem]; done)); have hO : v1.ownsRow (w.heap.size + 2) 44 2 (.slice (some ⟨w.heap.size + 1 + 1, 0, none⟩) 0 0) 0 [] := own2_below (by first | assumption | exact hown0) hb1; have hB2 : Below (w.heap.size + 2) ((w.alloc (.cells #[.int .i64 c, .int .i64 d] 44)).alloc (.cells #[.int .i64 e, .int .i64 f] 44)) v1 := Qtrans hb1 (by first | omega | (simp; omega) | simp) (by first | assumption | exact (Below.refl _ _).alloc (by simp) _))))
    clear hown0
    try rw [w2]
    go_loopw [7, 9] (fun out bv wr => ∃ t g cp N : Nat, t ≤ 400 ∧ bv = .int .i64 (fr + t) ∧ out = .slice (some ⟨g, 0, none⟩) N cp ∧ (PI (c, d) (e, f) t 0).length = N ∧ wr.ownsRow (w.heap.size + 2) 44 2 (.slice (some ⟨g, 0, none⟩) N cp) N (gv (PI (c, d) (e, f) t 0)) ∧ Below (w.heap.size + 2) ((w.alloc (.cells #[.int .i64 c, .int .i64 d] 44)).alloc (.cells #[.int .i64 e, .int .i64 f] 44)) wr) (fun _ bv _ => 400 - (intOf bv - fr).toNat)
    case atStart => exact ⟨0, w.heap.size + 2, 0, 0, by omega, by first | (simp; done) | (simp [w2]; done), rfl, rfl, hO, hB2⟩
    case round =>
      clear hF hO hB2 k0 k1 hneg hm hQ w1 w2
      obtain ⟨t, g, cp, N, ht, rfl, rfl, hN, hown, hbel⟩ := hrel
      have hzb := hbel.size
      simp only [World.size_alloc] at hzb
      obtain ⟨b, hb⟩ : ∃ b, fr + (t : Int) = b := ⟨_, rfl⟩
      rw [hb]
      by_cases hlt : t < 400
      · have hb1 : b < fr + 400 := by omega
        have hb2 : -200 ≤ b ∧ b ≤ 520 := by omega
        have hM : ∀ w, Calls Tryd.prog 68 #[.agg #[.int .i64 (c), .int .i64 (d)], .agg #[.int .i64 (b), .int .i64 (-b)]] w fun ex w' => ex = .returned (.agg #[.int .i64 (c - b), .int .i64 (d + b)]) ∧ Below w.heap.size w w' := fun w => by
          have := minus_in c d b (-b) w (by omega) (by omega) (by omega) (by omega)
          rwa [show d - -b = d + b by omega] at this
        have hFl := fun w => floor_any (c - b) (d + b) w (by omega) (by omega)
        have hlb := low0_b hw'.out (b := b) (by omega)
        obtain ⟨G, hG⟩ : ∃ G, low0 (c, d) b = G := ⟨_, rfl⟩
        have hG' := Lib.hid hG
        have hG2 : flo (c - b) (d + b) = G := hG
        rw [hG2] at hFl
        rw [hG] at hlb
        have hb' := Lib.hid hb
        have hcl0 : wr.cell? ⟨w.heap.size, 0, none⟩ = some (.int .i64 c) := (hbel.cell (by simp)).trans (by simp [go_sem])
        have hcl1 : wr.cell? ⟨w.heap.size, 1, none⟩ = some (.int .i64 d) := (hbel.cell (by simp)).trans (by simp [go_sem])
        clear hb hG hG2
        go_wp2_with (first | (go_at_call 68; refine (hM _).mono ?_; rintro ex v2 ⟨rfl, hb2⟩; have zf2 := hb2.size) | (go_at_call 101; refine (hFl _).mono ?_; rintro ex v3 ⟨rfl, hb3⟩; have zf3 := hb3.size))
        go_loopw [7, 44] (fun out kv wr2 => ∃ k g cp N : Nat, k ≤ 7 ∧ kv = .int .i64 k ∧ out = .slice (some ⟨g, 0, none⟩) N cp ∧ (PI (c, d) (e, f) t k).length = N ∧ wr2.ownsRow (w.heap.size + 2) 44 2 (.slice (some ⟨g, 0, none⟩) N cp) N (gv (PI (c, d) (e, f) t k)) ∧ Below (w.heap.size + 2) ((w.alloc (.cells #[.int .i64 c, .int .i64 d] 44)).alloc (.cells #[.int .i64 e, .int .i64 f] 44)) wr2) (fun _ kv _ => 7 - (intOf kv).toNat)
        case atStart => exact ⟨0, g, cp, N, by omega, rfl, rfl, hN, own2_below (own2_below hown hb2) hb3, Qtrans hb3 (by omega) (Qtrans hb2 (by omega) hbel)⟩
        case round =>
          clear hM hFl hN hown hcl0 hcl1 hzb hb2 zf2 hb3 zf3 hbel
          obtain ⟨k, g, cp, N, hk, rfl, rfl, hN, hown, hbel⟩ := hrel
          have hzb := hbel.size
          simp only [World.size_alloc] at hzb
          have hcl0 : wr.cell? ⟨w.heap.size, 0, none⟩ = some (.int .i64 c) := (hbel.cell (by simp)).trans (by simp [go_sem])
          have hcl1 : wr.cell? ⟨w.heap.size, 1, none⟩ = some (.int .i64 d) := (hbel.cell (by simp)).trans (by simp [go_sem])
          have hch0 : wr.cell? ⟨w.heap.size + 1, 0, none⟩ = some (.int .i64 e) := (hbel.cell (by simp)).trans (by simp [go_sem])
          have hch1 : wr.cell? ⟨w.heap.size + 1, 1, none⟩ = some (.int .i64 f) := (hbel.cell (by simp)).trans (by simp [go_sem])
          have hbw : w.heap.size < wr.heap.size := by omega
          have hbw1 : w.heap.size + 1 < wr.heap.size := by omega
          by_cases hk7 : k < 7
          · have hkI : (k : Int) < 7 := by omega
            obtain ⟨a, ha⟩ : ∃ a, G + (k : Int) - 1 = a := ⟨_, rfl⟩
            have haI : -10001 ≤ a ∧ a ≤ 10006 := by omega
            have hS := fun w => sign_any a b w (by omega) (by omega)
            have hMt := fun w => inWindow_any c d e f a b w (by omega) (by omega) (by omega) (by omega) (by omega) (by omega)
            have hNb := PI_len (lo := (c, d)) (hi := (e, f)) (t := t) (k := k) (by omega) hk
            rw [hN] at hNb
            have hin := in_sgn hw'.out (a := a) (b := b) (by omega) (by omega)
            have hI : ∀ q, inC (c, d) (e, f) (a, b) = q → Hid (inC (c, d) (e, f) (low0 (c, d) (frm (e, f) + (t : Int)) + (k : Int) - 1, frm (e, f) + (t : Int)) = q) := fun q hq => by
              show _ = _; rw [hfr'.out, hb'.out, hG'.out, ha]; exact hq
            have hpt : Hid ((low0 (c, d) (frm (e, f) + (t : Int)) + (k : Int) - 1, frm (e, f) + (t : Int)) = ((a, b) : GP)) := by show _ = _; rw [hfr'.out, hb'.out, hG'.out, ha]
            obtain ⟨m, hm⟩ : ∃ m, mated c d e f a b = m := ⟨_, rfl⟩
            rw [hm] at hMt
            have hm' : mated (c, d).1 (c, d).2 (e, f).1 (e, f).2 a b = m := hm
            rw [hm'] at hin
            clear hm hm'
            obtain ⟨sg, hsg⟩ : ∃ sg, sgn a b = sg := ⟨_, rfl⟩
            rw [hsg] at hS hin
            clear hsg
            by_cases h0 : 0 ≤ sg
            · rw [decide_eq_true h0, Bool.true_and] at hin
              have hIm := hI m hin
              clear hin hI
              cases m
              · have hPI := Lib.hid (PI_out (lo := (c, d)) (hi := (e, f)) hIm.out)
                go_wp2_with (first | (go_at_call 75; refine (hS _).mono ?_; rintro ex w3 ⟨rfl, hb3⟩; have hz3 := hb3.size; (simp only [World.size_alloc] at hz3); have k0 : w3.cell? ⟨w.heap.size, 0, none⟩ = some (.int .i64 c) := (hb3.cell (by simp; omega)).trans ((calloc hbw).trans hcl0); have k1 : w3.cell? ⟨w.heap.size, 1, none⟩ = some (.int .i64 d) := (hb3.cell (by simp; omega)).trans ((calloc hbw).trans hcl1); have k2 : w3.cell? ⟨w.heap.size + 1, 0, none⟩ = some (.int .i64 e) := (hb3.cell (by simp; omega)).trans ((calloc hbw1).trans hch0); have k3 : w3.cell? ⟨w.heap.size + 1, 1, none⟩ = some (.int .i64 f) := (hb3.cell (by simp; omega)).trans ((calloc hbw1).trans hch1); have k4 : w3.cell? ⟨wr.heap.size, 0, none⟩ = some (.int .i64 a) := (hb3.cell (by simp)).trans (by simp [go_sem]); have k5 : w3.cell? ⟨wr.heap.size, 1, none⟩ = some (.int .i64 b) := (hb3.cell (by simp)).trans (by simp [go_sem])) | (go_at_call 76; refine (hMt _).mono ?_; rintro ex w4 ⟨rfl, hb4⟩; have hz4 := hb4.size; have k6 : w4.cell? ⟨wr.heap.size, 0, none⟩ = some (.int .i64 a) := (hb4.cell (by show wr.heap.size < _; omega)).trans k4; have k7 : w4.cell? ⟨wr.heap.size, 1, none⟩ = some (.int .i64 b) := (hb4.cell (by show wr.heap.size < _; omega)).trans k5))
                exact ⟨⟨k + 1, g, cp, N, by omega, by congr 1, rfl, by rw [hPI.out]; exact hN, by rw [hPI.out]; exact own2_below (own2_below (hown.alloc _) hb3) hb4, Qtrans hb4 (by omega) (Qtrans hb3 (by simp; omega) (hbel.alloc (by omega) _))⟩, by simp [intOf]; omega⟩
              · have hPI := PI_in (lo := (c, d)) (hi := (e, f)) hIm.out
                rw [hpt.out] at hPI
                have hPI' := Lib.hid hPI
                clear hPI
                go_wp2_with (first | (first | (go_at_call 75; refine (hS _).mono ?_; rintro ex w3 ⟨rfl, hb3⟩; have hz3 := hb3.size; (simp only [World.size_alloc] at hz3); have k0 : w3.cell? ⟨w.heap.size, 0, none⟩ = some (.int .i64 c) := (hb3.cell (by simp; omega)).trans ((calloc hbw).trans hcl0); have k1 : w3.cell? ⟨w.heap.size, 1, none⟩ = some (.int .i64 d) := (hb3.cell (by simp; omega)).trans ((calloc hbw).trans hcl1); have k2 : w3.cell? ⟨w.heap.size + 1, 0, none⟩ = some (.int .i64 e) := (hb3.cell (by simp; omega)).trans ((calloc hbw1).trans hch0); have k3 : w3.cell? ⟨w.heap.size + 1, 1, none⟩ = some (.int .i64 f) := (hb3.cell (by simp; omega)).trans ((calloc hbw1).trans hch1); have k4 : w3.cell? ⟨wr.heap.size, 0, none⟩ = some (.int .i64 a) := (hb3.cell (by simp)).trans (by simp [go_sem]); have k5 : w3.cell? ⟨wr.heap.size, 1, none⟩ = some (.int .i64 b) := (hb3.cell (by simp)).trans (by simp [go_sem])) | (go_at_call 76; refine (hMt _).mono ?_; rintro ex w4 ⟨rfl, hb4⟩; have hz4 := hb4.size; have k6 : w4.cell? ⟨wr.heap.size, 0, none⟩ = some (.int .i64 a) := (hb4.cell (by show wr.heap.size < _; omega)).trans k4; have k7 : w4.cell? ⟨wr.heap.size, 1, none⟩ = some (.int .i64 b) := (hb4.cell (by show wr.heap.size < _; omega)).trans k5)) | (at_builtin; refine wpList_append_lies _ rfl _ _ _ rfl (w.heap.size + 2) 44 i0 _ 2 16 Tryd.underlying48 hi0 hz0 hz1 hz2 rfl (by decide) (.slice (some ⟨g, 0, none⟩) N cp) N (gv (PI (c, d) (e, f) t k)) (by rfl) ((own2_below (own2_below (hown.alloc _) hb3) hb4).alloc _) ⟨w4.heap.size, 0, none⟩ 1 1 [.int .i64 a, .int .i64 b] (by rfl) (by rfl) (World.news_of_block (cs := #[.int .i64 a, .int .i64 b]) (t := 44) (fr := (0, 0)) (heap_alloc_new w4 _)) (by simp [Value.oneCell']) (by omega) (by unfold maxLen; omega) (by omega) (by simp; omega) (w4.heap.size + 1) (by simp) ?_; intro gg capA w5 hown5 hgrow5 hatg hltg; have hz5 := hgrow5.size; (simp only [World.size_alloc] at hz5); have hgg : w.heap.size + 2 ≤ gg := (hown5.lt gg rfl).1))
                have hgB := (hown.lt g rfl).1
                have hb5 : Below (w.heap.size + 2) ((w.alloc (.cells #[.int .i64 c, .int .i64 d] 44)).alloc (.cells #[.int .i64 e, .int .i64 f] 44)) w5 := Below.grown ((Qtrans hb4 (by omega) (Qtrans hb3 (by simp; omega) (hbel.alloc (by omega) _))).alloc (by omega) _) hgrow5 (by simp; omega) (fun k hk => by simp [Value.ownBlock] at hk; omega)
                exact ⟨⟨k + 1, gg, capA, N + 1, by omega, by congr 1, rfl, by rw [hPI'.out, List.length_append, hN]; rfl, by rw [hPI'.out, gv_app]; exact hown5, hb5⟩, by simp [intOf]; omega⟩
            · rw [decide_eq_false h0, Bool.false_and] at hin
              have hIm := hI false hin
              clear hin hI
              have hPI := Lib.hid (PI_out (lo := (c, d)) (hi := (e, f)) hIm.out)
              go_wp2_with (first | (go_at_call 75; refine (hS _).mono ?_; rintro ex w3 ⟨rfl, hb3⟩; have hz3 := hb3.size; (simp only [World.size_alloc] at hz3); have k0 : w3.cell? ⟨w.heap.size, 0, none⟩ = some (.int .i64 c) := (hb3.cell (by simp; omega)).trans ((calloc hbw).trans hcl0); have k1 : w3.cell? ⟨w.heap.size, 1, none⟩ = some (.int .i64 d) := (hb3.cell (by simp; omega)).trans ((calloc hbw).trans hcl1); have k2 : w3.cell? ⟨w.heap.size + 1, 0, none⟩ = some (.int .i64 e) := (hb3.cell (by simp; omega)).trans ((calloc hbw1).trans hch0); have k3 : w3.cell? ⟨w.heap.size + 1, 1, none⟩ = some (.int .i64 f) := (hb3.cell (by simp; omega)).trans ((calloc hbw1).trans hch1); have k4 : w3.cell? ⟨wr.heap.size, 0, none⟩ = some (.int .i64 a) := (hb3.cell (by simp)).trans (by simp [go_sem]); have k5 : w3.cell? ⟨wr.heap.size, 1, none⟩ = some (.int .i64 b) := (hb3.cell (by simp)).trans (by simp [go_sem])) | (go_at_call 76; refine (hMt _).mono ?_; rintro ex w4 ⟨rfl, hb4⟩; have hz4 := hb4.size; have k6 : w4.cell? ⟨wr.heap.size, 0, none⟩ = some (.int .i64 a) := (hb4.cell (by show wr.heap.size < _; omega)).trans k4; have k7 : w4.cell? ⟨wr.heap.size, 1, none⟩ = some (.int .i64 b) := (hb4.cell (by show wr.heap.size < _; omega)).trans k5))
              exact ⟨⟨k + 1, g, cp, N, by omega, by congr 1, rfl, by rw [hPI.out]; exact hN, by rw [hPI.out]; exact own2_below (hown.alloc _) hb3, Qtrans hb3 (by simp; omega) (hbel.alloc (by omega) _)⟩, by simp [intOf]; omega⟩
          · obtain rfl : k = 7 := by omega
            go_wp2_with fail
            exact ⟨⟨t + 1, g, cp, N, by omega, by have := hb'.out; congr 1; omega, rfl, by rw [← PI_roll]; exact hN, by rw [← PI_roll]; exact hown, hbel⟩, by have := hb'.out; simp [intOf]; omega⟩
      · obtain rfl : t = 400 := by omega
        have hge : ¬ b < fr + 400 := by omega
        rw [PI_end] at hN hown
        have hNb := allI_len (c, d) (e, f) 400
        rw [hN] at hNb
        have hsort := sortC_any (w.heap.size + 2) g N cp (allI (c, d) (e, f) 400) wr (fun z hz => by
          obtain ⟨⟨h1, h2⟩, h3, h4⟩ := allI_bp hw'.out hz
          exact ⟨⟨by omega, by omega⟩, by omega, by omega⟩) (by omega) hown
        have hcp : N ≤ cp := by
          rcases hown.2 with ⟨h', _⟩ | ⟨_, _, _, h', _, _, hc, hm, _⟩
          · cases h'
          · cases h'; exact hc
        have h1 : (0 : Int) ≤ (n : Int) := by omega
        have hN' := Lib.hid hN
        clear hN hown
        have hsixty : n ≤ N := by have := allI_sixty hw'.out; have := hN'.out; omega
        have h2 : (n : Int) ≤ (N : Int) := by omega
        have h3 : (n : Int) ≤ (cp : Int) := by omega
        go_wp2_with (first | (go_at_call 69; refine hsort.mono ?_; rintro ex w3 ⟨rfl, M, hp, hs, hown3, hb3, hz3⟩))
        go_ret
        obtain ⟨q1, q2⟩ := sorted_first hw'.out hp hs n hn
        refine ⟨g, cp, rfl, ?_, Qtrans (hb3.mono (Nat.le_refl _)) (by omega) (Qtrans hbel (by omega) (((Below.refl _ w).alloc (Nat.le_refl _) _).alloc (by simp) _))⟩
        rw [← q1]
        exact own2_mono (own2_prefix hown3 hsixty) (by omega)
end Go.Proofs.YtilbhingfnjppaaDoor
