/- Injective substitutions: the walk of the program's own. -/
import Derived.Test.YtilbhingfnjppabInjP
import Derived.Test.YtilbhingfnjppabInjM
import Derived.Test.YtilbhingfnjppabSubst
import Derived.Test.YtilbhingfnjppabBase2
set_option linter.unusedSimpArgs false
set_option linter.unusedVariables false
namespace Go.Proofs.Ytilbhingfnjppab
open Go.RowKit
open Classical in
noncomputable def injB (zs : List ByteArray) (n : Nat) : Bool := decide (injP zs n)
theorem injB_yes {zs : List ByteArray} {n : Nat} (h : injP zs n) : injB zs n = true := by simp [injB, h]
theorem injB_no {zs : List ByteArray} {n : Nat} (h : ¬ injP zs n) : injB zs n = false := by simp [injB, h]
theorem ne_app3 {g b gg n cap H : Nat} (hne : b ≠ g) (hgl : b < H) (hat : (Value.slice (some ⟨g, 0, none⟩) n cap).ownBlock = some gg ∨ gg = H + 1) : b ≠ gg := by
  rcases hat with e | e
  · have : g = gg := by simpa [Value.ownBlock] using e
    omega
  · omega
theorem small8_of {zs : List ByteArray} {p : Nat} (hl : zs.length = p) (h : ∀ j, j < p → (zs.getD j ByteArray.empty).size ≤ 8) : small8 zs := by
  intro j
  by_cases hj : j < p
  · exact h j hj
  · rw [List.getD_eq_getElem?_getD, List.getElem?_eq_none (by omega)]; exact Nat.zero_le _
theorem s_bounds {zs : List ByteArray} {n : Nat} (hl : zs.length = n) (h : sB zs = true) : n ≤ 4 ∧ ∀ j, j < n → (zs.getD j ByteArray.empty).size ≤ 8 := by
  have q := s_of h
  exact ⟨by have := q.1; omega, fun j hj => (q.2 j (by omega)).1.2⟩
set_option maxRecDepth 20000 in
set_option maxHeartbeats 4000000 in
theorem implInj_ok (x : Option Addr) (p cap n : Nat) (zs : List ByteArray) (w : World) (h : IsStrs w x p cap zs) (hp : p ≤ 1048576) (hS : sB zs = true) (hn : 1 ≤ n ∧ n ≤ 4) :
    Calls Try.prog 15 #[.agg #[.slice x p cap], .int .i64 n] w fun e w' => e = .returned (.bool (injB zs n)) ∧ Below w.heap.size w w' := by
  obtain ⟨i0, hi0, hz0, hz1, hz2⟩ := info_parts infoS
  have hlen := h.1
  obtain ⟨hn4, hz8⟩ := s_bounds hlen hS
  have hp1 : 1 ≤ p := by have := (s_of hS).1.1; omega
  have h8 := Lib.hid (small8_of hlen hz8)
  have hinj : Hid (∀ L R, wds p n = L ++ R → L.length ≤ 100000 → True) := fun _ _ _ _ => trivial
  have hb0 : Below w.heap.size w (w.alloc (.cells #[.slice x p cap] 25)) := (Below.refl _ w).alloc (Nat.le_refl _) _
  have h' := isStrs_below h (Nat.le_refl _) hb0
  have hN : inB n 1 4 = true := inB_true.2 (by omega)
  obtain ⟨hn1, hn5⟩ := hn
  have hnI : (n : Int) ≤ 4 := by omega
  have hpI : (p : Int) ≤ 4 := by omega
  have hlen' := Lib.hid hlen
  clear hinj hz8 h hlen
  go_enter Try.func15, Try.ntmps15
  go_wp2_with (first | (go_at_call 32; refine (implSubstOk_any _ _ _ _ _ h' hp).mono ?_; rintro e w1 ⟨rfl, hb1⟩; obtain ⟨hc1, hf1⟩ := bcell hb1; have hmk := run_makeMap_plain (P := Try.prog) w1 86; obtain ⟨w3, hins, hm3, hg3⟩ := ms_put (ms_made w1) (by unfold maxLen; omega) ⟨#[]⟩ (by show 0 ≤ _; omega)) | (go_at_call 65; refine (within_any _ _ _ _).mono ?_; rintro e w1 ⟨rfl, rfl⟩))
  have hst := isStrs_below h' (Nat.le_refl _) hb1
  have hcB : w1.cell? ⟨w.heap.size, 0, none⟩ = some (.slice x p cap) := (hb1.cell (by simp)).trans (by simp [go_sem])
  have hz1' := hb1.size
  simp only [World.size_alloc] at hz1'
  have hbA : Below w.heap.size w w1 := Qtrans hb1 (by simp) hb0
  have hz3 := hg3.size
  simp only [World.size_alloc] at hz3
  have hbel3 : Below w1.heap.size w1 w3 := ((Below.refl _ w1).alloc (Nat.le_refl _) _).grown hg3 (by simp) (fun k hk => by cases hk; exact Nat.le_refl _)
  have hown0 := World.ownsRow_lit (base := w1.heap.size + 1) (e := 9) (size := 1) w3 #[.string ⟨#[]⟩] 1 hz3 (by decide) rfl
  have hms0 : MS (w3.alloc (.cells #[.string ⟨#[]⟩] 9)) w1.heap.size 1 (imgs zs (wds p 0)) := ms_kept (w' := w3.alloc (.cells #[.string ⟨#[]⟩] 9)) hm3 (World.grownBy_alloc w3 _ none) (by simp)
  clear hb1 hc1 hf1 h' hb0 hmk hins hm3
  go_loopw [6, 25] (fun layer iv wr => ∃ i gL cL l m : Nat, i ≤ n ∧ iv = .int .i64 i ∧ layer = .slice (some ⟨gL, 0, none⟩) l cL ∧ (lev p i).length = l ∧ Hid (imgs zs (wds p i)).Nodup ∧ wr.ownsRow (w1.heap.size + 1) 9 1 (.slice (some ⟨gL, 0, none⟩) l cL) l (sv (lev p i)) ∧ MS wr w1.heap.size m (imgs zs (wds p i)) ∧ m ≤ 1 + 1024 * i ∧ Below w1.heap.size w1 wr) (fun _ iv _ => n - (intOf iv).toNat)
  case atStart => exact ⟨0, w3.heap.size, 1, 1, 1, by omega, rfl, rfl, rfl, Lib.hid (by simp [imgs, wds]), hown0, hms0, by omega, hbel3.alloc (by omega) _⟩
  case round =>
    clear hown0 hms0 hbel3 hg3
    obtain ⟨i, gL, cL, l, m, hin, rfl, rfl, hll, hnd, hown, hms, hm, hbel⟩ := hrel
    have hzb := hbel.size
    have hi0' : (0 : Int) ≤ (i : Int) := by omega
    by_cases hlt : i < n
    · have hi1' : (i : Int) < (n : Int) := by omega
      have hl256 : l ≤ 256 := by rw [← hll, lev_len]; exact (pow_bounds hp1 hn4 (by omega)).2
      have hown2 := World.ownsRow_lit (base := w1.heap.size + 1) (e := 9) (size := 1) wr #[] 0 (by have := (hown.lt gL rfl); omega) (by decide) rfl
      have hownL := hown.alloc (.cells #[] 9)
      have hmsL := ms_kept hms (World.grownBy_alloc wr (.cells #[] 9) none) (by simp)
      have hgLl := (hown.lt gL rfl).2
      clear hown hms
      go_wp2_with fail
      go_loopw [7, 30] (fun nx av wr => ∃ a gN cN N m : Nat, a ≤ l ∧ av = .int .i64 a ∧ nx = .slice (some ⟨gN, 0, none⟩) N cN ∧ (extL p ((lev p i).take a)).length = N ∧ N ≤ 4 * a ∧ Hid (imgs zs (wds p i ++ extL p ((lev p i).take a))).Nodup ∧ wr.ownsRow (w1.heap.size + 1) 9 1 (.slice (some ⟨gN, 0, none⟩) N cN) N (sv (extL p ((lev p i).take a))) ∧ wr.ownsRow (w1.heap.size + 1) 9 1 (.slice (some ⟨gL, 0, none⟩) l cL) l (sv (lev p i)) ∧ Hid (gL ≠ gN) ∧ MS wr w1.heap.size m (imgs zs (wds p i ++ extL p ((lev p i).take a))) ∧ m ≤ 1 + 1024 * i + 4 * a ∧ Below w1.heap.size w1 wr) (fun _ av _ => l - (intOf av).toNat)
      case atStart => exact ⟨0, wr.heap.size, 0, 0, m, by omega, rfl, rfl, by simp [extL], by omega, Lib.hid (by simpa [extL] using hnd.out), by simpa [extL, sv] using hown2, hownL, Lib.hid (by omega), by simpa [extL] using hmsL, by omega, hbel.alloc (by omega) _⟩
      case round =>
        clear hown2 hownL hmsL
        obtain ⟨a, gN, cN, N, m, hal, rfl, rfl, hNl, hN4, hnd2, hownN, hownL, hne, hms, hm, hbel2⟩ := hrel
        have hzb2 := hbel2.size
        have ha0 : (0 : Int) ≤ (a : Int) := by omega
        by_cases hlt2 : a < l
        · have ha1 : (a : Int) < (l : Int) := by omega
          have hck := own_cell hownL a hlt2
          rw [sv_at _ _ (by omega)] at hck
          have hgl2 := (hownL.lt gL rfl).2
          have hcB2 : wr.cell? ⟨w.heap.size, 0, none⟩ = some (.slice x p cap) := (hbel2.cell (by show w.heap.size < _; omega)).trans hcB
          have hbw2 : w.heap.size < wr.heap.size := by omega
          have hnext := Lib.hid (extL_next p a (lev p i) (by omega))
          have hxm : (lev p i).getD a ByteArray.empty ∈ lev p i := by rw [List.getD_eq_getElem?_getD, List.getElem?_eq_getElem (by omega)]; exact List.getElem_mem _
          have hxs := lev_size p i _ hxm
          have hxsh := lev_short hn4 i (by omega) _ hxm
          have hpre := Lib.hid (fun j (hj : j < p) => wds_pre (p := p) (n := n) (i := i) (a := a) (j := j) hlt (by omega) hj)
          obtain ⟨M, hM⟩ : ∃ M, extL p ((lev p i).take a) = M := ⟨_, rfl⟩
          obtain ⟨xw, hxw⟩ : ∃ z, (lev p i).getD a ByteArray.empty = z := ⟨_, rfl⟩
          rw [hM] at hNl hnd2 hownN hms hnext hpre
          rw [hxw] at hck hxs hxsh hnext hpre
          have hxsh' := Lib.hid hxsh
          clear hM hxw hxm hxsh
          go_wp2_with fail
          go_loopw [7, 37] (fun nx jv wr => ∃ j gN cN m : Nat, j ≤ p ∧ jv = .int .i64 j ∧ nx = .slice (some ⟨gN, 0, none⟩) (N + j) cN ∧ Hid (imgs zs (wds p i ++ M ++ ext1 j xw)).Nodup ∧ wr.ownsRow (w1.heap.size + 1) 9 1 (.slice (some ⟨gN, 0, none⟩) (N + j) cN) (N + j) (sv (M ++ ext1 j xw)) ∧ wr.ownsRow (w1.heap.size + 1) 9 1 (.slice (some ⟨gL, 0, none⟩) l cL) l (sv (lev p i)) ∧ Hid (gL ≠ gN) ∧ MS wr w1.heap.size m (imgs zs (wds p i ++ M ++ ext1 j xw)) ∧ m ≤ 1 + 1024 * i + 4 * a + j ∧ Below w1.heap.size w1 wr) (fun _ jv _ => p - (intOf jv).toNat)
          case atStart => exact ⟨0, gN, cN, m, by omega, rfl, rfl, Lib.hid (by simpa [ext1] using hnd2.out), by simpa [ext1] using hownN, hownL, hne, by simpa [ext1] using hms, by omega, hbel2⟩
          case round =>
            clear hownN hownL hms hbel2 hzb2 hck hgl2 hcB2 hbw2 hm
            obtain ⟨j, gN, cN, m, hjp, rfl, rfl, hnd3, hownN, hownL, hne, hms, hm, hbel2⟩ := hrel
            have hzb2 := hbel2.size
            have hj0 : (0 : Int) ≤ (j : Int) := by omega
            by_cases hlt3 : j < p
            · have hj1 : (j : Int) < (p : Int) := by omega
              have hj2 : (j : Int) + 1 ≤ 4 := by omega
              have hj3 : (j : Int) ≤ (j : Int) + 1 := by omega
              have hnx := Lib.hid (ext1_next 0 j xw)
              have hls := (letS_facts ⟨j, by omega⟩).1
              simp only at hls
              have hrun := fun w => run_string_add_sum (P := Try.prog) w xw (letS j) (by omega)
              have hsh := short_add hxsh'.out (by omega) hlt3 hn4
              have hpj := hpre.out j hlt3
              obtain ⟨y, hy⟩ : ∃ y, xw ++ letS j = y := ⟨_, rfl⟩
              rw [hy] at hsh hpj
              have hys : y.size ≤ 5 := by rw [← hy, ByteArray.size_append]; omega
              unfold letS at hrun hy
              have hst2 := isStrs_below hst (Nat.le_refl _) hbel2
              have hcB2 : wr.cell? ⟨w.heap.size, 0, none⟩ = some (.slice x p cap) := (hbel2.cell (by show w.heap.size < _; omega)).trans hcB
              have hbw2 : w.heap.size < wr.heap.size := by omega
              have hC := apply_any x p cap zs y wr hst2 hsh h8.out
              have hisz := img_size h8.out y
              have hie : Hid (img zs y = cc y zs y.size) := rfl
              obtain ⟨I, hI⟩ : ∃ I, cc y zs y.size = I := ⟨_, rfl⟩
              rw [hI] at hC hie
              rw [hie.out] at hisz
              have hIs : I.size ≤ maxLen := by unfold maxLen; omega
              have hmx : m < maxLen := by unfold maxLen; omega
              have hgN := (hownN.lt gN rfl).1
              have hgL := (hownL.lt gL rfl).1
              have hgLs := (hownL.lt gL rfl).2
              have hNj : N + j ≤ 2000 := by omega
              obtain ⟨S, hS'⟩ : ∃ S, imgs zs (wds p i ++ M ++ ext1 j xw) = S := ⟨_, rfl⟩
              rw [hS'] at hms hnd3
              have hSS := Lib.hid hS'
              have hpj' := Lib.hid hpj
              have hsn : Hid (imgs zs (wds p i ++ M ++ ext1 (j + 1) xw) = S ++ [I]) := by
                show _ = _
                rw [hnx.out, ← List.append_assoc, imgs_snoc, hS', show xw ++ letS j = y from hy, hie.out]
              have hsv : Hid (sv (M ++ ext1 (j + 1) xw) = sv (M ++ ext1 j xw) ++ [.string y]) := by
                show _ = _
                rw [hnx.out, ← List.append_assoc, sv_snoc, show xw ++ letS j = y from hy]
              have hrun' : ∀ w, (Op.stringOp .add xw ((⟨#[97, 98, 99, 100]⟩ : ByteArray).extract j (j + 1))).run Try.prog w = .ok (.string y) w := fun w => (hrun w).trans (by rw [hy])
              clear hrun hy hI hisz hsh hst2 hls hS' hpj
              cases hmem : memB S I
              · have hnm : I ∉ S := fun q => by rw [(memB_iff S I).2 q] at hmem; cases hmem
                have hnm' := Lib.hid hnm
                clear hnm
                go_wp2_with (first | (go_at_call 66; refine hC.mono ?_; rintro e w5 ⟨rfl, hb5⟩; have hz5 := hb5.size; have hms5 := ms_kept hms (below_grown hb5) (by simp); have hlk := ms_look hms5 I hIs; rw [hmem] at hlk; obtain ⟨w6, hup, hms6, hg6⟩ := ms_put hms5 hmx I hIs; have hz6 := hg6.size; have hownN6 := (own_below hownN hb5).kept hg6 (.inr (by simp [Value.ownBlock]; omega)); have hownL6 := (own_below hownL hb5).kept hg6 (.inr (by simp [Value.ownBlock]; omega))) | (at_builtin; refine wpList_append_lies _ rfl _ _ _ rfl (w1.heap.size + 1) 9 i0 _ 1 16 Try.underlying23 hi0 hz0 hz1 hz2 rfl (by decide) (.slice (some ⟨gN, 0, none⟩) (N + j) cN) (N + j) (sv (M ++ ext1 j xw)) (by rfl) (hownN6.alloc _) ⟨(w6).heap.size, 0, none⟩ 1 1 [.string y] (by rfl) (by rfl) (World.news_of_block (cs := #[.string y]) (t := 9) (fr := (0, 0)) (heap_alloc_new (w6) _)) (by simp [Value.oneCell']) (by omega) (by unfold maxLen; omega) (by omega) (by simp; omega) ((w6).heap.size + 1) (by simp) ?_; intro gg capA w9 hown9 hgrow9 hatg hltg))
                go_roundw
                case rel => exact ⟨j + 1, gg, _, m + 1, by omega, by go_num, rfl, Lib.hid (by rw [hsn.out]; exact nodup_snoc hnd3.out hnm'.out), by rw [hsv.out]; exact hown9, (hownL6.alloc _).kept hgrow9 (.inr (by have := hne.out; simp [Value.ownBlock]; omega)), Lib.hid (ne_app3 hne.out (by omega) hatg), by rw [hsn.out]; exact ms_kept (ms_kept hms6 (World.grownBy_alloc w6 _ none) (by simp)) hgrow9 (by simp [Value.ownBlock]; omega), by omega, (((Qtrans hb5 hzb2 hbel2).grown hg6 (by omega) (fun k hk => by cases hk; exact Nat.le_refl _)).alloc (by omega) _).grown hgrow9 (by simp; omega) (fun k hk => by simp [Value.ownBlock] at hk; omega)⟩
                case measure => (simp [intOf]) <;> omega
              · have hm0 : I ∈ S := (memB_iff S I).1 hmem
                have hno : Hid (injB zs n = false) := by
                  refine injB_no (fun q => ?_)
                  obtain ⟨R, hR⟩ := hpj'.out
                  unfold injP at q
                  rw [hlen'.out, hR] at q
                  have e1 : imgs zs ((wds p i ++ M ++ ext1 j xw ++ [y]) ++ R) = (S ++ [I]) ++ imgs zs R := by
                    unfold imgs at *
                    rw [List.map_append, List.map_append, hSS.out, List.map_singleton, hie.out]
                  rw [e1] at q
                  exact not_nodup hm0 q
                clear hm0
                go_wp2_with (go_at_call 66; refine hC.mono ?_; rintro e w5 ⟨rfl, hb5⟩; have hz5 := hb5.size; have hms5 := ms_kept hms (below_grown hb5) (by simp); have hlk := ms_look hms5 I hIs; rw [hmem] at hlk)
                go_ret
                exact ⟨by rw [hno.out]; rfl, Qtrans hb5 (by omega) (Qtrans hbel2 (by omega) hbA)⟩
            · obtain rfl : p = j := by omega
              have hj4 : ¬ (p : Int) < (p : Int) := by omega
              have hMn : Hid (extL p ((lev p i).take (a + 1)) = M ++ ext1 p xw) := hnext
              go_wp2
              go_roundw
              case rel => exact ⟨a + 1, gN, cN, N + p, m, by omega, by go_num, rfl, by rw [hMn.out, List.length_append, ext1_len, hNl], by omega, Lib.hid (by rw [hMn.out, ← List.append_assoc]; exact hnd3.out), by rw [hMn.out]; exact hownN, hownL, hne, by rw [hMn.out, ← List.append_assoc]; exact hms, by omega, hbel2⟩
              case measure => (simp [intOf]) <;> omega
        · obtain rfl : l = a := by omega
          have ha4 : ¬ (l : Int) < (l : Int) := by omega
          have hfull : (lev p i).take l = lev p i := List.take_of_length_le (by omega)
          rw [hfull] at hNl hnd2 hownN hms
          have hw : Hid (wds p (i + 1) = wds p i ++ extL p (lev p i)) := rfl
          go_wp2
          go_roundw
          case rel => exact ⟨i + 1, gN, cN, N, m, by omega, by go_num, rfl, hNl, Lib.hid (by rw [hw.out]; exact hnd2.out), hownN, by rw [hw.out]; exact hms, by omega, hbel2⟩
          case measure => (simp [intOf]) <;> omega
    · obtain rfl : n = i := by omega
      have hyes : Hid (injB zs n = true) := injB_yes (by unfold injP; rw [hlen'.out]; exact hnd.out)
      go_wp2
      go_ret
      exact ⟨by rw [hyes.out]; rfl, Qtrans hbel (by omega) hbA⟩
end Go.Proofs.Ytilbhingfnjppab
