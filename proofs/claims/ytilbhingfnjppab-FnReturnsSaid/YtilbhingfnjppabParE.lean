/- Parents: the walk of the program's own, and the law. -/
import Derived.Test.YtilbhingfnjppabParD
set_option linter.unusedSimpArgs false
set_option linter.unusedVariables false
namespace Go.Proofs.Ytilbhingfnjppab
open Go.RowKit
set_option maxRecDepth 20000 in
set_option maxHeartbeats 4000000 in
theorem implParent_ok (x : Option Addr) (n cap : Nat) (zs : List ByteArray) (s : ByteArray) (w : World) (h : IsStrs w x n cap zs) (hS : sB zs = true) (hs400 : s.size ≤ 400) (hW : isWB s = true) :
    Calls Try.prog 10 #[.agg #[.slice x n cap], .string s] w fun e w' => e = .returned (paV zs s) ∧ Below w.heap.size w w' := by
  have hlen := h.1
  obtain ⟨hn4, hz8⟩ := s_bounds hlen hS
  have hv1 := Lib.hid (ge1_of hS)
  have hb0 : Below w.heap.size w (w.alloc (.cells #[.slice x n cap] 25)) := (Below.refl _ w).alloc (Nat.le_refl _) _
  have h' := isStrs_below h (Nat.le_refl _) hb0
  have hwl := Lib.hid (wys_len s zs)
  have hlo := Lib.hid (wq_low s zs s.size)
  have hf0 : (0 : Int) < (s.size : Int) + 1 := by omega
  by_cases hF0 : (wys s zs).getD 0 0 = 0
  · have hv := Lib.hid (pa_no hF0)
    go_enter Try.func10, Try.ntmps10
    go_wp2_with (first | (go_at_call 32; refine (implSubstOk_any _ _ _ _ _ h' (by omega)).mono ?_; rintro e w0 ⟨rfl, hb00⟩; obtain ⟨hc00, hf00⟩ := bcell hb00; have hl00 := ltW hb00) | (go_at_call 62; refine (isWord_any _ _ (by omega)).mono ?_; rintro e w1 ⟨rfl, rfl⟩))
    have h'0 := isStrs_below h' (Nat.le_refl _) hb00
    have hz00 := hb00.size
    simp only [World.size_alloc] at hz00
    go_wp2_with (go_at_call 63; refine (implWays_any _ _ _ _ _ _ h'0 hn4 hz8 hs400).mono ?_; rintro e wA ⟨g, rfl, hg, hown, hb1⟩; have hcc := own_cell hown 0 (by omega); rw [iv_at _ _ (by rw [hwl.out]; omega), hF0] at hcc)
    refine bodyPost_ret (v := paV zs s) (by rw [hv.out]; simp [results, Try.results10, go_sem]) rfl ⟨rfl, by (repeat (first | with_reducible exact Below.refl _ _ | assumption | with_reducible refine Qdrew ?_ | with_reducible refine QdrewN ?_ | ((with_reducible refine Qset ?_ ?_); exact (by ((try simp only [World.size_alloc, World.size_setCell, World.size_drew, size_drewN]); (try dsimp only); omega))) | ((with_reducible refine Qalloc ?_ ?_); exact (by ((try simp only [World.size_alloc, World.size_setCell, World.size_drew, size_drewN]); (try dsimp only); omega))) | refine Qtrans (by assumption) (by ((try simp only [World.size_alloc, World.size_setCell, World.size_drew, size_drewN]); (try dsimp only); omega)) ?_))⟩
  have hv := Lib.hid (pa_yes hF0)
  have hFp : Hid (0 < (wys s zs).getD 0 0) := by have := hlo.out 0; show _ < _; unfold wys at *; omega
  have hFz : ((wys s zs).getD 0 0 == 0) = false := by simpa using hF0
  obtain ⟨F0, hFe⟩ : ∃ F0, (wys s zs).getD 0 0 = F0 := ⟨_, rfl⟩
  rw [hFe] at hFz
  have hFe' := Lib.hid hFe
  clear hF0 hFe
  go_enter Try.func10, Try.ntmps10
  go_wp2_with (first | (go_at_call 32; refine (implSubstOk_any _ _ _ _ _ h' (by omega)).mono ?_; rintro e w0 ⟨rfl, hb00⟩; obtain ⟨hc00, hf00⟩ := bcell hb00; have hl00 := ltW hb00) | (go_at_call 62; refine (isWord_any _ _ (by omega)).mono ?_; rintro e w1 ⟨rfl, rfl⟩))
  have h'0 := isStrs_below h' (Nat.le_refl _) hb00
  have hz00 := hb00.size
  simp only [World.size_alloc] at hz00
  go_wp2_with (go_at_call 63; refine (implWays_any _ _ _ _ _ _ h'0 hn4 hz8 hs400).mono ?_; rintro e wA ⟨g, rfl, hg, hown, hb1⟩; have hcc := own_cell hown 0 (by omega); rw [iv_at _ _ (by rw [hwl.out]; omega), hFe'.out] at hcc)
  have hcB : wA.cell? ⟨w.heap.size, 0, none⟩ = some (.slice x n cap) := (hb1.cell (by show w.heap.size < _; omega)).trans ((hb00.cell (by simp)).trans (by simp [go_sem]))
  have hstA := isStrs_below h'0 (Nat.le_refl _) hb1
  have hgA := (hown.lt g rfl).2
  have hb0A : Below w.heap.size w w0 := Qtrans hb00 (by simp) hb0
  have hbA : Below w.heap.size w wA := Qtrans hb1 (by omega) hb0A
  have hzA := hb1.size
  go_loopw [7, 8] (fun ov i wr => ∃ (m p : Nat) (acc : List UInt8), Hid (its s zs (wys s zs) m = (acc, p)) ∧ m ≤ p ∧ p ≤ s.size ∧ Hid (0 < (wys s zs).getD p 0) ∧ i = .int .i64 p ∧ ov = .string ⟨acc.toArray⟩ ∧ acc.length ≤ m ∧ wA = wr) (fun _ i _ => s.size - (intOf i).toNat)
  case atStart => exact ⟨0, 0, [], Lib.hid rfl, Nat.le_refl _, by omega, hFp, rfl, rfl, Nat.le_refl _, by first | rfl | trivial⟩
  case round =>
    obtain ⟨m, p, acc, hit, hmp, hps, hpos, rfl, rfl, hacc, rfl⟩ := hrel
    have hp0 : (0 : Int) ≤ (p : Int) := by omega
    by_cases hlt : p < s.size
    · have hlt' : (p : Int) < (s.size : Int) := by omega
      have hp1 : (p : Int) ≤ (s.size : Int) := by omega
      go_wp2
      go_loopw [7, 8, 33] (fun ov i kk wr2 => ∃ k : Nat, k ≤ n ∧ kk = .int .i64 k ∧ i = .int .i64 p ∧ ov = .string ⟨acc.toArray⟩ ∧ Hid (∀ j, j < k → good s (wys s zs) p (zs.getD j ByteArray.empty) = false) ∧ wA = wr2) (fun _ _ kk _ => n - (intOf kk).toNat)
      case atStart => exact ⟨0, by omega, rfl, rfl, rfl, Lib.hid (fun _ q => absurd q (by omega)), by first | rfl | trivial⟩
      case round =>
        obtain ⟨k, hk, rfl, rfl, rfl, hno, rfl⟩ := hrel
        by_cases hkn : k < n
        · obtain ⟨b, off, rfl, hbl, hc⟩ := isStrs_cell hstA (by omega)
          have hck := hc k hkn
          have hv8 := hz8 k hkn
          have hvv : 1 ≤ (zs.getD k ByteArray.empty).size := hv1.out _ (getD_mem (by omega))
          obtain ⟨v, hve⟩ : ∃ v, zs.getD k ByteArray.empty = v := ⟨_, rfl⟩
          rw [hve] at hck hv8 hvv
          have hve' := Lib.hid hve
          have hk0 : (0 : Int) ≤ (k : Int) := by omega
          have hk1 : (k : Int) < (n : Int) := by omega
          clear hve hc
          by_cases hle : p + v.size ≤ s.size
          · have hq1 : (p : Int) + (v.size : Int) ≤ (s.size : Int) := by omega
            have hq2 : (0 : Int) ≤ (p : Int) + (v.size : Int) := by omega
            have hq3 : (p : Int) + (v.size : Int) < (s.size : Int) + 1 := by omega
            have hq4 : (p : Int) ≤ (p : Int) + (v.size : Int) := by omega
            have hcF : wA.cell? ⟨g, p + v.size, none⟩ = some (.int .i64 ((wys s zs).getD (p + v.size) 0)) := by rw [own_cell hown (p + v.size) (by omega), iv_at _ _ (by rw [hwl.out]; omega)]
            obtain ⟨y, hy⟩ : ∃ y, (wys s zs).getD (p + v.size) 0 = y := ⟨_, rfl⟩
            rw [hy] at hcF
            have hgd : Hid (good s (wys s zs) p v = ((s.extract p (p + v.size)).toList == v.toList && decide (0 < y))) := by
              show _ = _
              simp only [good, hitP, hle, hy, decide_true, Bool.true_and]
            have hy' := Lib.hid hy
            clear hy
            cases heq : (s.extract p (p + v.size)).toList == v.toList
            · have hg0 := Lib.hid (hgd.out.trans (by rw [heq, Bool.false_and]))
              have hh : hitP s v p = false := by simp [hitP, hle, heq]
              go_wp2_with ((go_at_call 64; refine (hasPrefix_any _ _ _ _ hps).mono ?_; rintro e w1 ⟨rfl, rfl⟩))
              all_goals
                go_roundw
                case rel => exact ⟨k + 1, by omega, by go_num, rfl, rfl, Lib.hid (fun j hj => by
                    by_cases e : j = k
                    · subst e; rw [hve'.out]; exact hg0.out
                    · exact hno.out j (by omega)), by first | rfl | trivial⟩
                case measure => (simp [intOf]) <;> omega
            · by_cases hy0 : 0 < y
              · have hg1 := hgd.out.trans (by rw [heq, decide_eq_true hy0, Bool.and_true])
                rw [← hve'.out] at hg1
                have hch := ch_is (k := k) (by omega) hg1 hno.out
                have hnx := Lib.hid (its_next hit.out hlt hch)
                have hrun := letter_run acc k (by omega) (by omega)
                have hh : hitP s v p = true := by simp [hitP, hle, heq]
                have hi1 : (k : Int) ≤ (k : Int) + 1 := by omega
                have hi2 : (k : Int) + 1 ≤ 4 := by omega
                clear hg1 hch
                go_wp2_with ((go_at_call 64; refine (hasPrefix_any _ _ _ _ hps).mono ?_; rintro e w1 ⟨rfl, rfl⟩))
                go_roundw
                case rel => exact ⟨m + 1, p + v.size, acc ++ [97 + UInt8.ofNat k], Lib.hid (by rw [hnx.out, hve'.out]), by omega, by omega, Lib.hid (by rw [hy'.out]; exact hy0), by go_num, rfl, by rw [List.length_append]; simp; omega, by first | rfl | trivial⟩
                case measure => (simp [intOf]) <;> omega
              · have hg0 := Lib.hid (hgd.out.trans (by rw [decide_eq_false hy0, Bool.and_false]))
                have hh : hitP s v p = true := by simp [hitP, hle, heq]
                go_wp2_with ((go_at_call 64; refine (hasPrefix_any _ _ _ _ hps).mono ?_; rintro e w1 ⟨rfl, rfl⟩))
                all_goals
                  go_roundw
                  case rel => exact ⟨k + 1, by omega, by go_num, rfl, rfl, Lib.hid (fun j hj => by
                      by_cases e : j = k
                      · subst e; rw [hve'.out]; exact hg0.out
                      · exact hno.out j (by omega)), by first | rfl | trivial⟩
                  case measure => (simp [intOf]) <;> omega
          · have hg0 : Hid (good s (wys s zs) p v = false) := by show _ = _; simp [good, hitP, hle]
            have hq1 : ¬ (p : Int) + (v.size : Int) ≤ (s.size : Int) := by omega
            have hh : hitP s v p = false := by simp [hitP, hle]
            go_wp2_with ((go_at_call 64; refine (hasPrefix_any _ _ _ _ hps).mono ?_; rintro e w1 ⟨rfl, rfl⟩))
            all_goals
              go_roundw
              case rel => exact ⟨k + 1, by omega, by go_num, rfl, rfl, Lib.hid (fun j hj => by
                  by_cases e : j = k
                  · subst e; rw [hve'.out]; exact hg0.out
                  · exact hno.out j (by omega)), by first | rfl | trivial⟩
              case measure => (simp [intOf]) <;> omega
        · exfalso
          exact some_good hlen hv1.out hlt hpos.out (fun j hj => hno.out j (by omega))
    · have hpe := Lib.hid (show p = s.size by omega)
      have hlt' : ¬ (p : Int) < (s.size : Int) := by omega
      have hpar : Hid (par s zs = acc) := by
        show _ = _
        have e := its_end (s := s) (zs := zs) (F := wys s zs) (m := m) (by rw [hit.out]; exact Nat.le_of_eq hpe.out.symm) (by rw [← hpe.out]; exact hmp)
        unfold par; rw [e, hit.out]
      have hv2 : Hid (paV zs s = .tuple #[.string ⟨acc.toArray⟩, .bool true]) := by show _ = _; rw [hv.out, hpar.out]
      go_wp2
      refine bodyPost_ret (v := paV zs s) (by rw [hv2.out]; simp [results, Try.results10, go_sem]) rfl ⟨rfl, hbA⟩
noncomputable def pofV (zs : List ByteArray) (s : ByteArray) : Value := if sB zs && isWB s then paV zs s else .tuple #[.string ⟨#[]⟩, .bool false]
theorem pof_form (zs : List ByteArray) (s : ByteArray) : ∃ (v : ByteArray) (b : Bool), pofV zs s = .tuple #[.string v, .bool b] := by
  unfold pofV paV; split
  · split
    · exact ⟨_, _, rfl⟩
    · exact ⟨_, _, rfl⟩
  · exact ⟨_, _, rfl⟩
theorem pa_form (zs : List ByteArray) (s : ByteArray) : ∃ (v : ByteArray) (b : Bool), paV zs s = .tuple #[.string v, .bool b] := by
  unfold paV; split
  · exact ⟨_, _, rfl⟩
  · exact ⟨_, _, rfl⟩
set_option maxRecDepth 20000 in
set_option maxHeartbeats 1000000 in
theorem implParent_any (x : Option Addr) (n cap : Nat) (zs : List ByteArray) (s : ByteArray) (w : World) (h : IsStrs w x n cap zs) (hn : n ≤ 1048576) (hs : s.size ≤ 9223372036854775807) :
    Calls Try.prog 10 #[.agg #[.slice x n cap], .string s] w fun e w' => e = .returned (pofV zs s) ∧ Below w.heap.size w w' := by
  have hb0 : Below w.heap.size w (w.alloc (.cells #[.slice x n cap] 25)) := (Below.refl _ w).alloc (Nat.le_refl _) _
  have h' := isStrs_below h (Nat.le_refl _) hb0
  cases hk : sB zs && isWB s
  · have hv : Hid (pofV zs s = .tuple #[.string ⟨#[]⟩, .bool false]) := by show _ = _; simp [pofV, hk]
    cases hS : sB zs
    · go_enter Try.func10, Try.ntmps10
      go_wp2_with (go_at_call 32; refine (implSubstOk_any _ _ _ _ _ h' hn).mono ?_; rintro e w1 ⟨rfl, hb1⟩)
      refine bodyPost_ret (v := pofV zs s) (by rw [hv.out]; simp [results, Try.results10, go_sem]) rfl ⟨rfl, by (repeat (first | with_reducible exact Below.refl _ _ | assumption | with_reducible refine Qdrew ?_ | with_reducible refine QdrewN ?_ | ((with_reducible refine Qset ?_ ?_); exact (by ((try simp only [World.size_alloc, World.size_setCell, World.size_drew, size_drewN]); (try dsimp only); omega))) | ((with_reducible refine Qalloc ?_ ?_); exact (by ((try simp only [World.size_alloc, World.size_setCell, World.size_drew, size_drewN]); (try dsimp only); omega))) | refine Qtrans (by assumption) (by ((try simp only [World.size_alloc, World.size_setCell, World.size_drew, size_drewN]); (try dsimp only); omega)) ?_))⟩
    · rw [hS, Bool.true_and] at hk
      go_enter Try.func10, Try.ntmps10
      go_wp2_with (first | (go_at_call 32; refine (implSubstOk_any _ _ _ _ _ h' hn).mono ?_; rintro e w1 ⟨rfl, hb1⟩) | (go_at_call 62; refine (isWord_any _ _ hs).mono ?_; rintro e w1 ⟨rfl, rfl⟩))
      refine bodyPost_ret (v := pofV zs s) (by rw [hv.out]; simp [results, Try.results10, go_sem]) rfl ⟨rfl, by (repeat (first | with_reducible exact Below.refl _ _ | assumption | with_reducible refine Qdrew ?_ | with_reducible refine QdrewN ?_ | ((with_reducible refine Qset ?_ ?_); exact (by ((try simp only [World.size_alloc, World.size_setCell, World.size_drew, size_drewN]); (try dsimp only); omega))) | ((with_reducible refine Qalloc ?_ ?_); exact (by ((try simp only [World.size_alloc, World.size_setCell, World.size_drew, size_drewN]); (try dsimp only); omega))) | refine Qtrans (by assumption) (by ((try simp only [World.size_alloc, World.size_setCell, World.size_drew, size_drewN]); (try dsimp only); omega)) ?_))⟩
  · have hk2 := hk
    rw [Bool.and_eq_true] at hk2
    exact (implParent_ok x n cap zs s w h hk2.1 (isW_of hk2.2).1 hk2.2).mono fun e w' q => ⟨q.1.trans (by simp only [pofV]; rw [hk]; rfl), q.2⟩
end Go.Proofs.Ytilbhingfnjppab
