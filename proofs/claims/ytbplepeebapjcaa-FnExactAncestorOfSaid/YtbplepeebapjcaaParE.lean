/- Parents: the walk of the program's own, and the law. -/
import Derived.Test.YtbplepeebapjcaaParD
set_option linter.unusedSimpArgs false
set_option linter.unusedVariables false
namespace Go.Proofs.Ytbplepeebapjcaa
open Go.RowKit
set_option maxHeartbeats 4000000 in
theorem implParent_ok (x : Option Addr) (n cap : Nat) (zs : List ByteArray) (s : ByteArray) (w : World) (h : IsStrs w x n cap zs) (hS : sB zs = true) (hs400 : s.size ≤ 400) (hW : isWB s = true) :
    Calls Try.prog 42 #[.agg #[.slice x n cap], .string s] w fun e w' => e = .returned (paV zs s) ∧ Below w.heap.size w w' := by
  have hlen := h.1
  obtain ⟨hn4, hz8⟩ := s_bounds hlen hS
  have hv1 := Lib.hid (ge1_of hS)
  have hb0 : Below w.heap.size w (w.alloc (.cells #[.slice x n cap] 34)) := (Below.refl _ w).alloc (Nat.le_refl _) _
  have h' := isStrs_below h (Nat.le_refl _) hb0
  have hwl := Lib.hid (wys_len s zs)
  have hlo := Lib.hid (wq_low s zs s.size)
  have hf0 : (0 : Int) < (s.size : Int) + 1 := by omega
  by_cases hF0 : (wys s zs).getD 0 0 = 0
  · have hv := Lib.hid (pa_no hF0)
    go_enter Try.func42, Try.ntmps42
    go_wp2_with (first | (go_at_call 67; refine (implSubstOk_any _ _ _ _ _ h' (by omega)).mono ?_; rintro e w0 ⟨rfl, hb00⟩; obtain ⟨hc00, hf00⟩ := bcell hb00; have hl00 := ltW hb00) | (go_at_call 57; refine (isWord_any _ _ (by omega)).mono ?_; rintro e w1 ⟨rfl, rfl⟩))
    have h'0 := isStrs_below h' (Nat.le_refl _) hb00
    have hz00 := hb00.size
    simp only [World.size_alloc] at hz00
    go_wp2_with (go_at_call 71; refine (implWays_any _ _ _ _ _ _ h'0 hn4 hz8 hs400).mono ?_; rintro e wA ⟨g, rfl, hg, hown, hb1⟩; have hcc := own_cell hown 0 (by omega); rw [iv_at _ _ (by rw [hwl.out]; omega), hF0] at hcc)
    refine bodyPost_ret (v := paV zs s) (by rw [hv.out]; simp [results, Try.results42, go_sem]) rfl ⟨rfl, by (repeat (first | with_reducible exact Below.refl _ _ | assumption | with_reducible refine Qdrew ?_ | with_reducible refine QdrewN ?_ | ((with_reducible refine Qset ?_ ?_); exact (by ((try simp only [World.size_alloc, World.size_setCell, World.size_drew, size_drewN]); (try dsimp only); omega))) | ((with_reducible refine Qalloc ?_ ?_); exact (by ((try simp only [World.size_alloc, World.size_setCell, World.size_drew, size_drewN]); (try dsimp only); omega))) | refine Qtrans (by assumption) (by ((try simp only [World.size_alloc, World.size_setCell, World.size_drew, size_drewN]); (try dsimp only); omega)) ?_))⟩
  have hv := Lib.hid (pa_yes hF0)
  have hFp : Hid (0 < (wys s zs).getD 0 0) := by have := hlo.out 0; show _ < _; unfold wys at *; omega
  have hFz : ((wys s zs).getD 0 0 == 0) = false := by simpa using hF0
  obtain ⟨F0, hFe⟩ : ∃ F0, (wys s zs).getD 0 0 = F0 := ⟨_, rfl⟩
  rw [hFe] at hFz
  have hFe' := Lib.hid hFe
  clear hF0 hFe
  go_enter Try.func42, Try.ntmps42
  go_wp2_with (first | (go_at_call 67; refine (implSubstOk_any _ _ _ _ _ h' (by omega)).mono ?_; rintro e w0 ⟨rfl, hb00⟩; obtain ⟨hc00, hf00⟩ := bcell hb00; have hl00 := ltW hb00) | (go_at_call 57; refine (isWord_any _ _ (by omega)).mono ?_; rintro e w1 ⟨rfl, rfl⟩))
  have h'0 := isStrs_below h' (Nat.le_refl _) hb00
  have hz00 := hb00.size
  simp only [World.size_alloc] at hz00
  go_wp2_with (go_at_call 71; refine (implWays_any _ _ _ _ _ _ h'0 hn4 hz8 hs400).mono ?_; rintro e wA ⟨g, rfl, hg, hown, hb1⟩; have hcc := own_cell hown 0 (by omega); rw [iv_at _ _ (by rw [hwl.out]; omega), hFe'.out] at hcc)
  have hcB : wA.cell? ⟨w.heap.size, 0, none⟩ = some (.slice x n cap) := (hb1.cell (by show w.heap.size < _; omega)).trans ((hb00.cell (by simp)).trans (by simp [go_sem]))
  have hstA := isStrs_below h'0 (Nat.le_refl _) hb1
  have hgA := (hown.lt g rfl).2
  have hb0A : Below w.heap.size w w0 := Qtrans hb00 (by simp) hb0
  have hbA : Below w.heap.size w wA := Qtrans hb1 (by omega) hb0A
  have hzA := hb1.size
  go_loopw [7, 8] (fun ov i wr => ∃ (m p : Nat) (acc : List UInt8), Hid (its s zs (wys s zs) m = (acc, p)) ∧ m ≤ p ∧ p ≤ s.size ∧ Hid (0 < (wys s zs).getD p 0) ∧ i = .int .i64 p ∧ ov = .string ⟨acc.toArray⟩ ∧ acc.length ≤ m ∧ wA = wr) (fun _ i _ => s.size - (intOf i).toNat)
  case atStart => exact ⟨0, 0, [], Lib.hid rfl, Nat.le_refl _, by omega, hFp, rfl, rfl, Nat.le_refl _, by first | rfl | trivial⟩
  case round =>
    obtain ⟨m, p, acc, hit, hmp, hps, hpos, rfl, rfl, hacc, rfl⟩ := hrel
    have hp0 : (0 : Int) ≤ (p : Int) := by omega
    by_cases hlt : p < s.size
    · have hlt' : (p : Int) < (s.size : Int) := by omega
      have hp1 : (p : Int) ≤ (s.size : Int) := by omega
      go_wp2
      go_loopw [7, 8, 33] (fun ov i kk wr2 => ∃ k : Nat, k ≤ n ∧ kk = .int .i64 k ∧ i = .int .i64 p ∧ ov = .string ⟨acc.toArray⟩ ∧ Hid (∀ j, j < k → good s (wys s zs) p (zs.getD j ByteArray.empty) = false) ∧ wA = wr2) (fun _ _ kk _ => n - (intOf kk).toNat)
      case atStart => exact ⟨0, by omega, rfl, rfl, rfl, Lib.hid (fun _ q => absurd q (by omega)), by first | rfl | trivial⟩
      case round =>
        obtain ⟨k, hk, rfl, rfl, rfl, hno, rfl⟩ := hrel
        by_cases hkn : k < n
        · obtain ⟨b, off, rfl, hbl, hc⟩ := isStrs_cell hstA (by omega)
          have hck := hc k hkn
          have hv8 := hz8 k hkn
          have hvv : 1 ≤ (zs.getD k ByteArray.empty).size := hv1.out _ (getD_mem (by omega))
          obtain ⟨v, hve⟩ : ∃ v, zs.getD k ByteArray.empty = v := ⟨_, rfl⟩
          rw [hve] at hck hv8 hvv
          have hve' := Lib.hid hve
          have hk0 : (0 : Int) ≤ (k : Int) := by omega
          have hk1 : (k : Int) < (n : Int) := by omega
          clear hve hc
          by_cases hle : p + v.size ≤ s.size
          · have hq1 : (p : Int) + (v.size : Int) ≤ (s.size : Int) := by omega
            have hq2 : (0 : Int) ≤ (p : Int) + (v.size : Int) := by omega
            have hq3 : (p : Int) + (v.size : Int) < (s.size : Int) + 1 := by omega
            have hq4 : (p : Int) ≤ (p : Int) + (v.size : Int) := by omega
            have hcF : wA.cell? ⟨g, p + v.size, none⟩ = some (.int .i64 ((wys s zs).getD (p + v.size) 0)) := by rw [own_cell hown (p + v.size) (by omega), iv_at _ _ (by rw [hwl.out]; omega)]
            obtain ⟨y, hy⟩ : ∃ y, (wys s zs).getD (p + v.size) 0 = y := ⟨_, rfl⟩
            rw [hy] at hcF
            have hgd : Hid (good s (wys s zs) p v = ((s.extract p (p + v.size)).toList == v.toList && decide (0 < y))) := by
              show _ = _
              simp only [good, hitP, hle, hy, decide_true, Bool.true_and]
            have hy' := Lib.hid hy
            clear hy
            cases heq : (s.extract p (p + v.size)).toList == v.toList
            · have hg0 := Lib.hid (hgd.out.trans (by rw [heq, Bool.false_and]))
              have hh : hitP s v p = false := by simp [hitP, hle, heq]
              go_wp2_with ((go_at_call 73; refine (hasPrefix_any _ _ _ _ hps).mono ?_; rintro e w1 ⟨rfl, rfl⟩))
              all_goals
                go_roundw
                case rel => exact ⟨k + 1, by omega, by go_num, rfl, rfl, Lib.hid (fun j hj => by
                    by_cases e : j = k
                    · subst e; rw [hve'.out]; exact hg0.out
                    · exact hno.out j (by omega)), by first | rfl | trivial⟩
                case measure => (simp [intOf]) <;> omega
            · by_cases hy0 : 0 < y
              · have hg1 := hgd.out.trans (by rw [heq, decide_eq_true hy0, Bool.and_true])
                rw [← hve'.out] at hg1
                have hch := ch_is (k := k) (by omega) hg1 hno.out
                have hnx := Lib.hid (its_next hit.out hlt hch)
                have hrun := letter_run acc k (by omega) (by omega)
                have hh : hitP s v p = true := by simp [hitP, hle, heq]
                have hi1 : (k : Int) ≤ (k : Int) + 1 := by omega
                have hi2 : (k : Int) + 1 ≤ 4 := by omega
                clear hg1 hch
                go_wp2_with ((go_at_call 73; refine (hasPrefix_any _ _ _ _ hps).mono ?_; rintro e w1 ⟨rfl, rfl⟩))
                go_roundw
                case rel => exact ⟨m + 1, p + v.size, acc ++ [97 + UInt8.ofNat k], Lib.hid (by rw [hnx.out, hve'.out]), by omega, by omega, Lib.hid (by rw [hy'.out]; exact hy0), by go_num, rfl, by rw [List.length_append]; simp; omega, by first | rfl | trivial⟩
                case measure => (simp [intOf]) <;> omega
              · have hg0 := Lib.hid (hgd.out.trans (by rw [decide_eq_false hy0, Bool.and_false]))
                have hh : hitP s v p = true := by simp [hitP, hle, heq]
                go_wp2_with ((go_at_call 73; refine (hasPrefix_any _ _ _ _ hps).mono ?_; rintro e w1 ⟨rfl, rfl⟩))
                all_goals
                  go_roundw
                  case rel => exact ⟨k + 1, by omega, by go_num, rfl, rfl, Lib.hid (fun j hj => by
                      by_cases e : j = k
                      · subst e; rw [hve'.out]; exact hg0.out
                      · exact hno.out j (by omega)), by first | rfl | trivial⟩
                  case measure => (simp [intOf]) <;> omega
          · have hg0 : Hid (good s (wys s zs) p v = false) := by show _ = _; simp [good, hitP, hle]
            have hq1 : ¬ (p : Int) + (v.size : Int) ≤ (s.size : Int) := by omega
            have hh : hitP s v p = false := by simp [hitP, hle]
            go_wp2_with ((go_at_call 73; refine (hasPrefix_any _ _ _ _ hps).mono ?_; rintro e w1 ⟨rfl, rfl⟩))
            all_goals
              go_roundw
              case rel => exact ⟨k + 1, by omega, by go_num, rfl, rfl, Lib.hid (fun j hj => by
                  by_cases e : j = k
                  · subst e; rw [hve'.out]; exact hg0.out
                  · exact hno.out j (by omega)), by first | rfl | trivial⟩
              case measure => (simp [intOf]) <;> omega
        · exfalso
          exact some_good hlen hv1.out hlt hpos.out (fun j hj => hno.out j (by omega))
    · have hpe := Lib.hid (show p = s.size by omega)
      have hlt' : ¬ (p : Int) < (s.size : Int) := by omega
      have hpar : Hid (par s zs = acc) := by
        show _ = _
        have e := its_end (s := s) (zs := zs) (F := wys s zs) (m := m) (by rw [hit.out]; exact Nat.le_of_eq hpe.out.symm) (by rw [← hpe.out]; exact hmp)
        unfold par; rw [e, hit.out]
      have hv2 : Hid (paV zs s = .tuple #[.string ⟨acc.toArray⟩, .bool true]) := by show _ = _; rw [hv.out, hpar.out]
      go_wp2
      refine bodyPost_ret (v := paV zs s) (by rw [hv2.out]; simp [results, Try.results42, go_sem]) rfl ⟨rfl, hbA⟩
noncomputable def pofV (zs : List ByteArray) (s : ByteArray) : Value := if sB zs && isWB s then paV zs s else .tuple #[.string ⟨#[]⟩, .bool false]
theorem pof_form (zs : List ByteArray) (s : ByteArray) : ∃ (v : ByteArray) (b : Bool), pofV zs s = .tuple #[.string v, .bool b] := by
  unfold pofV paV; split
  · split
    · exact ⟨_, _, rfl⟩
    · exact ⟨_, _, rfl⟩
  · exact ⟨_, _, rfl⟩
theorem pa_form (zs : List ByteArray) (s : ByteArray) : ∃ (v : ByteArray) (b : Bool), paV zs s = .tuple #[.string v, .bool b] := by
  unfold paV; split
  · exact ⟨_, _, rfl⟩
  · exact ⟨_, _, rfl⟩
set_option maxHeartbeats 1000000 in
theorem specParent_any (x : Option Addr) (n cap : Nat) (zs : List ByteArray) (s : ByteArray) (w : World) (h : IsStrs w x n cap zs) (hn : n ≤ 1048576) (hs : s.size ≤ 9223372036854775807) :
    Calls Try.prog 41 #[.agg #[.slice x n cap], .string s] w fun e w' => e = .returned (pofV zs s) ∧ Below w.heap.size w w' := by
  have hb0 : Below w.heap.size w (w.alloc (.cells #[.slice x n cap] 34)) := (Below.refl _ w).alloc (Nat.le_refl _) _
  have h' := isStrs_below h (Nat.le_refl _) hb0
  cases hk : sB zs && isWB s
  · have hv : Hid (pofV zs s = .tuple #[.string ⟨#[]⟩, .bool false]) := by show _ = _; simp [pofV, hk]
    go_enter Try.func41, Try.ntmps41
    go_wp2_with (go_at_call 69; refine (l17Ok_any _ _ _ _ _ _ h' hn hs).mono ?_; rintro e w1 ⟨rfl, hb1⟩)
    refine bodyPost_ret (v := pofV zs s) (by rw [hv.out]; simp [results, Try.results41, go_sem]) rfl ⟨rfl, by (repeat (first | with_reducible exact Below.refl _ _ | assumption | with_reducible refine Qdrew ?_ | with_reducible refine QdrewN ?_ | ((with_reducible refine Qset ?_ ?_); exact (by ((try simp only [World.size_alloc, World.size_setCell, World.size_drew, size_drewN]); (try dsimp only); omega))) | ((with_reducible refine Qalloc ?_ ?_); exact (by ((try simp only [World.size_alloc, World.size_setCell, World.size_drew, size_drewN]); (try dsimp only); omega))) | refine Qtrans (by assumption) (by ((try simp only [World.size_alloc, World.size_setCell, World.size_drew, size_drewN]); (try dsimp only); omega)) ?_))⟩
  · obtain ⟨v, b, hvb⟩ := pa_form zs s
    have hv : Hid (pofV zs s = .tuple #[.string v, .bool b]) := by show _ = _; rw [← hvb]; simp only [pofV]; rw [hk]; rfl
    have hk2 := hk
    rw [Bool.and_eq_true] at hk2
    have hs4 := (isW_of hk2.2).1
    have hc := fun (w : World) (q : IsStrs w x n cap zs) => hvb ▸ l17Parent_any x n cap zs s w q hk2.1 hs4
    clear hk2 hvb
    go_enter Try.func41, Try.ntmps41
    go_wp2_with (go_at_call 69; refine (l17Ok_any _ _ _ _ _ _ h' hn hs).mono ?_; rintro e w1 ⟨rfl, hb1⟩; obtain ⟨hc1, hf1⟩ := bcell hb1)
    have h1 := isStrs_below h' (Nat.le_refl _) hb1
    go_wp2_with (go_at_call 72; refine (hc _ h1).mono ?_; rintro e w2 ⟨rfl, hb2⟩)
    have hz1 := hb1.size
    simp only [World.size_alloc] at hz1
    refine bodyPost_ret (v := pofV zs s) (by rw [hv.out]; simp [results, Try.results41, go_sem]) rfl ⟨rfl, by (repeat (first | with_reducible exact Below.refl _ _ | assumption | with_reducible refine Qdrew ?_ | with_reducible refine QdrewN ?_ | ((with_reducible refine Qset ?_ ?_); exact (by ((try simp only [World.size_alloc, World.size_setCell, World.size_drew, size_drewN]); (try dsimp only); omega))) | ((with_reducible refine Qalloc ?_ ?_); exact (by ((try simp only [World.size_alloc, World.size_setCell, World.size_drew, size_drewN]); (try dsimp only); omega))) | refine Qtrans (by assumption) (by ((try simp only [World.size_alloc, World.size_setCell, World.size_drew, size_drewN]); (try dsimp only); omega)) ?_))⟩
set_option maxHeartbeats 1000000 in
theorem implParent_any (x : Option Addr) (n cap : Nat) (zs : List ByteArray) (s : ByteArray) (w : World) (h : IsStrs w x n cap zs) (hn : n ≤ 1048576) (hs : s.size ≤ 9223372036854775807) :
    Calls Try.prog 42 #[.agg #[.slice x n cap], .string s] w fun e w' => e = .returned (pofV zs s) ∧ Below w.heap.size w w' := by
  have hb0 : Below w.heap.size w (w.alloc (.cells #[.slice x n cap] 34)) := (Below.refl _ w).alloc (Nat.le_refl _) _
  have h' := isStrs_below h (Nat.le_refl _) hb0
  cases hk : sB zs && isWB s
  · have hv : Hid (pofV zs s = .tuple #[.string ⟨#[]⟩, .bool false]) := by show _ = _; simp [pofV, hk]
    cases hS : sB zs
    · go_enter Try.func42, Try.ntmps42
      go_wp2_with (go_at_call 67; refine (implSubstOk_any _ _ _ _ _ h' hn).mono ?_; rintro e w1 ⟨rfl, hb1⟩)
      refine bodyPost_ret (v := pofV zs s) (by rw [hv.out]; simp [results, Try.results42, go_sem]) rfl ⟨rfl, by (repeat (first | with_reducible exact Below.refl _ _ | assumption | with_reducible refine Qdrew ?_ | with_reducible refine QdrewN ?_ | ((with_reducible refine Qset ?_ ?_); exact (by ((try simp only [World.size_alloc, World.size_setCell, World.size_drew, size_drewN]); (try dsimp only); omega))) | ((with_reducible refine Qalloc ?_ ?_); exact (by ((try simp only [World.size_alloc, World.size_setCell, World.size_drew, size_drewN]); (try dsimp only); omega))) | refine Qtrans (by assumption) (by ((try simp only [World.size_alloc, World.size_setCell, World.size_drew, size_drewN]); (try dsimp only); omega)) ?_))⟩
    · rw [hS, Bool.true_and] at hk
      go_enter Try.func42, Try.ntmps42
      go_wp2_with (first | (go_at_call 67; refine (implSubstOk_any _ _ _ _ _ h' hn).mono ?_; rintro e w1 ⟨rfl, hb1⟩) | (go_at_call 57; refine (isWord_any _ _ hs).mono ?_; rintro e w1 ⟨rfl, rfl⟩))
      refine bodyPost_ret (v := pofV zs s) (by rw [hv.out]; simp [results, Try.results42, go_sem]) rfl ⟨rfl, by (repeat (first | with_reducible exact Below.refl _ _ | assumption | with_reducible refine Qdrew ?_ | with_reducible refine QdrewN ?_ | ((with_reducible refine Qset ?_ ?_); exact (by ((try simp only [World.size_alloc, World.size_setCell, World.size_drew, size_drewN]); (try dsimp only); omega))) | ((with_reducible refine Qalloc ?_ ?_); exact (by ((try simp only [World.size_alloc, World.size_setCell, World.size_drew, size_drewN]); (try dsimp only); omega))) | refine Qtrans (by assumption) (by ((try simp only [World.size_alloc, World.size_setCell, World.size_drew, size_drewN]); (try dsimp only); omega)) ?_))⟩
  · have hk2 := hk
    rw [Bool.and_eq_true] at hk2
    exact (implParent_ok x n cap zs s w h hk2.1 (isW_of hk2.2).1 hk2.2).mono fun e w' q => ⟨q.1.trans (by simp only [pofV]; rw [hk]; rfl), q.2⟩
set_option maxHeartbeats 4000000 in
theorem ParentOf_law (w : World) (x : Option Addr) (n cap : Nat) (zs : List ByteArray) (h : IsStrs w x n cap zs) (s : ByteArray) (hs0 : s.size ≤ maxLen) :
    Calls Try.prog 11 #[.agg #[.slice x n cap], .string s] w fun e w' => e = .returned (.bool true) ∧ Below w.heap.size w w' := by
  have hs : s.size ≤ 9223372036854775807 := hs0
  clear hs0
  by_cases hbig : (1048576 : Int) < (s.size : Int)
  · go_enter Try.func11, Try.ntmps11
    go_wp2
    go_ret
    exact ⟨rfl, by (repeat (first | with_reducible exact Below.refl _ _ | assumption | with_reducible refine Qdrew ?_ | with_reducible refine QdrewN ?_ | ((with_reducible refine Qset ?_ ?_); exact (by ((try simp only [World.size_alloc, World.size_setCell, World.size_drew, size_drewN]); (try dsimp only); omega))) | ((with_reducible refine Qalloc ?_ ?_); exact (by ((try simp only [World.size_alloc, World.size_setCell, World.size_drew, size_drewN]); (try dsimp only); omega))) | refine Qtrans (by assumption) (by ((try simp only [World.size_alloc, World.size_setCell, World.size_drew, size_drewN]); (try dsimp only); omega)) ?_))⟩
  obtain ⟨vv, bb, hvb⟩ := pof_form zs s
  have hspec : ∀ (x : Option Addr) (n cap : Nat) (w : World), IsStrs w x n cap zs → n ≤ 1048576 → Calls Try.prog 41 #[.agg #[.slice x n cap], .string s] w fun e w' => e = .returned (.tuple #[.string vv, .bool bb]) ∧ Below w.heap.size w w' := fun x n cap w q hn => hvb ▸ specParent_any x n cap zs s w q hn hs
  have himpl : ∀ (x : Option Addr) (n cap : Nat) (w : World), IsStrs w x n cap zs → n ≤ 1048576 → Calls Try.prog 42 #[.agg #[.slice x n cap], .string s] w fun e w' => e = .returned (.tuple #[.string vv, .bool bb]) ∧ Below w.heap.size w w' := fun x n cap w q hn => hvb ▸ implParent_any x n cap zs s w q hn hs
  clear hvb
  have hz := h.2.2.2.1
  have hb0 : Below w.heap.size w (w.alloc (.cells #[.slice x n cap] 39)) := (Below.refl _ w).alloc (Nat.le_refl _) _
  have h0 := isStrs_below h (Nat.le_refl _) hb0
  go_enter Try.func11, Try.ntmps11
  go_wp2_with (go_at_call 35; refine (szSubst_any _ _ _ _ _ _ h0 (by omega)).mono ?_; rintro e w1 ⟨r, rfl, hr, hb1⟩; obtain ⟨hc1, hf1⟩ := bcell hb1; have hl1 := ltW hb1)
  · go_ret
    exact ⟨rfl, by (repeat (first | with_reducible exact Below.refl _ _ | assumption | with_reducible refine Qdrew ?_ | with_reducible refine QdrewN ?_ | ((with_reducible refine Qset ?_ ?_); exact (by ((try simp only [World.size_alloc, World.size_setCell, World.size_drew, size_drewN]); (try dsimp only); omega))) | ((with_reducible refine Qalloc ?_ ?_); exact (by ((try simp only [World.size_alloc, World.size_setCell, World.size_drew, size_drewN]); (try dsimp only); omega))) | refine Qtrans (by assumption) (by ((try simp only [World.size_alloc, World.size_setCell, World.size_drew, size_drewN]); (try dsimp only); omega)) ?_))⟩
  · have hn : n ≤ 1048576 := by rcases hr with hr | hr <;> omega
    have hz1 := hb1.size
    simp only [World.size_alloc] at hz1
    have hs1 : w.heap.size < w1.heap.size := by omega
    have h1 := isStrs_below h0 (Nat.le_refl _) hb1
    skip
    go_wp2_with (go_at_call 37; refine (toSubst_any _ _ _ _ _ h1 hn).mono ?_; rintro e w2 ⟨g2, rfl, hg2, hown2, hb2⟩; obtain ⟨hc2, hf2⟩ := bcell hb2; have hl2 := ltW hb2)
    have hz2 := hb2.size
    have hs2 : w.heap.size < w2.heap.size := by omega
    have k2 := isStrs_own hown2 hz
    have h2 := isStrs_below h1 (Nat.le_refl _) hb2
    go_wp2_with (go_at_call 41; refine ((fun k hn => hspec _ _ _ _ k hn) k2 hn).mono ?_; rintro e w3 ⟨rfl, hb3⟩; obtain ⟨hc3, hf3⟩ := bcell hb3; have hl3 := ltW hb3)
    have hz3 := hb3.size
    have hs3 : w.heap.size < w3.heap.size := by omega
    have h3 := isStrs_below h2 (Nat.le_refl _) hb3
    go_wp2_with (go_at_call 37; refine (toSubst_any _ _ _ _ _ h3 hn).mono ?_; rintro e w4 ⟨g4, rfl, hg4, hown4, hb4⟩; obtain ⟨hc4, hf4⟩ := bcell hb4; have hl4 := ltW hb4)
    have hz4 := hb4.size
    have hs4 : w.heap.size < w4.heap.size := by omega
    have hb40 : Below w4.heap.size w4 (w4.alloc (.cells #[.slice (some ⟨g4, 0, none⟩) n n] 34)) := (Below.refl _ w4).alloc (Nat.le_refl _) _
    have k4 := isStrs_below (isStrs_own hown4 hz) (Nat.le_refl _) hb40
    have h4 := isStrs_below (isStrs_below h3 (Nat.le_refl _) hb4) (Nat.le_refl _) hb40
    go_wp2_with (go_at_call 42; refine ((fun k hn => himpl _ _ _ _ k hn) k4 hn).mono ?_; rintro e w5 ⟨rfl, hb5⟩; obtain ⟨hc5, hf5⟩ := bcell hb5; have hl5 := ltW hb5)
    have hz5 := hb5.size
    simp only [World.size_alloc] at hz5
    have hs5 : w.heap.size < w5.heap.size := by omega
    have hs6 : w4.heap.size < w5.heap.size := by omega
    have k5 := isStrs_below k4 (Nat.le_refl _) hb5
    have h5 := isStrs_below h4 (Nat.le_refl _) hb5
    have h5d : IsStrs w5.drew x n cap zs := h5
    have k5d : IsStrs w5.drew (some ⟨g4, 0, none⟩) n n zs := k5
    go_region_held3 (fun wx => (∀ bk ofs, bk < w5.heap.size → wx.cell? ⟨bk, ofs, none⟩ = (w5).cell? ⟨bk, ofs, none⟩) ∧ Below (w5.heap.size) (w5) wx) ((refine stays ?_; ((repeat (first | with_reducible exact Below.refl _ _ | assumption | with_reducible refine Qdrew ?_ | with_reducible refine QdrewN ?_ | ((with_reducible refine Qset ?_ ?_); exact (by ((try simp only [World.size_alloc, World.size_setCell, World.size_drew, size_drewN]); (try dsimp only); omega))) | ((with_reducible refine Qalloc ?_ ?_); exact (by ((try simp only [World.size_alloc, World.size_setCell, World.size_drew, size_drewN]); (try dsimp only); omega))) | refine Qtrans (by assumption) (by ((try simp only [World.size_alloc, World.size_setCell, World.size_drew, size_drewN]); (try dsimp only); omega)) ?_)) <;> (go_split_ands; assumption)))) (first | (go_at_call 37; refine (toSubst_any x n cap zs w5.drew h5d hn).mono ?_; rintro e w6 ⟨g6, rfl, hg6, hown6, hb6⟩; obtain ⟨hc6, hf6⟩ := bcell hb6; have hl6 := ltW hb6; have hz6 := hb6.size; (try simp only [World.size_drew] at hz6); have k6 := isStrs_own hown6 hz; have k7 := isStrs_below k5d (Nat.le_refl _) hb6) | (go_at_call 32; refine (eqSubst_same _ _ _ _ _ _ _ k7 k6).mono ?_; rintro e w7 ⟨rfl, hb7⟩; obtain ⟨hc7, hf7⟩ := bcell hb7; have hl7 := ltW hb7; have hz7 := hb7.size))
    all_goals go_wp2
    all_goals go_ret
    all_goals exact ⟨rfl, by (repeat (first | with_reducible exact Below.refl _ _ | assumption | with_reducible refine Qdrew ?_ | with_reducible refine QdrewN ?_ | ((with_reducible refine Qset ?_ ?_); exact (by ((try simp only [World.size_alloc, World.size_setCell, World.size_drew, size_drewN]); (try dsimp only); omega))) | ((with_reducible refine Qalloc ?_ ?_); exact (by ((try simp only [World.size_alloc, World.size_setCell, World.size_drew, size_drewN]); (try dsimp only); omega))) | refine Qtrans (by assumption) (by ((try simp only [World.size_alloc, World.size_setCell, World.size_drew, size_drewN]); (try dsimp only); omega)) ?_))⟩
end Go.Proofs.Ytbplepeebapjcaa
