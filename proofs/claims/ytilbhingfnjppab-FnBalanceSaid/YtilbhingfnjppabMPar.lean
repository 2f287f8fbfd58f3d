/- Several texts in one, in their order: ParD ParE PPA RtC. -/
import Derived.Test.YtilbhingfnjppabMWay
import Derived.Test.YtilbhingfnjppabWordsH
import Derived.Test.YtilbhingfnjppabRtB
import Derived.Test.YtilbhingfnjppabDrD
set_option linter.unusedSimpArgs false
set_option linter.unusedVariables false
namespace Go.Proofs.Ytilbhingfnjppab
open Go.RowKit
theorem its_len (s : ByteArray) (zs : List ByteArray) (F : List Int) : ∀ m, (its s zs F m).1.length ≤ m
  | 0 => by simp [its]
  | m + 1 => by
    have := its_len s zs F m
    rw [its, nxt1]; split
    · simp; omega
    · omega
noncomputable def paV (zs : List ByteArray) (s : ByteArray) : Value := if (wys s zs).getD 0 0 = 0 then .tuple #[.string ⟨#[]⟩, .bool false] else .tuple #[.string ⟨(par s zs).toArray⟩, .bool true]
theorem pa_no {zs : List ByteArray} {s : ByteArray} (h : (wys s zs).getD 0 0 = 0) : paV zs s = .tuple #[.string ⟨#[]⟩, .bool false] := by simp only [paV]; rw [if_pos h]
theorem pa_yes {zs : List ByteArray} {s : ByteArray} (h : ¬ (wys s zs).getD 0 0 = 0) : paV zs s = .tuple #[.string ⟨(par s zs).toArray⟩, .bool true] := by simp only [paV]; rw [if_neg h]
theorem u8_letter (k : Nat) (h : k < 4) : IntKind.u8.wrap (97 + (k : Int)) = ((97 + UInt8.ofNat k).toNat : Int) := by
  match k, h with
  | 0, _ => rfl
  | 1, _ => rfl
  | 2, _ => rfl
  | 3, _ => rfl
theorem some_good {s : ByteArray} {zs : List ByteArray} {n p : Nat} (hl : zs.length = n) (hv : ∀ v ∈ zs, 1 ≤ v.size) (hp : p < s.size) (h : 0 < (wys s zs).getD p 0) (hn : ∀ j, j < n → good s (wys s zs) p (zs.getD j ByteArray.empty) = false) : False := by
  obtain ⟨v, hvm, h1, h2⟩ := wys_pos hv hp h
  obtain ⟨j, hj, e⟩ := List.getElem_of_mem hvm
  have := hn j (by omega)
  rw [show zs.getD j ByteArray.empty = v by simp [List.getD_eq_getElem?_getD, hj, e]] at this
  simp [good, h1] at this
  simp [List.getD_eq_getElem?_getD] at h2
  omega
theorem ge1_of {zs : List ByteArray} (h : sB zs = true) : ∀ v ∈ zs, 1 ≤ v.size := by
  intro v hv
  obtain ⟨j, hj, e⟩ := List.getElem_of_mem hv
  have := ((s_of h).2 j hj).1.1
  rw [show zs.getD j ByteArray.empty = v by simp [List.getD_eq_getElem?_getD, hj, e]] at this
  exact this
end Go.Proofs.Ytilbhingfnjppab

namespace Go.Proofs.Ytilbhingfnjppab
open Go.RowKit
set_option maxRecDepth 20000 in
set_option maxHeartbeats 4000000 in
theorem implParent_ok (x : Option Addr) (n cap : Nat) (zs : List ByteArray) (s : ByteArray) (w : World) (h : IsStrs w x n cap zs) (hS : sB zs = true) (hs400 : s.size ≤ 400) (hW : isWB s = true) :
    Calls Try.prog 10 #[.agg #[.slice x n cap], .string s] w fun e w' => e = .returned (paV zs s) ∧ Below w.heap.size w w' := by
  have hlen := h.1
  obtain ⟨hn4, hz8⟩ := s_bounds hlen hS
  have hv1 := Lib.hid (ge1_of hS)
  have hb0 : Below w.heap.size w (w.alloc (.cells #[.slice x n cap] 25)) := (Below.refl _ w).alloc (Nat.le_refl _) _
  have h' := isStrs_below h (Nat.le_refl _) hb0
  have hwl := Lib.hid (wys_len s zs)
  have hlo := Lib.hid (wq_low s zs s.size)
  have hf0 : (0 : Int) < (s.size : Int) + 1 := by omega
  by_cases hF0 : (wys s zs).getD 0 0 = 0
  · have hv := Lib.hid (pa_no hF0)
    go_enter Try.func10, Try.ntmps10
    go_wp2_with (first | (go_at_call 32; refine (implSubstOk_any _ _ _ _ _ h' (by omega)).mono ?_; rintro e w0 ⟨rfl, hb00⟩; obtain ⟨hc00, hf00⟩ := bcell hb00; have hl00 := ltW hb00) | (go_at_call 62; refine (isWord_any _ _ (by omega)).mono ?_; rintro e w1 ⟨rfl, rfl⟩))
    have h'0 := isStrs_below h' (Nat.le_refl _) hb00
    have hz00 := hb00.size
    simp only [World.size_alloc] at hz00
    go_wp2_with (go_at_call 63; refine (implWays_any _ _ _ _ _ _ h'0 hn4 hz8 hs400).mono ?_; rintro e wA ⟨g, rfl, hg, hown, hb1⟩; have hcc := own_cell hown 0 (by omega); rw [iv_at _ _ (by rw [hwl.out]; omega), hF0] at hcc)
    refine bodyPost_ret (v := paV zs s) (by rw [hv.out]; simp [results, Try.results10, go_sem]) rfl ⟨rfl, by (repeat (first | with_reducible exact Below.refl _ _ | assumption | with_reducible refine Qdrew ?_ | with_reducible refine QdrewN ?_ | ((with_reducible refine Qset ?_ ?_); exact (by ((try simp only [World.size_alloc, World.size_setCell, World.size_drew, size_drewN]); (try dsimp only); omega))) | ((with_reducible refine Qalloc ?_ ?_); exact (by ((try simp only [World.size_alloc, World.size_setCell, World.size_drew, size_drewN]); (try dsimp only); omega))) | refine Qtrans (by assumption) (by ((try simp only [World.size_alloc, World.size_setCell, World.size_drew, size_drewN]); (try dsimp only); omega)) ?_))⟩
  have hv := Lib.hid (pa_yes hF0)
  have hFp : Hid (0 < (wys s zs).getD 0 0) := by have := hlo.out 0; show _ < _; unfold wys at *; omega
  have hFz : ((wys s zs).getD 0 0 == 0) = false := by simpa using hF0
  obtain ⟨F0, hFe⟩ : ∃ F0, (wys s zs).getD 0 0 = F0 := ⟨_, rfl⟩
  rw [hFe] at hFz
  have hFe' := Lib.hid hFe
  clear hF0 hFe
  go_enter Try.func10, Try.ntmps10
  go_wp2_with (first | (go_at_call 32; refine (implSubstOk_any _ _ _ _ _ h' (by omega)).mono ?_; rintro e w0 ⟨rfl, hb00⟩; obtain ⟨hc00, hf00⟩ := bcell hb00; have hl00 := ltW hb00) | (go_at_call 62; refine (isWord_any _ _ (by omega)).mono ?_; rintro e w1 ⟨rfl, rfl⟩))
  have h'0 := isStrs_below h' (Nat.le_refl _) hb00
  have hz00 := hb00.size
  simp only [World.size_alloc] at hz00
  go_wp2_with (go_at_call 63; refine (implWays_any _ _ _ _ _ _ h'0 hn4 hz8 hs400).mono ?_; rintro e wA ⟨g, rfl, hg, hown, hb1⟩; have hcc := own_cell hown 0 (by omega); rw [iv_at _ _ (by rw [hwl.out]; omega), hFe'.out] at hcc)
  have hcB : wA.cell? ⟨w.heap.size, 0, none⟩ = some (.slice x n cap) := (hb1.cell (by show w.heap.size < _; omega)).trans ((hb00.cell (by simp)).trans (by simp [go_sem]))
  have hstA := isStrs_below h'0 (Nat.le_refl _) hb1
  have hgA := (hown.lt g rfl).2
  have hb0A : Below w.heap.size w w0 := Qtrans hb00 (by simp) hb0
  have hbA : Below w.heap.size w wA := Qtrans hb1 (by omega) hb0A
  have hzA := hb1.size
  go_loopw [7, 8] (fun ov i wr => ∃ (m p : Nat) (acc : List UInt8), Hid (its s zs (wys s zs) m = (acc, p)) ∧ m ≤ p ∧ p ≤ s.size ∧ Hid (0 < (wys s zs).getD p 0) ∧ i = .int .i64 p ∧ ov = .string ⟨acc.toArray⟩ ∧ acc.length ≤ m ∧ wA = wr) (fun _ i _ => s.size - (intOf i).toNat)
  case atStart => exact ⟨0, 0, [], Lib.hid rfl, Nat.le_refl _, by omega, hFp, rfl, rfl, Nat.le_refl _, by first | rfl | trivial⟩
  case round =>
    obtain ⟨m, p, acc, hit, hmp, hps, hpos, rfl, rfl, hacc, rfl⟩ := hrel
    have hp0 : (0 : Int) ≤ (p : Int) := by omega
    by_cases hlt : p < s.size
    · have hlt' : (p : Int) < (s.size : Int) := by omega
      have hp1 : (p : Int) ≤ (s.size : Int) := by omega
      go_wp2
      go_loopw [7, 8, 33] (fun ov i kk wr2 => ∃ k : Nat, k ≤ n ∧ kk = .int .i64 k ∧ i = .int .i64 p ∧ ov = .string ⟨acc.toArray⟩ ∧ Hid (∀ j, j < k → good s (wys s zs) p (zs.getD j ByteArray.empty) = false) ∧ wA = wr2) (fun _ _ kk _ => n - (intOf kk).toNat)
      case atStart => exact ⟨0, by omega, rfl, rfl, rfl, Lib.hid (fun _ q => absurd q (by omega)), by first | rfl | trivial⟩
      case round =>
        obtain ⟨k, hk, rfl, rfl, rfl, hno, rfl⟩ := hrel
        by_cases hkn : k < n
        · obtain ⟨b, off, rfl, hbl, hc⟩ := isStrs_cell hstA (by omega)
          have hck := hc k hkn
          have hv8 := hz8 k hkn
          have hvv : 1 ≤ (zs.getD k ByteArray.empty).size := hv1.out _ (getD_mem (by omega))
          obtain ⟨v, hve⟩ : ∃ v, zs.getD k ByteArray.empty = v := ⟨_, rfl⟩
          rw [hve] at hck hv8 hvv
          have hve' := Lib.hid hve
          have hk0 : (0 : Int) ≤ (k : Int) := by omega
          have hk1 : (k : Int) < (n : Int) := by omega
          clear hve hc
          by_cases hle : p + v.size ≤ s.size
          · have hq1 : (p : Int) + (v.size : Int) ≤ (s.size : Int) := by omega
            have hq2 : (0 : Int) ≤ (p : Int) + (v.size : Int) := by omega
            have hq3 : (p : Int) + (v.size : Int) < (s.size : Int) + 1 := by omega
            have hq4 : (p : Int) ≤ (p : Int) + (v.size : Int) := by omega
            have hcF : wA.cell? ⟨g, p + v.size, none⟩ = some (.int .i64 ((wys s zs).getD (p + v.size) 0)) := by rw [own_cell hown (p + v.size) (by omega), iv_at _ _ (by rw [hwl.out]; omega)]
            obtain ⟨y, hy⟩ : ∃ y, (wys s zs).getD (p + v.size) 0 = y := ⟨_, rfl⟩
            rw [hy] at hcF
            have hgd : Hid (good s (wys s zs) p v = ((s.extract p (p + v.size)).toList == v.toList && decide (0 < y))) := by
              show _ = _
              simp only [good, hitP, hle, hy, decide_true, Bool.true_and]
            have hy' := Lib.hid hy
            clear hy
            cases heq : (s.extract p (p + v.size)).toList == v.toList
            · have hg0 := Lib.hid (hgd.out.trans (by rw [heq, Bool.false_and]))
              have hh : hitP s v p = false := by simp [hitP, hle, heq]
              go_wp2_with ((go_at_call 64; refine (hasPrefix_any _ _ _ _ hps).mono ?_; rintro e w1 ⟨rfl, rfl⟩))
              all_goals
                go_roundw
                case rel => exact ⟨k + 1, by omega, by go_num, rfl, rfl, Lib.hid (fun j hj => by
                    by_cases e : j = k
                    · subst e; rw [hve'.out]; exact hg0.out
                    · exact hno.out j (by omega)), by first | rfl | trivial⟩
                case measure => (simp [intOf]) <;> omega
            · by_cases hy0 : 0 < y
              · have hg1 := hgd.out.trans (by rw [heq, decide_eq_true hy0, Bool.and_true])
                rw [← hve'.out] at hg1
                have hch := ch_is (k := k) (by omega) hg1 hno.out
                have hnx := Lib.hid (its_next hit.out hlt hch)
                have hrun := letter_run acc k (by omega) (by omega)
                have hh : hitP s v p = true := by simp [hitP, hle, heq]
                have hi1 : (k : Int) ≤ (k : Int) + 1 := by omega
                have hi2 : (k : Int) + 1 ≤ 4 := by omega
                clear hg1 hch
                go_wp2_with ((go_at_call 64; refine (hasPrefix_any _ _ _ _ hps).mono ?_; rintro e w1 ⟨rfl, rfl⟩))
                go_roundw
                case rel => exact ⟨m + 1, p + v.size, acc ++ [97 + UInt8.ofNat k], Lib.hid (by rw [hnx.out, hve'.out]), by omega, by omega, Lib.hid (by rw [hy'.out]; exact hy0), by go_num, rfl, by rw [List.length_append]; simp; omega, by first | rfl | trivial⟩
                case measure => (simp [intOf]) <;> omega
              · have hg0 := Lib.hid (hgd.out.trans (by rw [decide_eq_false hy0, Bool.and_false]))
                have hh : hitP s v p = true := by simp [hitP, hle, heq]
                go_wp2_with ((go_at_call 64; refine (hasPrefix_any _ _ _ _ hps).mono ?_; rintro e w1 ⟨rfl, rfl⟩))
                all_goals
                  go_roundw
                  case rel => exact ⟨k + 1, by omega, by go_num, rfl, rfl, Lib.hid (fun j hj => by
                      by_cases e : j = k
                      · subst e; rw [hve'.out]; exact hg0.out
                      · exact hno.out j (by omega)), by first | rfl | trivial⟩
                  case measure => (simp [intOf]) <;> omega
          · have hg0 : Hid (good s (wys s zs) p v = false) := by show _ = _; simp [good, hitP, hle]
            have hq1 : ¬ (p : Int) + (v.size : Int) ≤ (s.size : Int) := by omega
            have hh : hitP s v p = false := by simp [hitP, hle]
            go_wp2_with ((go_at_call 64; refine (hasPrefix_any _ _ _ _ hps).mono ?_; rintro e w1 ⟨rfl, rfl⟩))
            all_goals
              go_roundw
              case rel => exact ⟨k + 1, by omega, by go_num, rfl, rfl, Lib.hid (fun j hj => by
                  by_cases e : j = k
                  · subst e; rw [hve'.out]; exact hg0.out
                  · exact hno.out j (by omega)), by first | rfl | trivial⟩
              case measure => (simp [intOf]) <;> omega
        · exfalso
          exact some_good hlen hv1.out hlt hpos.out (fun j hj => hno.out j (by omega))
    · have hpe := Lib.hid (show p = s.size by omega)
      have hlt' : ¬ (p : Int) < (s.size : Int) := by omega
      have hpar : Hid (par s zs = acc) := by
        show _ = _
        have e := its_end (s := s) (zs := zs) (F := wys s zs) (m := m) (by rw [hit.out]; exact Nat.le_of_eq hpe.out.symm) (by rw [← hpe.out]; exact hmp)
        unfold par; rw [e, hit.out]
      have hv2 : Hid (paV zs s = .tuple #[.string ⟨acc.toArray⟩, .bool true]) := by show _ = _; rw [hv.out, hpar.out]
      go_wp2
      refine bodyPost_ret (v := paV zs s) (by rw [hv2.out]; simp [results, Try.results10, go_sem]) rfl ⟨rfl, hbA⟩
noncomputable def pofV (zs : List ByteArray) (s : ByteArray) : Value := if sB zs && isWB s then paV zs s else .tuple #[.string ⟨#[]⟩, .bool false]
theorem pof_form (zs : List ByteArray) (s : ByteArray) : ∃ (v : ByteArray) (b : Bool), pofV zs s = .tuple #[.string v, .bool b] := by
  unfold pofV paV; split
  · split
    · exact ⟨_, _, rfl⟩
    · exact ⟨_, _, rfl⟩
  · exact ⟨_, _, rfl⟩
theorem pa_form (zs : List ByteArray) (s : ByteArray) : ∃ (v : ByteArray) (b : Bool), paV zs s = .tuple #[.string v, .bool b] := by
  unfold paV; split
  · exact ⟨_, _, rfl⟩
  · exact ⟨_, _, rfl⟩
set_option maxRecDepth 20000 in
set_option maxHeartbeats 1000000 in
theorem implParent_any (x : Option Addr) (n cap : Nat) (zs : List ByteArray) (s : ByteArray) (w : World) (h : IsStrs w x n cap zs) (hn : n ≤ 1048576) (hs : s.size ≤ 9223372036854775807) :
    Calls Try.prog 10 #[.agg #[.slice x n cap], .string s] w fun e w' => e = .returned (pofV zs s) ∧ Below w.heap.size w w' := by
  have hb0 : Below w.heap.size w (w.alloc (.cells #[.slice x n cap] 25)) := (Below.refl _ w).alloc (Nat.le_refl _) _
  have h' := isStrs_below h (Nat.le_refl _) hb0
  cases hk : sB zs && isWB s
  · have hv : Hid (pofV zs s = .tuple #[.string ⟨#[]⟩, .bool false]) := by show _ = _; simp [pofV, hk]
    cases hS : sB zs
    · go_enter Try.func10, Try.ntmps10
      go_wp2_with (go_at_call 32; refine (implSubstOk_any _ _ _ _ _ h' hn).mono ?_; rintro e w1 ⟨rfl, hb1⟩)
      refine bodyPost_ret (v := pofV zs s) (by rw [hv.out]; simp [results, Try.results10, go_sem]) rfl ⟨rfl, by (repeat (first | with_reducible exact Below.refl _ _ | assumption | with_reducible refine Qdrew ?_ | with_reducible refine QdrewN ?_ | ((with_reducible refine Qset ?_ ?_); exact (by ((try simp only [World.size_alloc, World.size_setCell, World.size_drew, size_drewN]); (try dsimp only); omega))) | ((with_reducible refine Qalloc ?_ ?_); exact (by ((try simp only [World.size_alloc, World.size_setCell, World.size_drew, size_drewN]); (try dsimp only); omega))) | refine Qtrans (by assumption) (by ((try simp only [World.size_alloc, World.size_setCell, World.size_drew, size_drewN]); (try dsimp only); omega)) ?_))⟩
    · rw [hS, Bool.true_and] at hk
      go_enter Try.func10, Try.ntmps10
      go_wp2_with (first | (go_at_call 32; refine (implSubstOk_any _ _ _ _ _ h' hn).mono ?_; rintro e w1 ⟨rfl, hb1⟩) | (go_at_call 62; refine (isWord_any _ _ hs).mono ?_; rintro e w1 ⟨rfl, rfl⟩))
      refine bodyPost_ret (v := pofV zs s) (by rw [hv.out]; simp [results, Try.results10, go_sem]) rfl ⟨rfl, by (repeat (first | with_reducible exact Below.refl _ _ | assumption | with_reducible refine Qdrew ?_ | with_reducible refine QdrewN ?_ | ((with_reducible refine Qset ?_ ?_); exact (by ((try simp only [World.size_alloc, World.size_setCell, World.size_drew, size_drewN]); (try dsimp only); omega))) | ((with_reducible refine Qalloc ?_ ?_); exact (by ((try simp only [World.size_alloc, World.size_setCell, World.size_drew, size_drewN]); (try dsimp only); omega))) | refine Qtrans (by assumption) (by ((try simp only [World.size_alloc, World.size_setCell, World.size_drew, size_drewN]); (try dsimp only); omega)) ?_))⟩
  · have hk2 := hk
    rw [Bool.and_eq_true] at hk2
    exact (implParent_ok x n cap zs s w h hk2.1 (isW_of hk2.2).1 hk2.2).mono fun e w' q => ⟨q.1.trans (by simp only [pofV]; rw [hk]; rfl), q.2⟩
end Go.Proofs.Ytilbhingfnjppab

namespace Go.Proofs.Ytilbhingfnjppab
open Go.RowKit
noncomputable def pvS (zs : List ByteArray) (s : ByteArray) : ByteArray := (pa_form zs s).choose
noncomputable def pvB (zs : List ByteArray) (s : ByteArray) : Bool := (pa_form zs s).choose_spec.choose
theorem pv_eq (zs : List ByteArray) (s : ByteArray) : paV zs s = .tuple #[.string (pvS zs s), .bool (pvB zs s)] := (pa_form zs s).choose_spec.choose_spec
def midS (s : ByteArray) (k r : Nat) : ByteArray := s.extract k (s.size - r)
noncomputable def phit (zs : List ByteArray) (s : ByteArray) (k r : Nat) : Bool := decide (k + r ≤ s.size) && pvB zs (midS s k r)
noncomputable def prow (zs : List ByteArray) (s : ByteArray) (k r : Nat) : List ByteArray := [s.extract 0 k, pvS zs (midS s k r), s.extract (s.size - r) s.size]
noncomputable def ppk (zs : List ByteArray) (s : ByteArray) (most k : Nat) : List (List ByteArray) :=
  match (List.range most).find? (phit zs s k) with
  | some r => [prow zs s k r]
  | none => []
noncomputable def prs (zs : List ByteArray) (s : ByteArray) (most : Nat) : Nat → List (List ByteArray)
  | 0 => []
  | k + 1 => prs zs s most k ++ ppk zs s most k
theorem ppk_some {zs : List ByteArray} {s : ByteArray} {most k r : Nat} (hr : r < most) (h : phit zs s k r = true) (hn : ∀ j, j < r → phit zs s k j = false) : ppk zs s most k = [prow zs s k r] := by
  have : (List.range most).find? (phit zs s k) = some r := by
    rw [List.find?_range_eq_some]
    exact ⟨h, by simpa using hr, fun j hj => by rw [hn j hj]; rfl⟩
  unfold ppk; rw [this]
theorem ppk_none {zs : List ByteArray} {s : ByteArray} {most k : Nat} (hn : ∀ j, j < most → phit zs s k j = false) : ppk zs s most k = [] := by
  have : (List.range most).find? (phit zs s k) = none := by
    rw [List.find?_eq_none]
    intro j hj; rw [hn j (by simpa using hj)]; simp
  unfold ppk; rw [this]
theorem ppk_len (zs : List ByteArray) (s : ByteArray) (most k : Nat) : (ppk zs s most k).length ≤ 1 ∧ ∀ l ∈ ppk zs s most k, l.length = 3 ∧ ∃ r, l = prow zs s k r := by
  unfold ppk; split
  · exact ⟨by simp, fun l hl => by simp at hl; subst hl; exact ⟨rfl, _, rfl⟩⟩
  · simp
theorem prs_len (zs : List ByteArray) (s : ByteArray) (most : Nat) : ∀ k, (prs zs s most k).length ≤ k
  | 0 => by simp [prs]
  | k + 1 => by
    have h1 := prs_len zs s most k
    have h2 := (ppk_len zs s most k).1
    rw [prs, List.length_append]; omega
theorem bt_ext (s : ByteArray) (k q j : Nat) (hj : j < (s.extract k q).size) : bt (s.extract k q) j = bt s (k + j) := by
  have hj' := hj
  simp only [ByteArray.size_extract] at hj'
  unfold bt
  rw [dif_pos hj, dif_pos (by omega)]
  congr 2
  rw [ByteArray.getElem_eq_getElem_data, ByteArray.getElem_eq_getElem_data]
  simp [ByteArray.data_extract]
theorem isW_ext {s : ByteArray} (h : isWP s) (k q : Nat) : isWB (s.extract k q) = true := by
  refine isWB_true ⟨by have := h.1; rw [ByteArray.size_extract]; omega, fun j hj => ?_⟩
  have hj' := hj
  rw [ByteArray.size_extract] at hj'
  unfold inL
  rw [bt_ext s k q j hj]
  exact h.2 (k + j) (by omega)
/-- A slice of slices of three strings, each in a block of its own, that nobody else holds. -/
def OSS (w : World) (B g n cap : Nat) (L : List (List ByteArray)) : Prop :=
  ∃ (V : List Value) (f : Nat → Nat), L.length = n ∧ w.ownsRow B 23 1 (.slice (some ⟨g, 0, none⟩) n cap) n V ∧ (∀ j, j < n → V[j]? = some (.slice (some ⟨f j, 0, none⟩) 3 3) ∧ (L.getD j []).length = 3 ∧ w.ownsRow B 9 1 (.slice (some ⟨f j, 0, none⟩) 3 3) 3 (sv (L.getD j [])) ∧ f j ≠ g) ∧ ∀ i j, i < j → j < n → f i < f j
theorem oss_below {w w' : World} {B g n cap : Nat} {L : List (List ByteArray)} (h : OSS w B g n cap L) (hb : Below w.heap.size w w') : OSS w' B g n cap L := by
  obtain ⟨V, f, h1, h2, h3, h4⟩ := h
  exact ⟨V, f, h1, own_below h2 hb, fun j hj => by obtain ⟨q1, q2, q3, q4⟩ := h3 j hj; exact ⟨q1, q2, own_below q3 hb, q4⟩, h4⟩
theorem oss_drew {w : World} {B g n cap : Nat} {L : List (List ByteArray)} (h : OSS w B g n cap L) : OSS w.drew B g n cap L := h
theorem oss_lt {w : World} {B g n cap : Nat} {L : List (List ByteArray)} (h : OSS w B g n cap L) : B ≤ g ∧ g < w.heap.size := by
  obtain ⟨V, f, h1, h2, h3, h4⟩ := h
  exact h2.lt g rfl
theorem infoSS : (Try.prog.info? 23).map (fun i => (i.zero, i.size, i.bytes)) = some (some (.slice none 0 0), 1, 24) := by kernel_rfl
theorem oss_nil (w : World) (B : Nat) (hB : B ≤ w.heap.size) : OSS (w.alloc (.cells #[] 23)) B w.heap.size 0 0 [] :=
  ⟨[], fun _ => 0, rfl, World.ownsRow_lit (base := B) (e := 23) (size := 1) w #[] 0 hB (by decide) rfl, fun j hj => absurd hj (by omega), fun i j h1 h2 => absurd h2 (by omega)⟩
theorem row3_own (w : World) (B : Nat) (hB : B ≤ w.heap.size) (a b c : ByteArray) : (w.alloc (.cells #[.string a, .string b, .string c] 9)).ownsRow B 9 1 (.slice (some ⟨w.heap.size, 0, none⟩) 3 3) 3 (sv [a, b, c]) :=
  World.ownsRow_lit (base := B) (e := 9) (size := 1) w #[.string a, .string b, .string c] 3 hB (by decide) rfl
/-- Behind an append of a row just built. -/
theorem oss_app {w wr w1 : World} {B g n cap cap' gg : Nat} {L : List (List ByteArray)} {V : List Value} {f : Nat → Nat} {a b c : ByteArray} (hL : L.length = n)
    (hrows : ∀ j, j < n → V[j]? = some (.slice (some ⟨f j, 0, none⟩) 3 3) ∧ (L.getD j []).length = 3 ∧ w.ownsRow B 9 1 (.slice (some ⟨f j, 0, none⟩) 3 3) 3 (sv (L.getD j [])) ∧ f j ≠ g) (hinc : ∀ i j, i < j → j < n → f i < f j) (hB : B ≤ w.heap.size) (hgl : g < w.heap.size) (hVl : V.length = n)
    (hwr : wr = ((w.alloc (.cells #[.string a, .string b, .string c] 9)).alloc (.cells #[.slice (some ⟨w.heap.size, 0, none⟩) 3 3] 23)).drew)
    (hown : w1.ownsRow B 23 1 (.slice (some ⟨gg, 0, none⟩) (n + 1) cap') (n + 1) (V ++ [.slice (some ⟨w.heap.size, 0, none⟩) 3 3]))
    (hg : wr.grownBy w1 (some g)) (hat : (Value.slice (some ⟨g, 0, none⟩) n cap).ownBlock = some gg ∨ gg = w.heap.size + 1 + 1) : OSS w1 B gg (n + 1) cap' (L ++ [[a, b, c]]) := by
  subst hwr
  have hgg : gg = g ∨ gg = w.heap.size + 1 + 1 := by
    rcases hat with e | e
    · left; have : g = gg := by simpa [Value.ownBlock] using e
      omega
    · exact .inr e
  have hlt : ∀ j, j < n → f j < w.heap.size := fun j hj => ((hrows j hj).2.2.1.lt (f j) rfl).2
  refine ⟨V ++ [.slice (some ⟨w.heap.size, 0, none⟩) 3 3], fun j => if j < n then f j else w.heap.size, by simp [hL], hown, fun j hj => ?_, fun i j h1 h2 => ?_⟩
  · by_cases e : j < n
    · obtain ⟨q1, q2, q3, q4⟩ := hrows j e
      have hfl := hlt j e
      simp only [if_pos e]
      have hgd : (L ++ [[a, b, c]]).getD j [] = L.getD j [] := by rw [List.getD_eq_getElem?_getD, List.getD_eq_getElem?_getD, List.getElem?_append_left (by omega)]
      rw [hgd]
      refine ⟨by rw [List.getElem?_append_left (by omega)]; exact q1, q2, ?_, by omega⟩
      exact ((q3.alloc _).alloc _).drew.kept hg (.inr (by simp [Value.ownBlock]; omega))
    · obtain rfl : j = n := by omega
      simp only [if_neg e]
      have hgd : (L ++ [[a, b, c]]).getD j [] = [a, b, c] := by rw [List.getD_eq_getElem?_getD, List.getElem?_append_right (by omega), hL, Nat.sub_self]; rfl
      rw [hgd]
      refine ⟨by rw [List.getElem?_append_right (by omega), hVl, Nat.sub_self]; rfl, rfl, ?_, by omega⟩
      exact ((row3_own w B hB a b c).alloc _).drew.kept hg (.inr (by simp [Value.ownBlock]; omega))
  · dsimp only
    by_cases e : j < n
    · rw [if_pos e, if_pos (by omega)]; exact hinc i j h1 e
    · rw [if_neg e]
      by_cases e2 : i < n
      · rw [if_pos e2]; exact hlt i e2
      · omega
end Go.Proofs.Ytilbhingfnjppab

namespace Go.Proofs.Ytilbhingfnjppab
open Go.RowKit
theorem MakeLong_any (x : Option Addr) (cap : Nat) (zs : List ByteArray) (N : Nat) (w : World) (h : IsStrs w x zs.length cap zs) (hS : sB zs = true) (h2 : 2 ≤ (zs.getD 0 ByteArray.empty).size) (hN1 : 1 ≤ N) (hN : N ≤ 100) :
    Calls Try.prog 20 #[.agg #[.slice x zs.length cap], .int .i64 N] w fun e w' => ∃ v : ByteArray, e = .returned (.string v) ∧ v.size = N ∧ letP zs.length v ∧ Below w.heap.size w w' := by
  have hb0 : Below w.heap.size w (w.alloc (.cells #[.slice x zs.length cap] 25)) := (Below.refl _ w).alloc (Nat.le_refl _) _
  have h' := isStrs_below h (Nat.le_refl _) hb0
  have hC := l05Start_any x cap zs N _ h' hS h2 hN1 hN
  clear h h' h2 hS
  go_enter Try.func20, Try.ntmps20
  go_wp2_with (go_at_call 68; refine hC.mono ?_; rintro e w1 ⟨v, rfl, hv, hl, hb1⟩)
  go_ret
  exact ⟨v, rfl, hv, hl, Qtrans hb1 (by simp) hb0⟩
def gim (z : ByteArray) (k : Nat) : ByteArray := (⟨#[97]⟩ : ByteArray) ++ z.extract 0 k
theorem gim_ok {n : Nat} {z : ByteArray} (hn : 1 ≤ n) (h : iOk n z) (k : Nat) (hk : k ≤ 7) (hk1 : 1 ≤ k) (hkz : k ≤ z.size) : iOk n (gim z k) ∧ 2 ≤ (gim z k).size := by
  have hs : (gim z k).size = 1 + k := by
    unfold gim
    rw [ByteArray.size_append, ByteArray.size_extract]
    have : (⟨#[97]⟩ : ByteArray).size = 1 := rfl
    omega
  have hlt : letP n z := fun i hi => ⟨h.2.1.2 i hi, h.2.2 i hi⟩
  have hle : letP n (z.extract 0 k) := fun i hi => by
    have e := bt_ext z 0 k i hi
    rw [Nat.zero_add] at e
    have := hlt i (by rw [ByteArray.size_extract] at hi; omega)
    unfold inL lt at this ⊢
    rw [e]; exact this
  have hla : letP n (⟨#[97]⟩ : ByteArray) := fun i hi => by
    have h1 : (⟨#[97]⟩ : ByteArray).size = 1 := rfl
    have : i = 0 := by omega
    subst this
    have e : bt (⟨#[97]⟩ : ByteArray) 0 = 97 := by decide +kernel
    unfold inL lt
    rw [e]
    omega
  have hl := letP_app hla hle
  exact ⟨⟨⟨by omega, by omega⟩, ⟨by show (gim z k).size ≤ _; omega, fun i hi => (hl i hi).1⟩, fun i hi => (hl i hi).2⟩, by omega⟩
theorem grow_sB {zs : List ByteArray} (h : sB zs = true) (k : Nat) (hk : k ≤ 7) (hk1 : 1 ≤ k) (hkz : k ≤ (zs.getD 0 ByteArray.empty).size) : sB (zs.set 0 (gim (zs.getD 0 ByteArray.empty) k)) = true ∧ 2 ≤ ((zs.set 0 (gim (zs.getD 0 ByteArray.empty) k)).getD 0 ByteArray.empty).size := by
  have hO := s_of h
  have hl : 0 < zs.length := hO.1.1
  have hg := gim_ok hO.1.1 (hO.2 0 hl) k hk hk1 hkz
  refine ⟨sB_yes ⟨by simpa using hO.1, fun j hj => ?_⟩, ?_⟩
  · rw [List.length_set] at hj ⊢
    by_cases hj0 : j = 0
    · subst hj0
      rw [List.getD_eq_getElem?_getD, List.getElem?_set_self hl]
      exact hg.1
    · rw [List.getD_eq_getElem?_getD, List.getElem?_set_ne (by omega), ← List.getD_eq_getElem?_getD]
      exact hO.2 j hj
  · rw [List.getD_eq_getElem?_getD, List.getElem?_set_self hl]
    exact hg.2
theorem news_strs {W : World} {b off n cap : Nat} {zs : List ByteArray} (h : IsStrs W (some ⟨b, off, none⟩) n cap zs) (hl : zs.length = n) : ∀ j u, (sv zs)[j]? = some u → W.cell? ((⟨b, off, none⟩ : Addr).add j) = some u := by
  intro j u hu
  have hj : j < zs.length := by
    by_cases hj : j < zs.length
    · exact hj
    · rw [List.getElem?_eq_none (by simp [sv]; omega)] at hu; cases hu
  obtain ⟨b', off', e, _, hc⟩ := isStrs_cell h (by omega)
  cases e
  rw [sv_at _ _ hj] at hu
  cases hu
  rw [Addr.add_lit]
  exact hc j (by omega)
theorem own_lit1 (w : World) (o : Obj) : ((w.alloc o).alloc (.cells #[] 9)).ownsRow (w.heap.size + 1) 9 1 (.slice (some ⟨w.heap.size + 1, 0, none⟩) 0 0) 0 [] := by
  have := World.ownsRow_lit (base := w.heap.size + 1) (e := 9) (size := 1) (w.alloc o) #[] 0 (by simp) (by decide) rfl
  rwa [World.size_alloc] at this
theorem mg_facts {w w3 : World} {v : Value} {N gg c : Nat} {zs : List ByteArray} (hN : 0 < N) (hl : zs.length = N) (hown : w3.ownsRow (w.heap.size + 1) 9 1 (.slice (some ⟨gg, 0, none⟩) (0 + N) c) (0 + N) ([] ++ sv zs))
    (hg : ((w.alloc (.cells #[v] 25)).alloc (.cells #[] 9)).grownBy w3 (Value.slice (some ⟨w.heap.size + 1, 0, none⟩) 0 0).ownBlock) :
    w3.cell? ⟨w.heap.size, 0, none⟩ = some v ∧ w3.frozen? ⟨w.heap.size, 0, none⟩ = false ∧ gg ≠ w.heap.size ∧ w3.ownsRow (w.heap.size + 1) 9 1 (.slice (some ⟨gg, 0, none⟩) N c) N (sv zs) ∧ w.heap.size < w3.heap.size ∧ w3.cell? ⟨gg, 0, none⟩ = some (.string (zs.getD 0 ByteArray.empty)) ∧ w3.frozen? ⟨gg, 0, none⟩ = false ∧ w.grownBy w3 none := by
  simp only [Nat.zero_add, List.nil_append] at hown
  have hs := hg.size
  simp only [World.size_alloc] at hs
  have hgg := hown.lt gg rfl
  have q1 : ((w.alloc (.cells #[v] 25)).alloc (.cells #[] 9)).cell? ⟨w.heap.size, 0, none⟩ = some v := by rw [calloc (by simp)]; simp [go_sem]
  have q2 : ((w.alloc (.cells #[v] 25)).alloc (.cells #[] 9)).frozen? ⟨w.heap.size, 0, none⟩ = false := by rw [falloc (by simp)]; simp [go_sem]
  refine ⟨(hg.cell_far ⟨w.heap.size, 0, none⟩ (by simp; omega) (by simp [Value.ownBlock])).trans q1, (hg.frozen_far ⟨w.heap.size, 0, none⟩ (by simp; omega) (by simp [Value.ownBlock])).trans q2, by omega, hown, by omega, ?_, hown.frozenAt 0, ⟨hg.os, hg.tape, hg.output, by omega, fun k hk _ => ?_⟩⟩
  · rw [own_cell hown 0 (by omega), sv_at _ _ (by omega)]
  · refine (hg.block k (by simp; omega) (by simp [Value.ownBlock]; omega)).trans ?_
    rw [Below.heap_alloc _ _ k (by simp; omega), Below.heap_alloc _ _ k hk]
set_option maxRecDepth 20000 in
set_option maxHeartbeats 2000000 in
theorem MakeGrowing_any (B : Nat) (x : Option Addr) (n cap m : Nat) (hm : m ≤ 1000) (w : World) (hB : B ≤ w.heap.size) (hr : RB B w x n) :
    Calls Try.prog 19 #[.slice x n cap, .int .i64 m] w fun e w' => ∃ y cy zs, e = .returned (.agg #[.slice y zs.length cy]) ∧ sB zs = true ∧ 2 ≤ (zs.getD 0 ByteArray.empty).size ∧ IsStrs w' y zs.length cy zs ∧ Below w.heap.size w w' := by
  obtain ⟨i0, hi0, hy0, hy1, hy2⟩ := info_parts infoS
  have hbW : Below w.heap.size w (w.alloc (.cells #[.slice none 0 0] 25)) := (Below.refl _ w).alloc (Nat.le_refl _) _
  have hrW : RB w.heap.size (w.alloc (.cells #[.slice none 0 0] 25)) x n := rB_below (rB_mono hr hB) hbW
  have hC1 := l31New_any w.heap.size x n cap m hm _ (by simp) hrW
  clear hr
  go_enter Try.func19, Try.ntmps19
  go_wp2_with (first | (go_at_call 59; refine hC1.mono ?_; rintro e w1 ⟨g, rfl, hg, hc1, hb1⟩; have hz1 := hb1.size; (simp at hg); have hk1 := fun o => hb1.cell (p := ⟨w.heap.size, o, none⟩) (by simp); have hk2 := fun o => hb1.frozen (p := ⟨w.heap.size, o, none⟩) (by simp)) | (go_at_call 58; refine (l03Draw_any (w.heap.size + 1) g x n cap w1 hg (rB_below (rB_mono hrW (by omega)) (hb1.mono (by simp))) hc1).mono ?_; rintro e w2 ⟨y, cy, zs, rfl, hS, hst, hy, hg2⟩; have hz2 := hg2.size; have hb2 := below_of_grown (B := w.heap.size + 1) hg2 (by simp at hz1; omega) hg; have hk3 := fun o => hb2.cell (p := ⟨w.heap.size, o, none⟩) (by simp); have hk4 := fun o => hb2.frozen (p := ⟨w.heap.size, o, none⟩) (by simp); obtain ⟨b, off, rfl, hbl, hcl⟩ := isStrs_cell hst (by have := (s_of hS).1; omega); have hyb := hy b off rfl; have hlz := (s_of hS).1; have hwz : w.heap.size < w2.heap.size := (by simp at hz1; omega)) | (at_builtin; refine wpList_append_lies _ rfl _ _ _ rfl (w2.heap.size + 1) 9 i0 _ 1 16 Try.underlying23 hi0 hy0 hy1 hy2 rfl (by decide) (.slice (some ⟨w2.heap.size + 1, 0, none⟩) 0 0) 0 [] (by rfl) (own_lit1 w2 _) ⟨b, off, none⟩ zs.length cy (sv zs) (by rfl) (by simp [sv]) (news_strs (isStrs_below hst (Nat.le_refl _) (((Below.refl _ w2).alloc (Nat.le_refl _) _).alloc (by simp) _)) rfl) (by intro u hu; obtain ⟨z, _, rfl⟩ := List.mem_map.1 hu; rfl) (by omega) (by unfold maxLen; omega) (by omega) (by simp) (w2.heap.size + 2) (by simp) ?_; intro gg capA w3 hown3 hgrow hatg hltg; obtain ⟨f1, f2, f3, f4, f5, f6, f7, f8⟩ := mg_facts (by omega) rfl hown3 hgrow; have hN0 : (0 : Int) < (zs.length : Int) := (by omega); obtain ⟨z0, hz0⟩ : ∃ z0, zs.getD 0 ByteArray.empty = z0 := ⟨_, rfl⟩; rw [hz0] at f6))
  have hz8 : 1 ≤ z0.size ∧ z0.size ≤ 8 := by rw [← hz0]; exact ((s_of hS).2 0 (by omega)).1
  obtain ⟨k, hk, hk7, hko, hkz⟩ : ∃ k : Nat, min (z0.size : Int) 7 = (k : Int) ∧ k ≤ 7 ∧ 1 ≤ k ∧ k ≤ z0.size := ⟨min z0.size 7, by omega, by omega, by omega, by omega⟩
  have hkz' : (k : Int) ≤ (z0.size : Int) := by omega
  have hrun : ∀ w, (Op.stringOp .add (⟨#[97]⟩ : ByteArray) (z0.extract 0 k)).run Try.prog w = .ok (.string (gim z0 k)) w := fun w => run_string_add_sum w _ _ (by rw [ByteArray.size_extract]; have : (⟨#[97]⟩ : ByteArray).size = 1 := rfl; omega)
  have hggb := (f4.lt gg rfl).1
  have c3 : w3.cell? ⟨w.heap.size, 0, none⟩ = some (.slice none 0 0) := (f8.cell_far _ hwz (by simp)).trans ((hk3 0).trans ((hk1 0).trans (by simp [go_sem])))
  have d3 : w3.frozen? ⟨w.heap.size, 0, none⟩ = false := (f8.frozen_far _ hwz (by simp)).trans ((hk4 0).trans ((hk2 0).trans (by simp [go_sem])))
  have ne1 : w.heap.size ≠ w2.heap.size := by omega
  have ne2 : w.heap.size ≠ gg := by omega
  have hgs := grow_sB hS k hk7 hko (by rw [hz0]; exact hkz)
  rw [hz0] at hgs
  simp only [World.size_alloc] at hz1
  have hbA : Below w.heap.size w w2 := (hbW.trans (hb1.mono (by simp))).trans (hb2.mono (by omega))
  have hbB : Below w.heap.size w w3 := hbA.grown f8 (by omega) (fun k hk => by cases hk)
  go_region
  all_goals go_wp2
  all_goals
    refine bodyPost_ret (v := .agg #[.slice (some ⟨gg, 0, none⟩) zs.length capA]) (by simp [results, Try.results19, go_sem, cset, csame, *]) rfl ⟨some ⟨gg, 0, none⟩, capA, zs.set 0 (gim z0 k), by rw [List.length_set], hgs.1, hgs.2, ?_, ?_⟩
    · have o1 := f4.kept (grown_set w3 w2.heap.size 0 (.slice (some ⟨gg, 0, none⟩) zs.length capA)) (.inr (by simp [Value.ownBlock]; omega))
      have o2 := (o1.stored 0 (.string (gim z0 k))).1
      rw [sv_set] at o2
      have o3 := o2.kept (grown_set _ w.heap.size 0 (.slice (some ⟨gg, 0, none⟩) zs.length capA)) (.inr (by simp [Value.ownBlock]; omega))
      rw [List.length_set]
      exact isStrs_own o3 (fun z hz => by
        obtain ⟨j, hj, rfl⟩ := List.getElem_of_mem hz
        have := ((s_of hgs.1).2 j hj).1.2
        rw [List.getD_eq_getElem?_getD, List.getElem?_eq_getElem hj] at this
        unfold maxLen
        simp at this ⊢
        omega)
    · (repeat (first | with_reducible exact Below.refl _ _ | assumption | with_reducible refine Qdrew ?_ | with_reducible refine QdrewN ?_ | ((with_reducible refine Qset ?_ ?_); exact (by ((try simp only [World.size_alloc, World.size_setCell, World.size_drew, size_drewN]); (try dsimp only); omega))) | ((with_reducible refine Qalloc ?_ ?_); exact (by ((try simp only [World.size_alloc, World.size_setCell, World.size_drew, size_drewN]); (try dsimp only); omega))) | refine Qtrans (by assumption) (by ((try simp only [World.size_alloc, World.size_setCell, World.size_drew, size_drewN]); (try dsimp only); omega)) ?_))
end Go.Proofs.Ytilbhingfnjppab
