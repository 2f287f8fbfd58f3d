/- Parents: the walks. -/
import Derived.Test.YtieibopegmoanaaParC
import Derived.Test.YtieibopegmoanaaWordsH
set_option linter.unusedSimpArgs false
set_option linter.unusedVariables false
namespace Go.Proofs.Ytieibopegmoanaa
open Go.RowKit
theorem its_len (s : ByteArray) (zs : List ByteArray) (F : List Int) : ∀ m, (its s zs F m).1.length ≤ m
  | 0 => by simp [its]
  | m + 1 => by
    have := its_len s zs F m
    rw [its, nxt1]; split
    · simp; omega
    · omega
noncomputable def paV (zs : List ByteArray) (s : ByteArray) : Value := if (wys s zs).getD 0 0 = 0 then .tuple #[.string ⟨#[]⟩, .bool false] else .tuple #[.string ⟨(par s zs).toArray⟩, .bool true]
theorem pa_no {zs : List ByteArray} {s : ByteArray} (h : (wys s zs).getD 0 0 = 0) : paV zs s = .tuple #[.string ⟨#[]⟩, .bool false] := by simp only [paV]; rw [if_pos h]
theorem pa_yes {zs : List ByteArray} {s : ByteArray} (h : ¬ (wys s zs).getD 0 0 = 0) : paV zs s = .tuple #[.string ⟨(par s zs).toArray⟩, .bool true] := by simp only [paV]; rw [if_neg h]
theorem u8_letter (k : Nat) (h : k < 4) : IntKind.u8.wrap (97 + (k : Int)) = ((97 + UInt8.ofNat k).toNat : Int) := by
  match k, h with
  | 0, _ => rfl
  | 1, _ => rfl
  | 2, _ => rfl
  | 3, _ => rfl
theorem some_good {s : ByteArray} {zs : List ByteArray} {n p : Nat} (hl : zs.length = n) (hv : ∀ v ∈ zs, 1 ≤ v.size) (hp : p < s.size) (h : 0 < (wys s zs).getD p 0) (hn : ∀ j, j < n → good s (wys s zs) p (zs.getD j ByteArray.empty) = false) : False := by
  obtain ⟨v, hvm, h1, h2⟩ := wys_pos hv hp h
  obtain ⟨j, hj, e⟩ := List.getElem_of_mem hvm
  have := hn j (by omega)
  rw [show zs.getD j ByteArray.empty = v by simp [List.getD_eq_getElem?_getD, hj, e]] at this
  simp [good, h1] at this
  simp [List.getD_eq_getElem?_getD] at h2
  omega
theorem ge1_of {zs : List ByteArray} (h : sB zs = true) : ∀ v ∈ zs, 1 ≤ v.size := by
  intro v hv
  obtain ⟨j, hj, e⟩ := List.getElem_of_mem hv
  have := ((s_of h).2 j hj).1.1
  rw [show zs.getD j ByteArray.empty = v by simp [List.getD_eq_getElem?_getD, hj, e]] at this
  exact this
set_option maxHeartbeats 4000000 in
theorem l17Parent_any (x : Option Addr) (n cap : Nat) (zs : List ByteArray) (s : ByteArray) (w : World) (h : IsStrs w x n cap zs) (hS : sB zs = true) (hs400 : s.size ≤ 400) :
    Calls Try.prog 53 #[.agg #[.slice x n cap], .string s] w fun e w' => e = .returned (paV zs s) ∧ Below w.heap.size w w' := by
  obtain ⟨i0, hi0, hz0, hz1, hz2⟩ := info_parts infoB
  have hlen := h.1
  obtain ⟨hn4, hz8⟩ := s_bounds hlen hS
  have hv1 := Lib.hid (ge1_of hS)
  have hb0 : Below w.heap.size w (w.alloc (.cells #[.slice x n cap] 27)) := (Below.refl _ w).alloc (Nat.le_refl _) _
  have h' := isStrs_below h (Nat.le_refl _) hb0
  have hwl := Lib.hid (wys_len s zs)
  have hlo := Lib.hid (wq_low s zs s.size)
  have hf0 : (0 : Int) < (s.size : Int) + 1 := by omega
  by_cases hF0 : (wys s zs).getD 0 0 = 0
  · have hv := Lib.hid (pa_no hF0)
    go_enter Try.func53, Try.ntmps53
    go_wp2_with (go_at_call 83; refine (specWays_any _ _ _ _ _ _ h' hn4 hz8 hs400).mono ?_; rintro e wA ⟨g, rfl, hg, hown, hb1⟩; have hcc := own_cell hown 0 (by omega); rw [iv_at _ _ (by rw [hwl.out]; omega), hF0] at hcc)
    refine bodyPost_ret (v := paV zs s) (by rw [hv.out]; simp [results, Try.results53, go_sem]) rfl ⟨rfl, by (repeat (first | with_reducible exact Below.refl _ _ | assumption | with_reducible refine Qdrew ?_ | with_reducible refine QdrewN ?_ | ((with_reducible refine Qset ?_ ?_); exact (by ((try simp only [World.size_alloc, World.size_setCell, World.size_drew, size_drewN]); (try dsimp only); omega))) | ((with_reducible refine Qalloc ?_ ?_); exact (by ((try simp only [World.size_alloc, World.size_setCell, World.size_drew, size_drewN]); (try dsimp only); omega))) | refine Qtrans (by assumption) (by ((try simp only [World.size_alloc, World.size_setCell, World.size_drew, size_drewN]); (try dsimp only); omega)) ?_))⟩
  have hv := Lib.hid (pa_yes hF0)
  have hFp : Hid (0 < (wys s zs).getD 0 0) := by have := hlo.out 0; show _ < _; unfold wys at *; omega
  have hFz : ((wys s zs).getD 0 0 == 0) = false := by simpa using hF0
  obtain ⟨F0, hFe⟩ : ∃ F0, (wys s zs).getD 0 0 = F0 := ⟨_, rfl⟩
  rw [hFe] at hFz
  have hFe' := Lib.hid hFe
  clear hF0 hFe
  go_enter Try.func53, Try.ntmps53
  go_wp2_with (go_at_call 83; refine (specWays_any _ _ _ _ _ _ h' hn4 hz8 hs400).mono ?_; rintro e wA ⟨g, rfl, hg, hown, hb1⟩; have hcc := own_cell hown 0 (by omega); rw [iv_at _ _ (by rw [hwl.out]; omega), hFe'.out] at hcc)
  have hcB : wA.cell? ⟨w.heap.size, 0, none⟩ = some (.slice x n cap) := (hb1.cell (by simp)).trans (by simp [go_sem])
  have hstA := isStrs_below h' (Nat.le_refl _) hb1
  have hgA := (hown.lt g rfl).2
  have hbA : Below w.heap.size w wA := Qtrans hb1 (by simp) hb0
  have hzA := hb1.size
  simp only [World.size_alloc] at hzA
  go_loopw [7, 8] (fun bv0 i wr => ∃ (m p : Nat) (acc : List UInt8) (g2 c2 : Nat), Hid (its s zs (wys s zs) m = (acc, p)) ∧ m ≤ p ∧ p ≤ s.size ∧ Hid (0 < (wys s zs).getD p 0) ∧ i = .int .i64 p ∧ bv0 = .slice (some ⟨g2, 0, none⟩) acc.length c2 ∧ acc.length ≤ m ∧ wr.ownsRow wA.heap.size 5 1 (.slice (some ⟨g2, 0, none⟩) acc.length c2) acc.length (bv acc) ∧ wA.heap.size ≤ wr.heap.size ∧ Below wA.heap.size wA wr) (fun _ i _ => s.size - (intOf i).toNat)
  case atStart => exact ⟨0, 0, [], wA.heap.size, 0, Lib.hid rfl, Nat.le_refl _, by omega, hFp, rfl, rfl, Nat.le_refl _, World.ownsRow_lit wA #[] 0 (Nat.le_refl _) (by decide) rfl, by ((try simp only [World.size_alloc, World.size_setCell, World.size_drew, size_drewN]); (try dsimp only); omega), by (repeat (first | with_reducible exact Below.refl _ _ | assumption | with_reducible refine Qdrew ?_ | with_reducible refine QdrewN ?_ | ((with_reducible refine Qset ?_ ?_); exact (by ((try simp only [World.size_alloc, World.size_setCell, World.size_drew, size_drewN]); (try dsimp only); omega))) | ((with_reducible refine Qalloc ?_ ?_); exact (by ((try simp only [World.size_alloc, World.size_setCell, World.size_drew, size_drewN]); (try dsimp only); omega))) | refine Qtrans (by assumption) (by ((try simp only [World.size_alloc, World.size_setCell, World.size_drew, size_drewN]); (try dsimp only); omega)) ?_))⟩
  case round =>
    obtain ⟨m, p, acc, g2, c2, hit, hmp, hps, hpos, rfl, rfl, hacc, hob, hz, hbel⟩ := hrel
    have hcBr : wr.cell? ⟨w.heap.size, 0, none⟩ = some (.slice x n cap) := (hbel.cell (by show w.heap.size < _; omega)).trans hcB
    have hp0 : (0 : Int) ≤ (p : Int) := by omega
    by_cases hlt : p < s.size
    · have hlt' : (p : Int) < (s.size : Int) := by omega
      have hp1 : (p : Int) ≤ (s.size : Int) := by omega
      go_wp2
      go_loopw [7, 8, 26] (fun bv0 i kk wr2 => ∃ k : Nat, k ≤ n ∧ kk = .int .i64 k ∧ i = .int .i64 p ∧ bv0 = .slice (some ⟨g2, 0, none⟩) acc.length c2 ∧ Hid (∀ j, j < k → good s (wys s zs) p (zs.getD j ByteArray.empty) = false) ∧ wr = wr2) (fun _ _ kk _ => n - (intOf kk).toNat)
      case atStart => exact ⟨0, by omega, rfl, rfl, rfl, Lib.hid (fun _ q => absurd q (by omega)), by first | rfl | trivial⟩
      case round =>
        obtain ⟨k, hk, rfl, rfl, rfl, hno, rfl⟩ := hrel
        by_cases hkn : k < n
        · obtain ⟨b, off, rfl, hbl, hc⟩ := isStrs_cell hstA (by omega)
          have hck := (hbel.cell (by exact hbl)).trans (hc k hkn)
          have hv8 := hz8 k hkn
          have hvv : 1 ≤ (zs.getD k ByteArray.empty).size := hv1.out _ (getD_mem (by omega))
          obtain ⟨v, hve⟩ : ∃ v, zs.getD k ByteArray.empty = v := ⟨_, rfl⟩
          rw [hve] at hck hv8 hvv
          have hve' := Lib.hid hve
          have hk0 : (0 : Int) ≤ (k : Int) := by omega
          have hk1 : (k : Int) < (n : Int) := by omega
          clear hve hc
          by_cases hle : p + v.size ≤ s.size
          · have hq1 : (p : Int) + (v.size : Int) ≤ (s.size : Int) := by omega
            have hq2 : (0 : Int) ≤ (p : Int) + (v.size : Int) := by omega
            have hq3 : (p : Int) + (v.size : Int) < (s.size : Int) + 1 := by omega
            have hq4 : (p : Int) ≤ (p : Int) + (v.size : Int) := by omega
            have hcF : wr.cell? ⟨g, p + v.size, none⟩ = some (.int .i64 ((wys s zs).getD (p + v.size) 0)) := (hbel.cell (by exact hgA)).trans (by rw [own_cell hown (p + v.size) (by omega), iv_at _ _ (by rw [hwl.out]; omega)])
            obtain ⟨y, hy⟩ : ∃ y, (wys s zs).getD (p + v.size) 0 = y := ⟨_, rfl⟩
            rw [hy] at hcF
            have hgd : Hid (good s (wys s zs) p v = ((s.extract p (p + v.size)).toList == v.toList && decide (0 < y))) := by
              show _ = _
              simp only [good, hitP, hle, hy, decide_true, Bool.true_and]
            have hy' := Lib.hid hy
            clear hy
            cases heq : (s.extract p (p + v.size)).toList == v.toList
            · have hg0 := Lib.hid (hgd.out.trans (by rw [heq, Bool.false_and]))
              go_wp2
              all_goals
                go_roundw
                case rel => exact ⟨k + 1, by omega, by go_num, rfl, rfl, Lib.hid (fun j hj => by
                    by_cases e : j = k
                    · subst e; rw [hve'.out]; exact hg0.out
                    · exact hno.out j (by omega)), by first | rfl | trivial⟩
                case measure => (simp [intOf]) <;> omega
            · by_cases hy0 : 0 < y
              · have hg1 := hgd.out.trans (by rw [heq, decide_eq_true hy0, Bool.and_true])
                rw [← hve'.out] at hg1
                have hch := ch_is (k := k) (by omega) hg1 hno.out
                have hnx := Lib.hid (its_next hit.out hlt hch)
                have hu := u8_letter k (by omega)
                obtain ⟨L, hL⟩ : ∃ L, (97 + UInt8.ofNat k : UInt8) = L := ⟨_, rfl⟩
                rw [hL] at hu
                have hL' := Lib.hid hL
                clear hg1 hch hL
                go_wp2_with (at_builtin; refine wpList_append_lies _ rfl _ _ _ rfl (wA.heap.size) 5 i0 _ 1 1 Try.underlying45 hi0 hz0 hz1 hz2 rfl (by decide) (.slice (some ⟨g2, 0, none⟩) acc.length c2) (acc.length) (bv acc) (by rfl) (hob.alloc _) ⟨(wr).heap.size, 0, none⟩ 1 1 [.int .u8 (L.toNat : Int)] (by rfl) (by rfl) (World.news_of_block (cs := #[.int .u8 (L.toNat : Int)]) (t := 5) (fr := (0, 0)) (heap_alloc_new (wr) _)) (by simp [Value.oneCell']) (by omega) (by unfold maxLen; omega) (by omega) (by simp; omega) ((wr).heap.size + 1) (by simp) ?_; intro gg cap w1 hown1 hgrow hatg hltg)
                go_roundw
                case rel => exact ⟨m + 1, p + v.size, acc ++ [L], gg, cap, Lib.hid (by rw [hnx.out, hL'.out, hve'.out]), by omega, by omega, Lib.hid (by rw [hy'.out]; exact hy0), by go_num, by rw [List.length_append]; rfl, by rw [List.length_append]; simp; omega, by rw [List.length_append, bv_snoc]; exact hown1, by have := size_app hgrow; omega, below_app hbel hz hob hgrow⟩
                case measure => (simp [intOf]) <;> omega
              · have hg0 := Lib.hid (hgd.out.trans (by rw [decide_eq_false hy0, Bool.and_false]))
                go_wp2
                all_goals
                  go_roundw
                  case rel => exact ⟨k + 1, by omega, by go_num, rfl, rfl, Lib.hid (fun j hj => by
                      by_cases e : j = k
                      · subst e; rw [hve'.out]; exact hg0.out
                      · exact hno.out j (by omega)), by first | rfl | trivial⟩
                  case measure => (simp [intOf]) <;> omega
          · have hg0 : Hid (good s (wys s zs) p v = false) := by show _ = _; simp [good, hitP, hle]
            have hq1 : ¬ (p : Int) + (v.size : Int) ≤ (s.size : Int) := by omega
            go_wp2
            all_goals
              go_roundw
              case rel => exact ⟨k + 1, by omega, by go_num, rfl, rfl, Lib.hid (fun j hj => by
                  by_cases e : j = k
                  · subst e; rw [hve'.out]; exact hg0.out
                  · exact hno.out j (by omega)), by first | rfl | trivial⟩
              case measure => (simp [intOf]) <;> omega
        · exfalso
          exact some_good hlen hv1.out hlt hpos.out (fun j hj => hno.out j (by omega))
    · have hpe := Lib.hid (show p = s.size by omega)
      have hlt' : ¬ (p : Int) < (s.size : Int) := by omega
      have hcv := own_string hob
      have hpar : Hid (par s zs = acc) := by
        show _ = _
        have e := its_end (s := s) (zs := zs) (F := wys s zs) (m := m) (by rw [hit.out]; exact Nat.le_of_eq hpe.out.symm) (by rw [← hpe.out]; exact hmp)
        unfold par; rw [e, hit.out]
      have hv2 : Hid (paV zs s = .tuple #[.string ⟨acc.toArray⟩, .bool true]) := by show _ = _; rw [hv.out, hpar.out]
      go_wp2
      refine bodyPost_ret (v := paV zs s) (by rw [hv2.out]; simp [results, Try.results53, go_sem]) rfl ⟨rfl, Qtrans hbel (by omega) hbA⟩
end Go.Proofs.Ytieibopegmoanaa
