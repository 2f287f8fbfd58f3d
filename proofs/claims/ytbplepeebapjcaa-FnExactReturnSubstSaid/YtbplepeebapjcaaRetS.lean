/- The substitution of return words: the walks and the law. -/
import Derived.Test.YtbplepeebapjcaaWordsI
import Derived.Test.YtbplepeebapjcaaSubst
set_option linter.unusedSimpArgs false
set_option linter.unusedVariables false
namespace Go.Proofs.Ytbplepeebapjcaa
open Go.RowKit
noncomputable def rd (s f : ByteArray) : List ByteArray := if sB (dd (R s f)) then dd (R s f) else []
noncomputable def rdB (s f : ByteArray) : Bool := sB (dd (R s f))
set_option maxHeartbeats 1000000 in
theorem specRS_any (s f : ByteArray) (w : World) (hs : s.size ≤ 9223372036854775807) (hf : f.size ≤ 9223372036854775807) :
    Calls Try.prog 30 #[.string s, .string f] w fun e w' => ∃ x cap, e = .returned (.tuple #[.agg #[.slice x (rd s f).length cap], .bool (rdB s f)]) ∧ w'.ownsRow w.heap.size 9 1 (.slice x (rd s f).length cap) (rd s f).length (sv (rd s f)) ∧ Below w.heap.size w w' := by
  have hrc := fun w => specReturns_any s f w hs hf
  have hn1 : (dd (R s f)).length ≤ 401 := Nat.le_trans (ddl _) (R_len s f hs)
  have hDs := dd_small (R_small s f hs)
  have hrd : rd s f = if sB (dd (R s f)) then dd (R s f) else [] := rfl
  have hrb : rdB s f = sB (dd (R s f)) := rfl
  unfold RowS at hrc
  obtain ⟨D, hD⟩ : ∃ D, dd (R s f) = D := ⟨_, rfl⟩
  rw [hD] at hrc hn1 hDs hrd hrb
  obtain ⟨n, hn⟩ : ∃ n, D.length = n := ⟨_, rfl⟩
  rw [hn] at hrc hn1
  have hn' := Lib.hid hn
  have hDs' := Lib.hid hDs
  have hrd' := Lib.hid hrd
  have hrb' := Lib.hid hrb
  clear hD hn hDs hrd hrb
  have hb0 : Below w.heap.size w (w.alloc (.cells #[.slice none 0 0] 34)) := (Below.refl _ w).alloc (Nat.le_refl _) _
  cases hS : sB D
  all_goals
    go_enter Try.func30, Try.ntmps30
    go_wp2_with (go_at_call 24; refine (hrc _).mono ?_; rintro e w1 ⟨x1, c1, rfl, h1, hb1⟩; obtain ⟨hc1, hf1⟩ := bcell hb1; have hl1 := ltW hb1)
    have hz1 := hb1.size
    simp only [World.size_alloc] at hz1
    have hs1 : w.heap.size < w1.heap.size := by omega
    have hB1 : Below w1.heap.size w1 (w1.alloc (.cells #[.slice x1 n c1] 34)) := (Below.refl _ w1).alloc (Nat.le_refl _) _
    have a1 := isStrs_below (rowS_strs' h1 hDs'.out) (Nat.le_refl _) hB1
    have o1 := own_below h1 hB1
    go_wp2_with (go_at_call 66; refine (specSubstOk_any _ _ _ _ _ a1 (by omega)).mono ?_; rintro e w2 ⟨rfl, hb2⟩; obtain ⟨hc2, hf2⟩ := bcell hb2; have hl2 := ltW hb2)
    have hz2 := hb2.size
    simp only [World.size_alloc] at hz2
    have o2 := own_below o1 hb2
  · have e1 : Hid (rd s f = []) := by show _ = _; rw [hrd'.out, hS]; rfl
    have e2 : Hid (rdB s f = false) := hrb'.out.trans hS
    refine bodyPost_ret (v := .tuple #[.agg #[.slice none 0 0], .bool false]) (by simp [results, Try.results30, go_sem, csame, cset, *]) rfl ⟨none, 0, by rw [e1.out, e2.out]; rfl, by rw [e1.out]; exact World.ownsRow_nil _ _ _ _, by (repeat (first | with_reducible exact Below.refl _ _ | assumption | with_reducible refine Qdrew ?_ | with_reducible refine QdrewN ?_ | ((with_reducible refine Qset ?_ ?_); exact (by ((try simp only [World.size_alloc, World.size_setCell, World.size_drew, size_drewN]); (try dsimp only); omega))) | ((with_reducible refine Qalloc ?_ ?_); exact (by ((try simp only [World.size_alloc, World.size_setCell, World.size_drew, size_drewN]); (try dsimp only); omega))) | refine Qtrans (by assumption) (by ((try simp only [World.size_alloc, World.size_setCell, World.size_drew, size_drewN]); (try dsimp only); omega)) ?_))⟩
  · have e1 : Hid (rd s f = D) := by show _ = _; rw [hrd'.out, hS]; rfl
    have e2 : Hid (rdB s f = true) := hrb'.out.trans hS
    refine bodyPost_ret (v := .tuple #[.agg #[.slice x1 n c1], .bool true]) (by simp [results, Try.results30, go_sem, csame, cset, *]) rfl ⟨x1, c1, by rw [e1.out, e2.out, hn'.out], ?_, by (repeat (first | with_reducible exact Below.refl _ _ | assumption | with_reducible refine Qdrew ?_ | with_reducible refine QdrewN ?_ | ((with_reducible refine Qset ?_ ?_); exact (by ((try simp only [World.size_alloc, World.size_setCell, World.size_drew, size_drewN]); (try dsimp only); omega))) | ((with_reducible refine Qalloc ?_ ?_); exact (by ((try simp only [World.size_alloc, World.size_setCell, World.size_drew, size_drewN]); (try dsimp only); omega))) | refine Qtrans (by assumption) (by ((try simp only [World.size_alloc, World.size_setCell, World.size_drew, size_drewN]); (try dsimp only); omega)) ?_))⟩
    rw [e1.out, hn'.out]
    exact World.ownsRow.mono (ownsRow_setCell_below o2 (by simp) _) (by simp)
set_option maxHeartbeats 1000000 in
theorem implRS_any (s f : ByteArray) (w : World) (hs : s.size ≤ 9223372036854775807) (hf : f.size ≤ 9223372036854775807) :
    Calls Try.prog 31 #[.string s, .string f] w fun e w' => ∃ x cap, e = .returned (.tuple #[.agg #[.slice x (rd s f).length cap], .bool (rdB s f)]) ∧ w'.ownsRow w.heap.size 9 1 (.slice x (rd s f).length cap) (rd s f).length (sv (rd s f)) ∧ Below w.heap.size w w' := by
  have hrc := fun w => implReturns_any s f w hs hf
  have hn1 : (dd (R s f)).length ≤ 401 := Nat.le_trans (ddl _) (R_len s f hs)
  have hDs := dd_small (R_small s f hs)
  have hrd : rd s f = if sB (dd (R s f)) then dd (R s f) else [] := rfl
  have hrb : rdB s f = sB (dd (R s f)) := rfl
  unfold RowS at hrc
  obtain ⟨D, hD⟩ : ∃ D, dd (R s f) = D := ⟨_, rfl⟩
  rw [hD] at hrc hn1 hDs hrd hrb
  obtain ⟨n, hn⟩ : ∃ n, D.length = n := ⟨_, rfl⟩
  rw [hn] at hrc hn1
  have hn' := Lib.hid hn
  have hDs' := Lib.hid hDs
  have hrd' := Lib.hid hrd
  have hrb' := Lib.hid hrb
  clear hD hn hDs hrd hrb
  have hb0 : Below w.heap.size w (w.alloc (.cells #[.slice none 0 0] 34)) := (Below.refl _ w).alloc (Nat.le_refl _) _
  cases hS : sB D
  all_goals
    go_enter Try.func31, Try.ntmps31
    go_wp2_with (go_at_call 25; refine (hrc _).mono ?_; rintro e w1 ⟨x1, c1, rfl, h1, hb1⟩; obtain ⟨hc1, hf1⟩ := bcell hb1; have hl1 := ltW hb1)
    have hz1 := hb1.size
    simp only [World.size_alloc] at hz1
    have hs1 : w.heap.size < w1.heap.size := by omega
    have hB1 : Below w1.heap.size w1 (w1.alloc (.cells #[.slice x1 n c1] 34)) := (Below.refl _ w1).alloc (Nat.le_refl _) _
    have a1 := isStrs_below (rowS_strs' h1 hDs'.out) (Nat.le_refl _) hB1
    have o1 := own_below h1 hB1
    go_wp2_with (go_at_call 67; refine (implSubstOk_any _ _ _ _ _ a1 (by omega)).mono ?_; rintro e w2 ⟨rfl, hb2⟩; obtain ⟨hc2, hf2⟩ := bcell hb2; have hl2 := ltW hb2)
    have hz2 := hb2.size
    simp only [World.size_alloc] at hz2
    have o2 := own_below o1 hb2
  · have e1 : Hid (rd s f = []) := by show _ = _; rw [hrd'.out, hS]; rfl
    have e2 : Hid (rdB s f = false) := hrb'.out.trans hS
    refine bodyPost_ret (v := .tuple #[.agg #[.slice none 0 0], .bool false]) (by simp [results, Try.results31, go_sem, csame, cset, *]) rfl ⟨none, 0, by rw [e1.out, e2.out]; rfl, by rw [e1.out]; exact World.ownsRow_nil _ _ _ _, by (repeat (first | with_reducible exact Below.refl _ _ | assumption | with_reducible refine Qdrew ?_ | with_reducible refine QdrewN ?_ | ((with_reducible refine Qset ?_ ?_); exact (by ((try simp only [World.size_alloc, World.size_setCell, World.size_drew, size_drewN]); (try dsimp only); omega))) | ((with_reducible refine Qalloc ?_ ?_); exact (by ((try simp only [World.size_alloc, World.size_setCell, World.size_drew, size_drewN]); (try dsimp only); omega))) | refine Qtrans (by assumption) (by ((try simp only [World.size_alloc, World.size_setCell, World.size_drew, size_drewN]); (try dsimp only); omega)) ?_))⟩
  · have e1 : Hid (rd s f = D) := by show _ = _; rw [hrd'.out, hS]; rfl
    have e2 : Hid (rdB s f = true) := hrb'.out.trans hS
    refine bodyPost_ret (v := .tuple #[.agg #[.slice x1 n c1], .bool true]) (by simp [results, Try.results31, go_sem, csame, cset, *]) rfl ⟨x1, c1, by rw [e1.out, e2.out, hn'.out], ?_, by (repeat (first | with_reducible exact Below.refl _ _ | assumption | with_reducible refine Qdrew ?_ | with_reducible refine QdrewN ?_ | ((with_reducible refine Qset ?_ ?_); exact (by ((try simp only [World.size_alloc, World.size_setCell, World.size_drew, size_drewN]); (try dsimp only); omega))) | ((with_reducible refine Qalloc ?_ ?_); exact (by ((try simp only [World.size_alloc, World.size_setCell, World.size_drew, size_drewN]); (try dsimp only); omega))) | refine Qtrans (by assumption) (by ((try simp only [World.size_alloc, World.size_setCell, World.size_drew, size_drewN]); (try dsimp only); omega)) ?_))⟩
    rw [e1.out, hn'.out]
    exact World.ownsRow.mono (ownsRow_setCell_below o2 (by simp) _) (by simp)
set_option maxHeartbeats 4000000 in
theorem ReturnSubst_law (s : ByteArray) (hs : s.size ≤ maxLen) (f : ByteArray) (hf : f.size ≤ maxLen) (w : World) :
    Calls Try.prog 8 #[.string s, .string f] w fun e w' => e = .returned (.bool true) ∧ Below w.heap.size w w' := by
  have hs' : s.size ≤ 9223372036854775807 := hs
  have hf' : f.size ≤ 9223372036854775807 := hf
  clear hs hf
  by_cases hbig : (1048576 : Int) < (s.size : Int)
  · go_enter Try.func8, Try.ntmps8
    go_wp2
    go_ret
    exact ⟨rfl, by (repeat (first | with_reducible exact Below.refl _ _ | assumption | with_reducible refine Qdrew ?_ | with_reducible refine QdrewN ?_ | ((with_reducible refine Qset ?_ ?_); exact (by ((try simp only [World.size_alloc, World.size_setCell, World.size_drew, size_drewN]); (try dsimp only); omega))) | ((with_reducible refine Qalloc ?_ ?_); exact (by ((try simp only [World.size_alloc, World.size_setCell, World.size_drew, size_drewN]); (try dsimp only); omega))) | refine Qtrans (by assumption) (by ((try simp only [World.size_alloc, World.size_setCell, World.size_drew, size_drewN]); (try dsimp only); omega)) ?_))⟩
  by_cases hbig2 : (1048576 : Int) < (f.size : Int)
  · go_enter Try.func8, Try.ntmps8
    go_wp2
    go_ret
    exact ⟨rfl, by (repeat (first | with_reducible exact Below.refl _ _ | assumption | with_reducible refine Qdrew ?_ | with_reducible refine QdrewN ?_ | ((with_reducible refine Qset ?_ ?_); exact (by ((try simp only [World.size_alloc, World.size_setCell, World.size_drew, size_drewN]); (try dsimp only); omega))) | ((with_reducible refine Qalloc ?_ ?_); exact (by ((try simp only [World.size_alloc, World.size_setCell, World.size_drew, size_drewN]); (try dsimp only); omega))) | refine Qtrans (by assumption) (by ((try simp only [World.size_alloc, World.size_setCell, World.size_drew, size_drewN]); (try dsimp only); omega)) ?_))⟩
  have hspec := fun w => specRS_any s f w hs' hf'
  have himpl := fun w => implRS_any s f w hs' hf'
  have hn1 : (rd s f).length ≤ 401 := by
    unfold rd; split
    · exact Nat.le_trans (ddl _) (R_len s f hs')
    · simp
  have hDs : ∀ z ∈ rd s f, z.size ≤ maxLen := by
    unfold rd; split
    · exact dd_small (R_small s f hs')
    · simp
  obtain ⟨bb, hbb⟩ : ∃ bb, rdB s f = bb := ⟨_, rfl⟩
  obtain ⟨D, hD⟩ : ∃ D, rd s f = D := ⟨_, rfl⟩
  rw [hD, hbb] at hspec himpl
  rw [hD] at hn1 hDs
  obtain ⟨n, hn⟩ : ∃ n, D.length = n := ⟨_, rfl⟩
  rw [hn] at hspec himpl hn1
  have hDs' := Lib.hid hDs
  clear hD hn hDs hbb
  go_enter Try.func8, Try.ntmps8
  go_wp2_with (go_at_call 30; refine (hspec _).mono ?_; rintro e w1 ⟨x1, c1, rfl, h1, hb1⟩)
  have z1 := hb1.size
  have B1 : Below w1.heap.size w1 (w1.alloc (.cells #[.slice x1 n c1] 34)) := (Below.refl _ w1).alloc (Nat.le_refl _) _
  have a1 := isStrs_below (rowS_strs' h1 hDs'.out) (Nat.le_refl _) B1
  go_wp2_with (go_at_call 31; refine (himpl _).mono ?_; rintro e w2 ⟨x2, c2, rfl, h2, hb2⟩; obtain ⟨hc2, hf2⟩ := bcell hb2; have hl2 := ltW hb2)
  have z2 := hb2.size
  simp only [World.size_alloc] at z2
  have s2 : w1.heap.size < w2.heap.size := by omega
  have B2 : Below w2.heap.size w2 (w2.alloc (.cells #[.slice x2 n c2] 34)) := (Below.refl _ w2).alloc (Nat.le_refl _) _
  have a2 := isStrs_below (isStrs_below a1 (Nat.le_refl _) hb2) (Nat.le_refl _) B2
  have b2 := isStrs_below (rowS_strs' h2 hDs'.out) (Nat.le_refl _) B2
  have h2' := own_below h2 B2
  go_wp2_with (go_at_call 32; refine (eqSubst_same _ _ _ _ _ _ _ b2 a2).mono ?_; rintro e w3 ⟨rfl, hb3⟩; obtain ⟨hc3, hf3⟩ := bcell hb3; have hl3 := ltW hb3)
  have z3 := hb3.size
  simp only [World.size_alloc] at z3
  have s31 : w1.heap.size < w3.heap.size := by omega
  have s32 : w2.heap.size < w3.heap.size := by omega
  have a3 := isStrs_below a2 (Nat.le_refl _) hb3
  have h3 := own_below h2' hb3
  have t5 : w3.cell? ⟨w1.heap.size, 0, none⟩ = some (.slice x1 n c1) := by rw [hc3 _ _ (by simp; omega)]; simp [go_sem, *]
  have t7 : w3.cell? ⟨w2.heap.size, 0, none⟩ = some (.slice x2 n c2) := by rw [hc3 _ _ (by simp)]; simp [go_sem]
  have d3 : Below w.heap.size w w3 := Qtrans hb3 (by simp; omega) (Qtrans B2 (by omega) (Qtrans hb2 (by simp; omega) (Qtrans B1 z1 hb1)))
  have o1 : ∀ k, (Value.slice x2 n c2).ownBlock = some k → w1.heap.size + 1 ≤ k ∧ k < w2.heap.size := fun k hk => by have := h2.lt k hk; simpa using this
  clear hc2 hc3 hl2 hl3
  go_at_call 33
  refine (markSubst_any _ _ _ 1 _ _ _ h3 (by omega)).mono ?_
  rintro e w4 ⟨rfl, h4, hg4⟩
  have t5b : w4.cell? ⟨w1.heap.size, 0, none⟩ = some (.slice x1 n c1) := (hg4.cell_far ⟨w1.heap.size, 0, none⟩ s31 (fun q => by have := o1 w1.heap.size q.symm; omega)).trans t5
  have t7b : w4.cell? ⟨w2.heap.size, 0, none⟩ = some (.slice x2 n c2) := (hg4.cell_far ⟨w2.heap.size, 0, none⟩ s32 (fun q => by have := o1 w2.heap.size q.symm; omega)).trans t7
  have z4 := hg4.size
  have s41 : w1.heap.size < w4.heap.size := by omega
  have s42 : w2.heap.size < w4.heap.size := by omega
  have a4 := isStrs_grownBy a3 hg4 (fun b off e1 q => by subst e1; have := (h1.lt b rfl).2; have := (o1 b q.symm).1; omega)
  have b4 := rowS_strs' h4 (mk_small 1 n (by omega))
  have d4 : Below w.heap.size w w4 := d3.grown hg4 (by omega) (fun k hk => by have := (o1 k hk).1; omega)
  go_wp2_with (go_at_call 34; refine (heldSubst_any _ _ _ 1 _ b4 (by omega)).mono ?_; rintro e w5 ⟨rfl, hb5⟩; obtain ⟨hc5, hf5⟩ := bcell hb5; have hl5 := ltW hb5)
  have z5 := hb5.size
  have t5c : w5.cell? ⟨w1.heap.size, 0, none⟩ = some (.slice x1 n c1) := (hc5 _ _ s41).trans t5b
  have t7c : w5.cell? ⟨w2.heap.size, 0, none⟩ = some (.slice x2 n c2) := (hc5 _ _ s42).trans t7b
  have s51 : w1.heap.size < w5.heap.size := by omega
  have s52 : w2.heap.size < w5.heap.size := by omega
  have a5 := isStrs_below a4 (Nat.le_refl _) hb5
  have b5 := isStrs_below b4 (Nat.le_refl _) hb5
  clear hc5 hl5
  go_wp2_with (go_at_call 31; refine (himpl _).mono ?_; rintro e w6 ⟨x6, c6, rfl, h6, hb6⟩; obtain ⟨hc6, hf6⟩ := bcell hb6; have hl6 := ltW hb6)
  have z6 := hb6.size
  have s61 : w1.heap.size < w6.heap.size := by omega
  have s62 : w2.heap.size < w6.heap.size := by omega
  have B6 : Below w6.heap.size w6 (w6.alloc (.cells #[.slice x6 n c6] 34)) := (Below.refl _ w6).alloc (Nat.le_refl _) _
  have a6 := isStrs_below (isStrs_below a5 (Nat.le_refl _) hb6) (Nat.le_refl _) B6
  have b6 := isStrs_below (isStrs_below b5 (Nat.le_refl _) hb6) (Nat.le_refl _) B6
  have k6 := isStrs_below (rowS_strs' h6 hDs'.out) (Nat.le_refl _) B6
  go_wp2_with (go_at_call 32; refine (eqSubst_same _ _ _ _ _ _ _ k6 a6).mono ?_; rintro e w7 ⟨rfl, hb7⟩; obtain ⟨hc7, hf7⟩ := bcell hb7; have hl7 := ltW hb7)
  have z7 := hb7.size
  simp only [World.size_alloc] at z7
  have s72 : w2.heap.size < w7.heap.size := by omega
  have b7 := isStrs_below b6 (Nat.le_refl _) hb7
  go_wp2_with (go_at_call 34; refine (heldSubst_any _ _ _ 1 _ b7 (by omega)).mono ?_; rintro e w8 ⟨rfl, hb8⟩)
  go_wp2
  go_ret
  exact ⟨rfl, Qtrans hb8 (by omega) (Qtrans hb7 (by simp; omega) (Qtrans B6 (by omega) (Qtrans hb6 (by omega) (Qtrans hb5 (by omega) d4))))⟩
end Go.Proofs.Ytbplepeebapjcaa
