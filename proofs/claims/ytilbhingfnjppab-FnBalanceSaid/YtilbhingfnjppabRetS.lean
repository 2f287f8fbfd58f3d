/- The substitution of return words: the walks and the law. -/
import Derived.Test.YtilbhingfnjppabWordsI
import Derived.Test.YtilbhingfnjppabMDra
set_option linter.unusedSimpArgs false
set_option linter.unusedVariables false
namespace Go.Proofs.Ytilbhingfnjppab
open Go.RowKit
noncomputable def rd (s f : ByteArray) : List ByteArray := if sB (dd (R s f)) then dd (R s f) else []
noncomputable def rdB (s f : ByteArray) : Bool := sB (dd (R s f))
set_option maxRecDepth 20000 in
set_option maxHeartbeats 1000000 in
theorem implRS_any (s f : ByteArray) (w : World) (hs : s.size ≤ 9223372036854775807) (hf : f.size ≤ 9223372036854775807) :
    Calls Try.prog 30 #[.string s, .string f] w fun e w' => ∃ x cap, e = .returned (.tuple #[.agg #[.slice x (rd s f).length cap], .bool (rdB s f)]) ∧ w'.ownsRow w.heap.size 9 1 (.slice x (rd s f).length cap) (rd s f).length (sv (rd s f)) ∧ Below w.heap.size w w' := by
  have hrc := fun w => implReturns_any s f w hs hf
  have hn1 : (dd (R s f)).length ≤ 401 := Nat.le_trans (ddl _) (R_len s f hs)
  have hDs := dd_small (R_small s f hs)
  have hrd : rd s f = if sB (dd (R s f)) then dd (R s f) else [] := rfl
  have hrb : rdB s f = sB (dd (R s f)) := rfl
  unfold RowS at hrc
  obtain ⟨D, hD⟩ : ∃ D, dd (R s f) = D := ⟨_, rfl⟩
  rw [hD] at hrc hn1 hDs hrd hrb
  obtain ⟨n, hn⟩ : ∃ n, D.length = n := ⟨_, rfl⟩
  rw [hn] at hrc hn1
  have hn' := Lib.hid hn
  have hDs' := Lib.hid hDs
  have hrd' := Lib.hid hrd
  have hrb' := Lib.hid hrb
  clear hD hn hDs hrd hrb
  have hb0 : Below w.heap.size w (w.alloc (.cells #[.slice none 0 0] 25)) := (Below.refl _ w).alloc (Nat.le_refl _) _
  cases hS : sB D
  all_goals
    go_enter Try.func30, Try.ntmps30
    go_wp2_with (go_at_call 22; refine (hrc _).mono ?_; rintro e w1 ⟨x1, c1, rfl, h1, hb1⟩; obtain ⟨hc1, hf1⟩ := bcell hb1; have hl1 := ltW hb1)
    have hz1 := hb1.size
    simp only [World.size_alloc] at hz1
    have hs1 : w.heap.size < w1.heap.size := by omega
    have hB1 : Below w1.heap.size w1 (w1.alloc (.cells #[.slice x1 n c1] 25)) := (Below.refl _ w1).alloc (Nat.le_refl _) _
    have a1 := isStrs_below (rowS_strs' h1 hDs'.out) (Nat.le_refl _) hB1
    have o1 := own_below h1 hB1
    go_wp2_with (go_at_call 32; refine (implSubstOk_any _ _ _ _ _ a1 (by omega)).mono ?_; rintro e w2 ⟨rfl, hb2⟩; obtain ⟨hc2, hf2⟩ := bcell hb2; have hl2 := ltW hb2)
    have hz2 := hb2.size
    simp only [World.size_alloc] at hz2
    have o2 := own_below o1 hb2
  · have e1 : Hid (rd s f = []) := by show _ = _; rw [hrd'.out, hS]; rfl
    have e2 : Hid (rdB s f = false) := hrb'.out.trans hS
    refine bodyPost_ret (v := .tuple #[.agg #[.slice none 0 0], .bool false]) (by simp [results, Try.results30, go_sem, csame, cset, *]) rfl ⟨none, 0, by rw [e1.out, e2.out]; rfl, by rw [e1.out]; exact World.ownsRow_nil _ _ _ _, by (repeat (first | with_reducible exact Below.refl _ _ | assumption | with_reducible refine Qdrew ?_ | with_reducible refine QdrewN ?_ | ((with_reducible refine Qset ?_ ?_); exact (by ((try simp only [World.size_alloc, World.size_setCell, World.size_drew, size_drewN]); (try dsimp only); omega))) | ((with_reducible refine Qalloc ?_ ?_); exact (by ((try simp only [World.size_alloc, World.size_setCell, World.size_drew, size_drewN]); (try dsimp only); omega))) | refine Qtrans (by assumption) (by ((try simp only [World.size_alloc, World.size_setCell, World.size_drew, size_drewN]); (try dsimp only); omega)) ?_))⟩
  · have e1 : Hid (rd s f = D) := by show _ = _; rw [hrd'.out, hS]; rfl
    have e2 : Hid (rdB s f = true) := hrb'.out.trans hS
    refine bodyPost_ret (v := .tuple #[.agg #[.slice x1 n c1], .bool true]) (by simp [results, Try.results30, go_sem, csame, cset, *]) rfl ⟨x1, c1, by rw [e1.out, e2.out, hn'.out], ?_, by (repeat (first | with_reducible exact Below.refl _ _ | assumption | with_reducible refine Qdrew ?_ | with_reducible refine QdrewN ?_ | ((with_reducible refine Qset ?_ ?_); exact (by ((try simp only [World.size_alloc, World.size_setCell, World.size_drew, size_drewN]); (try dsimp only); omega))) | ((with_reducible refine Qalloc ?_ ?_); exact (by ((try simp only [World.size_alloc, World.size_setCell, World.size_drew, size_drewN]); (try dsimp only); omega))) | refine Qtrans (by assumption) (by ((try simp only [World.size_alloc, World.size_setCell, World.size_drew, size_drewN]); (try dsimp only); omega)) ?_))⟩
    rw [e1.out, hn'.out]
    exact World.ownsRow.mono (ownsRow_setCell_below o2 (by simp) _) (by simp)
end Go.Proofs.Ytilbhingfnjppab
