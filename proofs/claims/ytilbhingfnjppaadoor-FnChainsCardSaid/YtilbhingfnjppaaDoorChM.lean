/- Chains: the kinds of steps. -/
import Derived.Test.YtilbhingfnjppaaDoorChL
import Derived.Test.YtilbhingfnjppaaDoorChJ
import Derived.Shelf.SlSortCmp.NoneTotal
set_option linter.unusedSimpArgs false
set_option linter.unusedVariables false
namespace Go.Proofs.YtilbhingfnjppaaDoor
open Go.RowKit
theorem dfs_bg {L : List GP} (h : ∀ z ∈ L, bp z) (k : Nat) : ∀ z ∈ dfs L k, bg z := by
  intro z hz
  unfold dfs at hz
  obtain ⟨j, _, rfl⟩ := List.mem_map.1 hz
  obtain ⟨⟨p1, p2⟩, p3, p4⟩ := getD_bp h j
  obtain ⟨⟨q1, q2⟩, q3, q4⟩ := getD_bp h (j + 1)
  exact ⟨⟨by simp only; omega, by simp only; omega⟩, by simp only; omega, by simp only; omega⟩
theorem stL_bg (a b c d n : Int) : ∀ z ∈ stL a b c d n, bg z := by
  unfold stL
  split
  · rename_i h
    rw [Bool.and_eq_true] at h
    exact dfs_bg (specL_take_bp (win_Win h.1) _) _
  · simp
/-- What StepKinds returns. -/
noncomputable def kdL (a b c d : Int) : List GP := kd (stL a b c d 59) (stL a b c d 59).length
theorem kdL_len (a b c d : Int) : (kdL a b c d).length ≤ 59 := Nat.le_trans (kd_len _ _ (Nat.le_refl _)) (stL_len a b c d 59)
theorem compactNil (w : World) : Calls Tryd.prog 72 #[.slice none 0 0] w fun e w' => e = .returned (.slice none 0 0) ∧ w = w' := by
  go_enter Tryd.func72, Tryd.ntmps72
  go_wp2
  go_ret
  exact ⟨rfl, rfl⟩
set_option maxRecDepth 20000 in
set_option maxHeartbeats 2000000 in
theorem implKinds_any (a b c d : Int) (w : World) :
    Calls Tryd.prog 26 #[.agg #[.int .i64 (a), .int .i64 (b)], .agg #[.int .i64 (c), .int .i64 (d)]] w fun e w' => ∃ x cp, e = .returned (.slice x (kdL a b c d).length cp) ∧ w'.ownsRow w.heap.size 44 2 (.slice x (kdL a b c d).length cp) (kdL a b c d).length (gv (kdL a b c d)) ∧ Below w.heap.size w w' := by
  have hS := fun w => implSteps_any a b c d 59 w
  have hbg := Lib.hid (stL_bg a b c d 59)
  have hlen := stL_len a b c d 59
  have hkd : Hid (kdL a b c d = kd (stL a b c d 59) (stL a b c d 59).length) := rfl
  obtain ⟨S, hSS⟩ : ∃ S, stL a b c d 59 = S := ⟨_, rfl⟩
  rw [hSS] at hS hbg hlen hkd
  obtain ⟨n, hn⟩ : ∃ n, S.length = n := ⟨_, rfl⟩
  rw [hn] at hS hlen hkd
  have hn' := Lib.hid hn
  clear hSS hn
  go_enter Tryd.func26, Tryd.ntmps26
  go_wp2_with (go_at_call 25; refine (hS _).mono ?_; rintro e w1 ⟨x, cp, rfl, hown, hb1⟩)
  have hz1 := hb1.size
  simp only [World.size_alloc] at hz1
  have hb : Below w.heap.size w w1 := Qtrans hb1 (by simp; omega) (((Below.refl _ w).alloc (Nat.le_refl _) _).alloc (by simp) _)
  have ho := own2_mono (B' := w.heap.size) hown (by simp; omega)
  rcases hown.2 with ⟨hv, _⟩ | ⟨g, cp', _, hv, _⟩
  · cases hv
    have hk : Hid (kdL a b c d = []) := by
      have : S = [] := List.length_eq_zero_iff.1 hn'.out
      show _ = _; rw [hkd.out, this]; rfl
    go_at_call 69
    refine (Go.Proofs.AnyF.slices_SortFunc_none Tryd.sortGold none 0 (.func (.func 70) #[] #[]) w1).mono ?_
    rintro e w2 ⟨rfl, rfl⟩
    go_wp2_with (go_at_call 72; refine (compactNil _).mono ?_; rintro e w3 ⟨rfl, rfl⟩)
    go_ret
    exact ⟨none, 0, by rw [hk.out]; rfl, by rw [hk.out]; exact World.ownsRow_nil _ _ _ _, hb⟩
  · cases hv
    have hS' := hbg.out
    go_at_call 69
    refine (sortK_any w.heap.size g n cp S w1 hS' (by omega) ho).mono ?_
    rintro e w2 ⟨rfl, M, hp, hso, ho2, hb2, hz2⟩
    have hk : Hid (Lib.compactUpTo M.toArray n = kdL a b c d) := by
      show _ = _
      have h := kinds_eq hS' hp hso
      rw [hp.length_eq, hn'.out] at h
      rw [hkd.out, h]
    have hp' := Lib.hid hp
    have hso' := Lib.hid hso
    clear hp hso
    go_wp2_with (go_at_call 72; refine (compactG_any w.heap.size g n cp M w2 (by omega) ho2).mono ?_; rintro e w3 ⟨rfl, ho3, hb3⟩)
    go_ret
    rw [hk.out] at ho3
    exact ⟨_, cp, by rw [hk.out]; rfl, ho3, (hb.trans hb2).trans hb3⟩
end Go.Proofs.YtilbhingfnjppaaDoor
