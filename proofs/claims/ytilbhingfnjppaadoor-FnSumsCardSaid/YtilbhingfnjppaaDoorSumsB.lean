/- The walks of the two lists of weights. -/
import Derived.Test.YtilbhingfnjppaaDoorSumsA
import Derived.Test.YtilbhingfnjppaaDoorBase2
import Derived.Deep.RegionLaw
set_option linter.unusedSimpArgs false
set_option linter.unusedVariables false
namespace Go.Proofs.YtilbhingfnjppaaDoor
open Go.RowKit
/-- The first k weights, as values. -/
def W (k : Nat) : List Value := (List.range k).map (fun j => Value.int .i64 (wt j))
theorem W_succ (k : Nat) : W (k + 1) = W k ++ [.int .i64 (wt k)] := by simp [W, List.range_succ]
theorem W_at (k j : Nat) (h : j < k) : (W k)[j]? = some (.int .i64 (wt j)) := by simp [W, h]
def WtAt (w : World) (g m : Nat) : Prop := ∀ j, j < m → w.cell? ⟨g, j, none⟩ = some (.int .i64 (wt j))
set_option maxRecDepth 20000 in
set_option maxHeartbeats 1000000 in
theorem specWeights_any (m : Nat) (n : Int) (w : World) (hn : (m : Int) = n) (h0 : 0 < m) (hm : m ≤ 61) :
    Calls Tryd.prog 86 #[.int .i64 n] w fun e w' => ∃ g cap, e = .returned (.slice (some ⟨g, 0, none⟩) m cap) ∧ w.heap.size ≤ g ∧ g < w'.heap.size ∧ WtAt w' g m ∧ Below w.heap.size w w' := by
  subst hn
  obtain ⟨i0, hi0, hz0, hz1, hz2⟩ := info_parts infoI
  go_enter Tryd.func86, Tryd.ntmps86
  go_wp2
  go_loopw [3, 4, 5, 6] (fun out a b i wr => ∃ k : Nat, k ≤ m ∧ i = .int .i64 k ∧ a = .int .i64 (wt k) ∧ b = .int .i64 (wt (k + 1)) ∧ wr.ownsRow w.heap.size 3 1 out k (W k) ∧ w.heap.size ≤ wr.heap.size ∧ Below w.heap.size w wr) (fun _ _ _ i _ => m - (intOf i).toNat)
  case atStart => exact ⟨0, by omega, rfl, rfl, rfl, World.ownsRow_lit w #[] 0 (Nat.le_refl _) (by decide) rfl, by ((try simp only [World.size_alloc, World.size_setCell, World.size_drew, size_drewN]); (try dsimp only); omega), by (repeat (first | with_reducible exact Below.refl _ _ | assumption | with_reducible refine Qdrew ?_ | with_reducible refine QdrewN ?_ | ((with_reducible refine Qset ?_ ?_); exact (by ((try simp only [World.size_alloc, World.size_setCell, World.size_drew, size_drewN]); (try dsimp only); omega))) | ((with_reducible refine Qalloc ?_ ?_); exact (by ((try simp only [World.size_alloc, World.size_setCell, World.size_drew, size_drewN]); (try dsimp only); omega))) | refine Qtrans (by assumption) (by ((try simp only [World.size_alloc, World.size_setCell, World.size_drew, size_drewN]); (try dsimp only); omega)) ?_))⟩
  case round =>
    obtain ⟨k, hk, rfl, rfl, rfl, hown, hz, hbel⟩ := hrel
    obtain ⟨b1, b2⟩ := wtB k (by omega)
    obtain ⟨b3, b4⟩ := wtB (k + 1) (by omega)
    by_cases hlt : k < m
    · go_wp2_with (at_builtin; refine wpList_append_lies _ rfl _ _ _ rfl (w.heap.size) 3 i0 _ 1 8 Tryd.underlying75 hi0 hz0 hz1 hz2 rfl (by decide) (_) (k) (W k) (by rfl) (hown.alloc _) ⟨(wr).heap.size, 0, none⟩ 1 1 [.int .i64 (wt k)] (by rfl) (by rfl) (World.news_of_block (cs := #[.int .i64 (wt k)]) (t := 3) (fr := (0, 0)) (heap_alloc_new (wr) _)) (by simp [Value.oneCell']) (by omega) (by unfold maxLen; omega) (by omega) (by simp; omega) ((wr).heap.size + 1) (by simp) ?_; intro gg cap w1 hown1 hgrow hatg hltg)
      go_roundw
      case rel => exact ⟨k + 1, by omega, by go_num, rfl, by rw [wtSS], by rw [W_succ]; exact hown1, by have := size_app hgrow; omega, below_app hbel hz hown hgrow⟩
      case measure => simp [intOf]; omega
    · obtain rfl : k = m := by omega
      go_wp2
      obtain ⟨g, cap, rfl, hg1, hg2⟩ := hown.form h0
      go_ret
      exact ⟨_, _, rfl, hg1, hg2, fun j hj => by rw [own_cell hown j hj, W_at _ _ hj], hbel⟩
attribute [local go_sem ↓] Go.wp_at_zero Go.wp_at_succ
set_option maxRecDepth 20000 in
set_option maxHeartbeats 2000000 in
theorem implWeights_any (m : Nat) (n : Int) (w : World) (hn : (m : Int) = n) (h0 : 2 ≤ m) (hm : m ≤ 61) :
    Calls Tryd.prog 84 #[.int .i64 n] w fun e w' => ∃ g cap, e = .returned (.slice (some ⟨g, 0, none⟩) m cap) ∧ w.heap.size ≤ g ∧ g < w'.heap.size ∧ WtAt w' g m ∧ Below w.heap.size w w' := by
  subst hn
  obtain ⟨i0, hi0, hz0, hz1, hz2⟩ := info_parts infoI
  go_enter Tryd.func84, Tryd.ntmps84
  go_wp2
  go_loopw [3] (fun out wr => ∃ q g cap : Nat, q + 2 ≤ m ∧ out = .slice (some ⟨g, 0, none⟩) (q + 2) cap ∧ q + 2 ≤ cap ∧ g < wr.heap.size ∧ wr.ownsRow w.heap.size 3 1 (.slice (some ⟨g, 0, none⟩) (q + 2) cap) (q + 2) (W (q + 2)) ∧ w.heap.size ≤ wr.heap.size ∧ Below w.heap.size w wr) (fun out _ => m - lenOf out)
  case atStart => exact ⟨0, w.heap.size, 2, h0, rfl, by omega, by ((try simp only [World.size_alloc, World.size_setCell, World.size_drew, size_drewN]); (try dsimp only); omega), World.ownsRow_lit w #[.int .i64 1, .int .i64 2] 2 (Nat.le_refl _) (by decide) rfl, by ((try simp only [World.size_alloc, World.size_setCell, World.size_drew, size_drewN]); (try dsimp only); omega), by (repeat (first | with_reducible exact Below.refl _ _ | assumption | with_reducible refine Qdrew ?_ | with_reducible refine QdrewN ?_ | ((with_reducible refine Qset ?_ ?_); exact (by ((try simp only [World.size_alloc, World.size_setCell, World.size_drew, size_drewN]); (try dsimp only); omega))) | ((with_reducible refine Qalloc ?_ ?_); exact (by ((try simp only [World.size_alloc, World.size_setCell, World.size_drew, size_drewN]); (try dsimp only); omega))) | refine Qtrans (by assumption) (by ((try simp only [World.size_alloc, World.size_setCell, World.size_drew, size_drewN]); (try dsimp only); omega)) ?_))⟩
  case round =>
    obtain ⟨q, g, cap, hk, rfl, hcap, hg, hown, hz, hbel⟩ := hrel
    obtain ⟨b1, b2⟩ := wtB (q + 1) (by omega)
    obtain ⟨b3, b4⟩ := wtB q (by omega)
    have hc1 := own_cell hown (q + 1) (by omega)
    have hc0 := own_cell hown q (by omega)
    rw [W_at _ _ (by omega)] at hc0 hc1
    by_cases hlt : q + 2 < m
    · have s7 : IntKind.i64.wrap ((q : Int) + 2 - 1) = (q : Int) + 1 := by rw [IntWalk.i64_left, IntWalk.wrap64_in] <;> omega
      have s8 : IntKind.i64.wrap ((q : Int) + 2 - 2) = (q : Int) := by rw [IntWalk.i64_left, IntWalk.wrap64_in] <;> omega
      have s9 : IntKind.i64.wrap (q : Int) = (q : Int) := by rw [IntWalk.i64_left, IntWalk.wrap64_in] <;> omega
      have s10 : IntKind.i64.wrap (wt (q + 1) + wt q) = wt (q + 2) := by rw [IntWalk.i64_left, IntWalk.wrap64_in, wtSS] <;> omega
      have s3 : (0 : Int) ≤ (q : Int) + 1 := by omega
      have s4 : (q : Int) + 1 < (q : Int) + 2 := by omega
      have s5 : (0 : Int) ≤ (q : Int) := by omega
      have s6 : (q : Int) < (q : Int) + 2 := by omega
      go_wp2_with fail
      go_region_law (((refine step_append_lies _ (by rfl) _ _ _ (by rfl) (w.heap.size) 3 i0 _ 1 8 Tryd.underlying75 hi0 hz0 hz1 hz2 rfl (by decide) (.slice (some ⟨g, 0, none⟩) (q + 2) cap) (q + 2) (W (q + 2)) (by rfl) ((hown.alloc _).drew) ⟨(wr).heap.size, 0, none⟩ 1 1 [.int .i64 (wt (q + 2))] (by rfl) (by rfl) (World.news_of_block (cs := #[.int .i64 (wt (q + 2))]) (t := 3) (fr := (0, 0)) (heap_alloc_new (wr) _)) (by simp [Value.oneCell']) (by omega) (by unfold maxLen; omega) (by omega) (by simp; omega) ((wr).heap.size + 1) (by simp) ?_; intro gg cap w1 hown1 hgrow hatg hltg)))
      all_goals
        go_wp2
        go_roundw
        case rel => repeat apply Exists.intro
                    refine ⟨?_, rfl⟩
                    exact ⟨q + 1, gg, _, by omega, rfl, le_cap hown1, hltg, by rw [W_succ]; exact hown1, by have := size_appD hgrow; omega, below_appD hbel hz hown hgrow⟩
        case measure => show m - (q + 2 + 1) < m - (q + 2); omega
    · obtain rfl : q + 2 = m := by omega
      have hcap' : ((q + 2 : Nat) : Int) ≤ (cap : Int) := by omega
      have hq2 : (0 : Int) ≤ ((q + 2 : Nat) : Int) := by omega
      go_wp2
      go_ret
      exact ⟨_, _, rfl, (hown.lt g rfl).1, hg, fun j hj => by rw [own_cell hown j hj, W_at _ _ hj], hbel⟩
end Go.Proofs.YtilbhingfnjppaaDoor
