/- Chains: the steps. -/
import Derived.Test.YtilbhingfnjppaaDoorChI
import Derived.Deep.AppendLies
set_option linter.unusedSimpArgs false
set_option linter.unusedVariables false
namespace Go.Proofs.YtilbhingfnjppaaDoor
open Go.RowKit
theorem rG_alloc {w : World} {o : Obj} {x : Option Addr} {n : Nat} {zs : List GP} (h : RG w x n zs) : RG (w.alloc o) x n zs := rG_below h (Nat.le_refl _) ((Below.refl _ w).alloc (Nat.le_refl _) _)
theorem rG_drew {w : World} {x : Option Addr} {n : Nat} {zs : List GP} (h : RG w x n zs) : RG w.drew x n zs := rG_below h (Nat.le_refl _) ((Below.refl _ w).drew)
/-- The first k differences. -/
def dfs (L : List GP) (k : Nat) : List GP := (List.range k).map (fun j => ((L.getD (j + 1) (0, 0)).1 - (L.getD j (0, 0)).1, (L.getD (j + 1) (0, 0)).2 - (L.getD j (0, 0)).2))
theorem dfs_len (L : List GP) (k : Nat) : (dfs L k).length = k := by simp [dfs]
theorem dfs_next (L : List GP) (k : Nat) : dfs L (k + 1) = dfs L k ++ [((L.getD (k + 1) (0, 0)).1 - (L.getD k (0, 0)).1, (L.getD (k + 1) (0, 0)).2 - (L.getD k (0, 0)).2)] := by simp [dfs, List.range_succ]
theorem specL_take_bp {lo hi : GP} (hw : Win lo hi) (m : Nat) : ∀ z ∈ (specL lo hi).take m, bp z := fun z hz => allS_bp hw (((specL_asc hw).2 z).1 (List.mem_of_mem_take hz))
theorem specL_take_len {lo hi : GP} (hw : Win lo hi) {m : Nat} (hm : m ≤ 60) : ((specL lo hi).take m).length = m := by
  obtain ⟨h4, h5⟩ := fold_gput (allI lo hi 400) [] List.Pairwise.nil (by
    rw [List.nil_append]
    exact List.Pairwise.imp_of_mem (fun {x y} ha hb h => key_ne_of (allI_bp hw ha) (allI_bp hw hb) h) (allI_pw lo hi 400))
  obtain ⟨_, q2, _⟩ := first_eq hw h4 (fun z => by rw [h5]; simp) 0 (by omega)
  rw [List.length_take]; omega
theorem getD_bp {L : List GP} (h : ∀ z ∈ L, bp z) (k : Nat) : bp (L.getD k (0, 0)) := by
  by_cases hk : k < L.length
  · rw [List.getD_eq_getElem?_getD, List.getElem?_eq_getElem hk]
    exact h _ (List.getElem_mem _)
  · rw [List.getD_eq_getElem?_getD, List.getElem?_eq_none (by omega)]
    exact ⟨⟨by decide, by decide⟩, ⟨by decide, by decide⟩⟩
/-- What StepsOf returns. -/
noncomputable def stL (a b c d n : Int) : List GP := if (win a b c d && inB n 1 59) = true then dfs ((specL (a, b) (c, d)).take (n.toNat + 1)) n.toNat else []
theorem stL_len (a b c d n : Int) : (stL a b c d n).length ≤ 59 := by
  unfold stL
  split
  · rename_i h
    rw [Bool.and_eq_true] at h
    have := inB_true.1 h.2
    rw [dfs_len]; omega
  · simp
set_option maxRecDepth 20000 in
set_option maxHeartbeats 2000000 in
theorem implSteps_any (a b c d n : Int) (w : World) :
    Calls Tryd.prog 25 #[.agg #[.int .i64 (a), .int .i64 (b)], .agg #[.int .i64 (c), .int .i64 (d)], .int .i64 n] w fun e w' => ∃ x cp, e = .returned (.slice x (stL a b c d n).length cp) ∧ w'.ownsRow w.heap.size 44 2 (.slice x (stL a b c d n).length cp) (stL a b c d n).length (gv (stL a b c d n)) ∧ Below w.heap.size w w' := by
  have hO : ∀ w, Calls Tryd.prog 28 #[.agg #[.int .i64 (a), .int .i64 (b)], .agg #[.int .i64 (c), .int .i64 (d)]] w fun e w' => e = .returned (.bool (win a b c d)) ∧ Below w.heap.size w w' := fun w => implWindowOk_any a b c d w
  cases hW : win a b c d
  · have hL : Hid (stL a b c d n = []) := by show _ = _; simp [stL, hW]
    rw [hW] at hO
    go_enter Tryd.func25, Tryd.ntmps25
    go_wp2_with (first | (go_at_call 28; refine (hO _).mono ?_; rintro e w1 ⟨rfl, hb1⟩; have hz1 := hb1.size; (try simp at hz1); obtain ⟨hc1, hf1⟩ := bcellK (w := w) 2 hb1 (by ((try simp only [World.size_alloc, World.size_setCell, World.size_drew, size_drewN]); (try dsimp only); omega)); have hl1 := ltK (n := w.heap.size) (p := 2) (w1 := w1) (by omega); (try (have tk1 := trackAlloc hb1 (by ((try simp only [World.size_alloc, World.size_setCell, World.size_drew, size_drewN]); (try dsimp only); omega)); try simp only [World.size_alloc, World.size_drew] at tk1)); (try (have tk2 := trackAllocD hb1 (by ((try simp only [World.size_alloc, World.size_setCell, World.size_drew, size_drewN]); (try dsimp only); omega)); try simp only [World.size_alloc, World.size_drew] at tk2)); (try have tk3 := trackNext hb1 (by assumption) (by ((try simp only [World.size_alloc, World.size_setCell, World.size_drew, size_drewN]); (try dsimp only); omega)))) | (go_at_call 50; refine (within_any _ _ _ _).mono ?_; rintro e w1 ⟨rfl, rfl⟩))
    go_ret
    exact ⟨none, 0, by rw [hL.out]; rfl, by rw [hL.out]; exact World.ownsRow_nil _ _ _ _, by (repeat (first | with_reducible exact Below.refl _ _ | assumption | with_reducible refine Qdrew ?_ | with_reducible refine QdrewN ?_ | ((with_reducible refine Qset ?_ ?_); exact (by ((try simp only [World.size_alloc, World.size_setCell, World.size_drew, size_drewN]); (try dsimp only); omega))) | ((with_reducible refine Qalloc ?_ ?_); exact (by ((try simp only [World.size_alloc, World.size_setCell, World.size_drew, size_drewN]); (try dsimp only); omega))) | refine Qtrans (by assumption) (by ((try simp only [World.size_alloc, World.size_setCell, World.size_drew, size_drewN]); (try dsimp only); omega)) ?_))⟩
  · rw [hW] at hO
    cases hN : inB n 1 59
    · have hL : Hid (stL a b c d n = []) := by show _ = _; simp [stL, hN]
      go_enter Tryd.func25, Tryd.ntmps25
      go_wp2_with (first | (go_at_call 28; refine (hO _).mono ?_; rintro e w1 ⟨rfl, hb1⟩; have hz1 := hb1.size; (try simp at hz1); obtain ⟨hc1, hf1⟩ := bcellK (w := w) 2 hb1 (by ((try simp only [World.size_alloc, World.size_setCell, World.size_drew, size_drewN]); (try dsimp only); omega)); have hl1 := ltK (n := w.heap.size) (p := 2) (w1 := w1) (by omega); (try (have tk1 := trackAlloc hb1 (by ((try simp only [World.size_alloc, World.size_setCell, World.size_drew, size_drewN]); (try dsimp only); omega)); try simp only [World.size_alloc, World.size_drew] at tk1)); (try (have tk2 := trackAllocD hb1 (by ((try simp only [World.size_alloc, World.size_setCell, World.size_drew, size_drewN]); (try dsimp only); omega)); try simp only [World.size_alloc, World.size_drew] at tk2)); (try have tk3 := trackNext hb1 (by assumption) (by ((try simp only [World.size_alloc, World.size_setCell, World.size_drew, size_drewN]); (try dsimp only); omega)))) | (go_at_call 50; refine (within_any _ _ _ _).mono ?_; rintro e w1 ⟨rfl, rfl⟩))
      go_ret
      exact ⟨none, 0, by rw [hL.out]; rfl, by rw [hL.out]; exact World.ownsRow_nil _ _ _ _, by (repeat (first | with_reducible exact Below.refl _ _ | assumption | with_reducible refine Qdrew ?_ | with_reducible refine QdrewN ?_ | ((with_reducible refine Qset ?_ ?_); exact (by ((try simp only [World.size_alloc, World.size_setCell, World.size_drew, size_drewN]); (try dsimp only); omega))) | ((with_reducible refine Qalloc ?_ ?_); exact (by ((try simp only [World.size_alloc, World.size_setCell, World.size_drew, size_drewN]); (try dsimp only); omega))) | refine Qtrans (by assumption) (by ((try simp only [World.size_alloc, World.size_setCell, World.size_drew, size_drewN]); (try dsimp only); omega)) ?_))⟩
    · have hb := inB_true.1 hN
      obtain ⟨m, rfl⟩ : ∃ m : Nat, n = (m : Int) := ⟨n.toNat, by omega⟩
      have hL : Hid (stL a b c d (m : Int) = dfs ((specL (a, b) (c, d)).take (m + 1)) m) := by show _ = _; rw [stL, if_pos (by rw [hW, hN]; rfl)]; rfl
      have hc := fun w => chain_any a b c d (m + 1) w (win_Win hW) (by omega)
      have hl : Hid (((specL (a, b) (c, d)).take (m + 1)).length = m + 1) := specL_take_len (win_Win hW) (by omega)
      have hbp := Lib.hid (specL_take_bp (win_Win hW) (m + 1))
      obtain ⟨L, hLL⟩ : ∃ L, (specL (a, b) (c, d)).take (m + 1) = L := ⟨_, rfl⟩
      rw [hLL] at hL hc hl hbp
      have hm1 : ((m + 1 : Nat) : Int) = (m : Int) + 1 := by omega
      have hm59 : (m : Int) ≤ 59 := hb.2
      rw [hm1] at hc
      clear hLL hm1
      go_enter Tryd.func25, Tryd.ntmps25
      go_wp2_with (first | (first | (go_at_call 28; refine (hO _).mono ?_; rintro e w1 ⟨rfl, hb1⟩; have hz1 := hb1.size; (try simp at hz1); obtain ⟨hc1, hf1⟩ := bcellK (w := w) 2 hb1 (by ((try simp only [World.size_alloc, World.size_setCell, World.size_drew, size_drewN]); (try dsimp only); omega)); have hl1 := ltK (n := w.heap.size) (p := 2) (w1 := w1) (by omega); (try (have tk1 := trackAlloc hb1 (by ((try simp only [World.size_alloc, World.size_setCell, World.size_drew, size_drewN]); (try dsimp only); omega)); try simp only [World.size_alloc, World.size_drew] at tk1)); (try (have tk2 := trackAllocD hb1 (by ((try simp only [World.size_alloc, World.size_setCell, World.size_drew, size_drewN]); (try dsimp only); omega)); try simp only [World.size_alloc, World.size_drew] at tk2)); (try have tk3 := trackNext hb1 (by assumption) (by ((try simp only [World.size_alloc, World.size_setCell, World.size_drew, size_drewN]); (try dsimp only); omega)))) | (go_at_call 50; refine (within_any _ _ _ _).mono ?_; rintro e w1 ⟨rfl, rfl⟩)) | (go_at_call 67; refine (hc _).mono ?_; rintro e wA ⟨gA, cA, rfl, hoA, hbA⟩; have hzA := hbA.size))
      have zw1 := hz1
      have hbW : Below w.heap.size w wA := Qtrans hbA (by omega) (Qtrans hb1 (by simp; omega) (((Below.refl _ w).alloc (Nat.le_refl _) _).alloc (by simp) _))
      clear hz1 hc1 hf1 hl1 tk1
      obtain ⟨i0, hi0, hz0, hz1, hz2⟩ := info_parts infoG
      have hown0 : (wA.alloc (.cells #[] 44)).ownsRow w.heap.size 44 2 (.slice (some ⟨wA.heap.size, 0, none⟩) 0 0) 0 (gv (dfs L 0)) := World.ownsRow_lit (base := w.heap.size) (e := 44) (size := 2) wA #[] 0 (by omega) (by decide) rfl
      have rA := rG_alloc (o := .cells #[] 44) (rG_own hoA (by omega))
      obtain ⟨hgA1, hgA2⟩ := hoA.lt gA rfl
      have hbW' := hbW.alloc (by omega) (.cells #[] 44)
      go_loopw [8, 26] (fun out i wr => ∃ k g cp : Nat, k ≤ m ∧ i = .int .i64 k ∧ out = .slice (some ⟨g, 0, none⟩) k cp ∧ wr.ownsRow w.heap.size 44 2 (.slice (some ⟨g, 0, none⟩) k cp) k (gv (dfs L k)) ∧ RG wr (some ⟨gA, 0, none⟩) (m + 1) L ∧ g ≠ gA ∧ wA.heap.size ≤ wr.heap.size ∧ Below w.heap.size w wr) (fun _ i _ => m - (intOf i).toNat)
      case atStart => exact ⟨0, wA.heap.size, 0, by omega, rfl, rfl, hown0, rA, by omega, by simp, hbW'⟩
      case round =>
        clear hown0 rA hbW hbW' hbA hoA
        obtain ⟨k, g, cp, hk, rfl, rfl, hown, hrA, hne, hzr, hbel⟩ := hrel
        by_cases hlt : k < m
        · skip
          have hgl := (hown.lt g rfl).2
          have hgB := (hown.lt g rfl).1
          obtain ⟨_, hgq, hlt2, hcq⟩ := rG_cell hrA (by omega)
          cases hgq
          obtain ⟨f1, f2⟩ := hcq k (by omega)
          obtain ⟨f3, f4⟩ := hcq (k + 1) (by omega)
          have hnext := dfs_next L k
          obtain ⟨⟨p1, p2⟩, p3, p4⟩ := getD_bp hbp.out k
          obtain ⟨⟨q1, q2⟩, q3, q4⟩ := getD_bp hbp.out (k + 1)
          obtain ⟨s, hs⟩ : ∃ s, (L.getD k (0, 0)).1 = s := ⟨_, rfl⟩
          obtain ⟨t, ht⟩ : ∃ t, (L.getD k (0, 0)).2 = t := ⟨_, rfl⟩
          obtain ⟨u, hu⟩ : ∃ u, (L.getD (k + 1) (0, 0)).1 = u := ⟨_, rfl⟩
          obtain ⟨v, hv⟩ : ∃ v, (L.getD (k + 1) (0, 0)).2 = v := ⟨_, rfl⟩
          rw [hs] at p1 p2 f1 hnext
          rw [ht] at p3 p4 f2 hnext
          rw [hu] at q1 q2 f3 hnext
          rw [hv] at q3 q4 f4 hnext
          have hnext' := Lib.hid hnext
          have i1 : (0 : Int) ≤ (k : Int) := by omega
          have i2 : (k : Int) < (m : Int) := by omega
          have i3 : (0 : Int) ≤ (k : Int) + 1 := by omega
          have i4 : (k : Int) + 1 < (m : Int) + 1 := by omega
          have i5 : (k : Int) < (m : Int) + 1 := by omega
          have i9 : IntKind.i64.wrap (k : Int) = (k : Int) := IntWalk.i64_in _ (by omega)
          have i8 : IntKind.i64.wrap ((k : Int) + 1) = (k : Int) + 1 := IntWalk.i64_in _ (by omega)
          have w1 : IntKind.i64.wrap (u - s) = u - s := IntWalk.i64_in _ (by omega)
          have w2 : IntKind.i64.wrap (v - t) = v - t := IntWalk.i64_in _ (by omega)
          clear hs ht hu hv hcq hnext
          have hM := fun w => minus_in u v s t w (by omega) (by omega) (by omega) (by omega)
          go_wp2_with fail
          go_region_held3 (fun w' => w'.cell? ⟨gA, k * 2, none⟩ = some (.int .i64 s) ∧ w'.cell? ⟨gA, k * 2 + 1, none⟩ = some (.int .i64 t) ∧ w'.cell? ⟨gA, (k + 1) * 2, none⟩ = some (.int .i64 u) ∧ w'.cell? ⟨gA, (k + 1) * 2 + 1, none⟩ = some (.int .i64 v)) (first | go_keep | (go_split_ands; refine ⟨?_, ?_, ?_, ?_⟩ <;> (rw [hgrow.cell_far _ (by simp; omega) (by simp [Value.ownBlock]; omega)]; assumption)) | (go_split_ands; refine ⟨?_, ?_, ?_, ?_⟩ <;> (refine (hb6.cell (by show gA < _; simp; omega)).trans ?_; assumption))) (first | (go_at_call 68; with_reducible refine (hM _).mono ?_; rintro e w6 ⟨rfl, hb6⟩; have hz6 := hb6.size; (try simp only [World.size_drew] at hz6)) | (refine step_append_lies _ (by rfl) _ _ _ (by rfl) (w.heap.size) 44 i0 _ 2 16 Tryd.underlying48 hi0 hz0 hz1 hz2 rfl (by decide) (.slice (some ⟨g, 0, none⟩) k cp) (k) (gv (dfs L k)) (by rfl) ((own2_below hown hb6).alloc _) ⟨(w6).heap.size, 0, none⟩ 1 1 [.int .i64 (u - s), .int .i64 (v - t)] (by rfl) (by rfl) (World.news_of_block (cs := #[.int .i64 (u - s), .int .i64 (v - t)]) (t := 44) (fr := (0, 0)) (heap_alloc_new (w6) _)) (by simp [Value.oneCell']) (by omega) (by unfold maxLen; omega) (by omega) (by simp; omega) ((w6).heap.size + 1) (by simp) ?_; intro gg cap w1 hown1 hgrow hatg hltg) | (refine step_append_lies _ (by rfl) _ _ _ (by rfl) (w.heap.size) 44 i0 _ 2 16 Tryd.underlying48 hi0 hz0 hz1 hz2 rfl (by decide) (.slice (some ⟨g, 0, none⟩) k cp) (k) (gv (dfs L k)) (by rfl) ((own2_below hown.drew hb6).alloc _) ⟨(w6).heap.size, 0, none⟩ 1 1 [.int .i64 (u - s), .int .i64 (v - t)] (by rfl) (by rfl) (World.news_of_block (cs := #[.int .i64 (u - s), .int .i64 (v - t)]) (t := 44) (fr := (0, 0)) (heap_alloc_new (w6) _)) (by simp [Value.oneCell']) (by omega) (by unfold maxLen; omega) (by omega) (by simp; omega) ((w6).heap.size + 1) (by simp) ?_; intro gg cap w1 hown1 hgrow hatg hltg))
          go_wp2
          go_roundw
          case rel => exact ⟨k + 1, gg, cap, by omega, by go_num, rfl, by rw [hnext'.out, gv_app]; exact hown1, rG_grownBy (rG_alloc (rG_below (rG_drew hrA) (Nat.le_refl _) hb6)) hgrow (fun b' off' q q2 => by simp at q; simp [Value.ownBlock] at q2; omega), by rcases hatg with q | q <;> (try simp [Value.ownBlock] at q) <;> omega, by have h1 := hgrow.size; simp only [World.size_alloc] at h1; omega, Below.grown ((Qtrans hb6 (by simp; omega) hbel.drew).alloc (by omega) _) hgrow (by simp; omega) (fun k' hk' => by simp [Value.ownBlock] at hk'; omega)⟩
          case measure => (simp [intOf]) <;> omega
        · obtain rfl : k = m := by omega
          go_wp2
          go_ret
          exact ⟨_, cp, by rw [hL.out, dfs_len]; rfl, by rw [hL.out, dfs_len]; exact hown, hbel⟩
end Go.Proofs.YtilbhingfnjppaaDoor
