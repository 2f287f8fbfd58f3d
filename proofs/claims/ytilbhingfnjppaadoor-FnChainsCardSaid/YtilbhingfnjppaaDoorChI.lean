/- Chains: rows of golden numbers in the laws' own functions, and what ChainOf returns. -/
import Derived.Test.YtilbhingfnjppaaDoorChH
import Derived.Test.YtilbhingfnjppaaDoorGoldW
import Derived.BigQuiet
import Derived.Test.YtilbhingfnjppaaDoorLawT
set_option linter.unusedSimpArgs false
set_option linter.unusedVariables false
namespace Go.Proofs.YtilbhingfnjppaaDoor
open Go.RowKit
/-- A slice of golden numbers, from the start of its block. -/
def RG (w : World) (x : Option Addr) (n : Nat) (zs : List GP) : Prop :=
  zs.length = n ∧ n ≤ 100000 ∧ (n = 0 ∨ ∃ b, x = some ⟨b, 0, none⟩ ∧ b < w.heap.size ∧ ∀ j, j < n → w.cell? ⟨b, j * 2, none⟩ = some (.int .i64 (zs.getD j (0, 0)).1) ∧ w.cell? ⟨b, j * 2 + 1, none⟩ = some (.int .i64 (zs.getD j (0, 0)).2))
theorem rG_cell {w : World} {x : Option Addr} {n : Nat} {zs : List GP} (h : RG w x n zs) (h0 : 0 < n) : ∃ b, x = some ⟨b, 0, none⟩ ∧ b < w.heap.size ∧ ∀ j, j < n → w.cell? ⟨b, j * 2, none⟩ = some (.int .i64 (zs.getD j (0, 0)).1) ∧ w.cell? ⟨b, j * 2 + 1, none⟩ = some (.int .i64 (zs.getD j (0, 0)).2) := by
  rcases h.2.2 with h | h
  · omega
  · exact h
theorem rG_below {w w' : World} {x : Option Addr} {n : Nat} {zs : List GP} (h : RG w x n zs) {B : Nat} (hB : w.heap.size ≤ B) (hb : Below B w w') : RG w' x n zs := by
  refine ⟨h.1, h.2.1, ?_⟩
  rcases h.2.2 with h0 | ⟨b, rfl, hlt, hc⟩
  · exact .inl h0
  · exact .inr ⟨b, rfl, Nat.lt_of_lt_of_le hlt hb.size, fun j hj => ⟨(hb.cell (by show b < B; omega)).trans (hc j hj).1, (hb.cell (by show b < B; omega)).trans (hc j hj).2⟩⟩
theorem rG_grownBy {w w' : World} {x : Option Addr} {n : Nat} {zs : List GP} {r : Option Nat} (h : RG w x n zs) (hg : w.grownBy w' r) (hx : ∀ b off, x = some ⟨b, off, none⟩ → some b ≠ r) : RG w' x n zs := by
  refine ⟨h.1, h.2.1, ?_⟩
  rcases h.2.2 with h0 | ⟨b, rfl, hlt, hc⟩
  · exact .inl h0
  · refine .inr ⟨b, rfl, Nat.lt_of_lt_of_le hlt hg.size, fun j hj => ⟨?_, ?_⟩⟩
    · rw [hg.cell_far ⟨b, j * 2, none⟩ hlt (hx b 0 rfl)]
      exact (hc j hj).1
    · rw [hg.cell_far ⟨b, j * 2 + 1, none⟩ hlt (hx b 0 rfl)]
      exact (hc j hj).2
theorem own2_form {w : World} {B n cap : Nat} {x : Option Addr} {xs : List Value} (h : w.ownsRow B 44 2 (.slice x n cap) n xs) (hn : 0 < n) : ∃ g, x = some ⟨g, 0, none⟩ ∧ B ≤ g ∧ g < w.heap.size := by
  rcases h.2 with ⟨_, h0⟩ | ⟨g, c, cur, e, hb, hg, _⟩
  · omega
  · cases e
    exact ⟨g, rfl, hb, (Array.getElem?_eq_some_iff.1 hg).1⟩
theorem rG_own {w : World} {B n cap : Nat} {x : Option Addr} {zs : List GP} (h : w.ownsRow B 44 2 (.slice x n cap) n (gv zs)) (hn : n ≤ 100000) : RG w x n zs := by
  have hl : zs.length = n := by have := h.1; rw [gv_len] at this; omega
  refine ⟨hl, hn, ?_⟩
  by_cases h0 : n = 0
  · exact .inl h0
  · right
    obtain ⟨g, rfl, _, hg2⟩ := own2_form h (by omega)
    refine ⟨g, rfl, hg2, fun j hj => ?_⟩
    obtain ⟨a1, a2⟩ := gv_at zs j (by omega)
    rw [Nat.mul_comm] at a1 a2
    exact ⟨(own2_cell h _ (by omega)).trans a1, (own2_cell h _ (by omega)).trans a2⟩
/-- The numbers that the laws write, from k on. -/
def mg (k n : Nat) : List GP := (List.range n).map (fun j => (((k + 2 * j : Nat) : Int), ((k + 2 * j + 1 : Nat) : Int)))
theorem mg_len (k n : Nat) : (mg k n).length = n := by simp [mg]
theorem mg_at (k n j : Nat) (h : j < n) : (mg k n).getD j (0, 0) = ((k : Int) + 2 * j, (k : Int) + 2 * j + 1) := by simp [mg, List.getD_eq_getElem?_getD, h]
theorem markG_set (zs : List GP) (k j n : Nat) (hz : zs.length = n) (h : j < n) : ((gv (mg k j ++ zs.drop j)).set (j * 2) (.int .i64 ((k : Int) + 2 * j))).set (j * 2 + 1) (.int .i64 ((k : Int) + 2 * j + 1)) = gv (mg k (j + 1) ++ zs.drop (j + 1)) := by
  have hl : (gv (mg k j)).length = j * 2 := by rw [gv_len, mg_len]
  have e1 : zs.drop j = zs[j] :: zs.drop (j + 1) := List.drop_eq_getElem_cons (by omega)
  rw [e1, gv_app, List.set_append_right _ _ (by omega), List.set_append_right _ _ (by omega), hl, Nat.sub_self, Nat.add_sub_cancel_left, gv_app]
  have e2 : gv (mg k (j + 1)) = gv (mg k j) ++ [.int .i64 ((k : Int) + 2 * j), .int .i64 ((k : Int) + 2 * j + 1)] := by
    have : mg k (j + 1) = mg k j ++ [(((k + 2 * j : Nat) : Int), ((k + 2 * j + 1 : Nat) : Int))] := by simp [mg, List.range_succ]
    rw [this, gv_app]
    congr 1
  rw [e2, List.append_assoc]
  congr 1
theorem win_Win {a b c d : Int} (h : win a b c d = true) : Win (a, b) (c, d) := by
  unfold win at h
  simp only [Bool.and_eq_true] at h
  obtain ⟨h1, h2, h3⟩ := h
  obtain ⟨a1, a2⟩ := inW_true h1
  obtain ⟨c1, c2⟩ := inW_true h2
  unfold wide at h3
  simp only [Bool.and_eq_true, decide_eq_true_eq] at h3
  have e1 := sgn_ge_lin (a := c - a - 1) (b := d - b) (bd_of (by omega) (by omega)) (bd_of (by omega) (by omega))
  have e2 := sgn_ge_lin (a := c - a - 4) (b := d - b) (bd_of (by omega) (by omega)) (bd_of (by omega) (by omega))
  refine ⟨a1, a2, c1, c2, e1.1 h3.1, ?_⟩
  show vl (c - a - 4) (d - b) < 0
  have := h3.2
  omega
/-- What ChainOf returns. -/
noncomputable def chL (a b c d n : Int) : List GP := if (win a b c d && inB n 1 60) = true then (specL (a, b) (c, d)).take n.toNat else []
theorem chL_len (a b c d n : Int) : (chL a b c d n).length ≤ 60 := by
  unfold chL
  split
  · rename_i h
    rw [Bool.and_eq_true] at h
    have := inB_true.1 h.2
    rw [List.length_take]; omega
  · simp
set_option maxRecDepth 20000 in
set_option maxHeartbeats 1000000 in
theorem implChainOf_any (a b c d n : Int) (w : World) :
    Calls Tryd.prog 24 #[.agg #[.int .i64 (a), .int .i64 (b)], .agg #[.int .i64 (c), .int .i64 (d)], .int .i64 n] w fun e w' => ∃ x cp, e = .returned (.slice x (chL a b c d n).length cp) ∧ w'.ownsRow w.heap.size 44 2 (.slice x (chL a b c d n).length cp) (chL a b c d n).length (gv (chL a b c d n)) ∧ Below w.heap.size w w' := by
  have hO : ∀ w, Calls Tryd.prog 28 #[.agg #[.int .i64 (a), .int .i64 (b)], .agg #[.int .i64 (c), .int .i64 (d)]] w fun e w' => e = .returned (.bool (win a b c d)) ∧ Below w.heap.size w w' := fun w => implWindowOk_any a b c d w
  cases hW : win a b c d
  · have hL : Hid (chL a b c d n = []) := by show _ = _; simp [chL, hW]
    rw [hW] at hO
    go_enter Tryd.func24, Tryd.ntmps24
    go_wp2_with (first | (go_at_call 28; refine (hO _).mono ?_; rintro e w1 ⟨rfl, hb1⟩; have hz1 := hb1.size; (try simp at hz1); obtain ⟨hc1, hf1⟩ := bcellK (w := w) 2 hb1 (by ((try simp only [World.size_alloc, World.size_setCell, World.size_drew, size_drewN]); (try dsimp only); omega)); have hl1 := ltK (n := w.heap.size) (p := 2) (w1 := w1) (by omega); (try (have tk1 := trackAlloc hb1 (by ((try simp only [World.size_alloc, World.size_setCell, World.size_drew, size_drewN]); (try dsimp only); omega)); try simp only [World.size_alloc, World.size_drew] at tk1)); (try (have tk2 := trackAllocD hb1 (by ((try simp only [World.size_alloc, World.size_setCell, World.size_drew, size_drewN]); (try dsimp only); omega)); try simp only [World.size_alloc, World.size_drew] at tk2)); (try have tk3 := trackNext hb1 (by assumption) (by ((try simp only [World.size_alloc, World.size_setCell, World.size_drew, size_drewN]); (try dsimp only); omega)))) | (go_at_call 50; refine (within_any _ _ _ _).mono ?_; rintro e w1 ⟨rfl, rfl⟩))
    go_ret
    exact ⟨none, 0, by rw [hL.out]; rfl, by rw [hL.out]; exact World.ownsRow_nil _ _ _ _, by (repeat (first | with_reducible exact Below.refl _ _ | assumption | with_reducible refine Qdrew ?_ | with_reducible refine QdrewN ?_ | ((with_reducible refine Qset ?_ ?_); exact (by ((try simp only [World.size_alloc, World.size_setCell, World.size_drew, size_drewN]); (try dsimp only); omega))) | ((with_reducible refine Qalloc ?_ ?_); exact (by ((try simp only [World.size_alloc, World.size_setCell, World.size_drew, size_drewN]); (try dsimp only); omega))) | refine Qtrans (by assumption) (by ((try simp only [World.size_alloc, World.size_setCell, World.size_drew, size_drewN]); (try dsimp only); omega)) ?_))⟩
  · rw [hW] at hO
    cases hN : inB n 1 60
    · have hL : Hid (chL a b c d n = []) := by show _ = _; simp [chL, hN]
      go_enter Tryd.func24, Tryd.ntmps24
      go_wp2_with (first | (go_at_call 28; refine (hO _).mono ?_; rintro e w1 ⟨rfl, hb1⟩; have hz1 := hb1.size; (try simp at hz1); obtain ⟨hc1, hf1⟩ := bcellK (w := w) 2 hb1 (by ((try simp only [World.size_alloc, World.size_setCell, World.size_drew, size_drewN]); (try dsimp only); omega)); have hl1 := ltK (n := w.heap.size) (p := 2) (w1 := w1) (by omega); (try (have tk1 := trackAlloc hb1 (by ((try simp only [World.size_alloc, World.size_setCell, World.size_drew, size_drewN]); (try dsimp only); omega)); try simp only [World.size_alloc, World.size_drew] at tk1)); (try (have tk2 := trackAllocD hb1 (by ((try simp only [World.size_alloc, World.size_setCell, World.size_drew, size_drewN]); (try dsimp only); omega)); try simp only [World.size_alloc, World.size_drew] at tk2)); (try have tk3 := trackNext hb1 (by assumption) (by ((try simp only [World.size_alloc, World.size_setCell, World.size_drew, size_drewN]); (try dsimp only); omega)))) | (go_at_call 50; refine (within_any _ _ _ _).mono ?_; rintro e w1 ⟨rfl, rfl⟩))
      go_ret
      exact ⟨none, 0, by rw [hL.out]; rfl, by rw [hL.out]; exact World.ownsRow_nil _ _ _ _, by (repeat (first | with_reducible exact Below.refl _ _ | assumption | with_reducible refine Qdrew ?_ | with_reducible refine QdrewN ?_ | ((with_reducible refine Qset ?_ ?_); exact (by ((try simp only [World.size_alloc, World.size_setCell, World.size_drew, size_drewN]); (try dsimp only); omega))) | ((with_reducible refine Qalloc ?_ ?_); exact (by ((try simp only [World.size_alloc, World.size_setCell, World.size_drew, size_drewN]); (try dsimp only); omega))) | refine Qtrans (by assumption) (by ((try simp only [World.size_alloc, World.size_setCell, World.size_drew, size_drewN]); (try dsimp only); omega)) ?_))⟩
    · have hb := inB_true.1 hN
      obtain ⟨m, rfl⟩ : ∃ m : Nat, n = (m : Int) := ⟨n.toNat, by omega⟩
      have hL : Hid (chL a b c d (m : Int) = (specL (a, b) (c, d)).take m) := by show _ = _; rw [chL, if_pos (by rw [hW, hN]; rfl)]; rfl
      have hc := fun w => chain_any a b c d m w (win_Win hW) (by omega)
      have hl : Hid (((specL (a, b) (c, d)).take m).length = m) := by
        have hw := win_Win hW
        have h3 := (specL_asc hw).1
        obtain ⟨h4, h5⟩ := fold_gput (allI (a, b) (c, d) 400) [] List.Pairwise.nil (by
          rw [List.nil_append]
          exact List.Pairwise.imp_of_mem (fun {x y} ha hb h => key_ne_of (allI_bp hw ha) (allI_bp hw hb) h) (allI_pw (a, b) (c, d) 400))
        obtain ⟨_, q2, _⟩ := first_eq hw h4 (fun z => by rw [h5]; simp) 0 (by omega)
        show _ = _
        rw [List.length_take]; omega
      go_enter Tryd.func24, Tryd.ntmps24
      go_wp2_with (first | (first | (go_at_call 28; refine (hO _).mono ?_; rintro e w1 ⟨rfl, hb1⟩; have hz1 := hb1.size; (try simp at hz1); obtain ⟨hc1, hf1⟩ := bcellK (w := w) 2 hb1 (by ((try simp only [World.size_alloc, World.size_setCell, World.size_drew, size_drewN]); (try dsimp only); omega)); have hl1 := ltK (n := w.heap.size) (p := 2) (w1 := w1) (by omega); (try (have tk1 := trackAlloc hb1 (by ((try simp only [World.size_alloc, World.size_setCell, World.size_drew, size_drewN]); (try dsimp only); omega)); try simp only [World.size_alloc, World.size_drew] at tk1)); (try (have tk2 := trackAllocD hb1 (by ((try simp only [World.size_alloc, World.size_setCell, World.size_drew, size_drewN]); (try dsimp only); omega)); try simp only [World.size_alloc, World.size_drew] at tk2)); (try have tk3 := trackNext hb1 (by assumption) (by ((try simp only [World.size_alloc, World.size_setCell, World.size_drew, size_drewN]); (try dsimp only); omega)))) | (go_at_call 50; refine (within_any _ _ _ _).mono ?_; rintro e w1 ⟨rfl, rfl⟩)) | (go_at_call 67; refine (hc _).mono ?_; rintro e w1 ⟨g, cp, rfl, ho, hb1⟩))
      go_ret
      exact ⟨_, cp, by rw [hL.out, hl.out]; rfl, by rw [hL.out, hl.out]; exact own2_mono ho (by first | omega | (simp; omega)), by (repeat (first | with_reducible exact Below.refl _ _ | assumption | with_reducible refine Qdrew ?_ | with_reducible refine QdrewN ?_ | ((with_reducible refine Qset ?_ ?_); exact (by ((try simp only [World.size_alloc, World.size_setCell, World.size_drew, size_drewN]); (try dsimp only); omega))) | ((with_reducible refine Qalloc ?_ ?_); exact (by ((try simp only [World.size_alloc, World.size_setCell, World.size_drew, size_drewN]); (try dsimp only); omega))) | refine Qtrans (by assumption) (by ((try simp only [World.size_alloc, World.size_setCell, World.size_drew, size_drewN]); (try dsimp only); omega)) ?_))⟩
end Go.Proofs.YtilbhingfnjppaaDoor
