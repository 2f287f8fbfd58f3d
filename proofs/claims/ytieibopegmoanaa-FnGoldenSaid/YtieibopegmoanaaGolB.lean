/- Drawn golden numbers. -/
import Derived.Test.YtieibopegmoanaaCur
import Derived.Test.YtieibopegmoanaaGoldN
set_option linter.unusedSimpArgs false
set_option linter.unusedVariables false
namespace Go.Proofs.Ytieibopegmoanaa
open Go.RowKit
theorem far_facts {w w' : World} {row : Option Nat} (hg : w.grownBy w' row) (b : Nat) (hb : b < w.heap.size) (hne : some b ≠ row) : (∀ o, w'.cell? ⟨b, o, none⟩ = w.cell? ⟨b, o, none⟩) ∧ (∀ o, w'.frozen? ⟨b, o, none⟩ = w.frozen? ⟨b, o, none⟩) :=
  ⟨fun _ => World.cell?_of_block (hg.block b hb hne), fun _ => World.frozen?_of_block (hg.block b hb hne)⟩
set_option maxRecDepth 20000 in
set_option maxHeartbeats 1000000 in
theorem l14Draw_any (B g : Nat) (x : Option Addr) (n cap : Nat) (w : World) (hB : B ≤ g) (hr : RB B w x n) (hc : Cur w g x n cap) :
    Calls Try.prog 61 #[.pointer (some ⟨g, 0, none⟩)] w fun e w' => ∃ a b : Int, e = .returned (.agg #[.int .i64 (a), .int .i64 (b)]) ∧ dr a ∧ dr b ∧ Below B w w' := by
  have hgl : g < w.heap.size := by obtain ⟨_, _, _, _, _, _, _, q⟩ := hc; exact q
  obtain ⟨W, hW⟩ : ∃ W, W = w.alloc (.cells #[.int .i64 0, .int .i64 0] 39) := ⟨_, rfl⟩
  have hWs : W.heap.size = w.heap.size + 1 := by rw [hW]; simp
  have hbW : Below w.heap.size w W := by rw [hW]; (repeat (first | with_reducible exact Below.refl _ _ | assumption | with_reducible refine Qdrew ?_ | with_reducible refine QdrewN ?_ | ((with_reducible refine Qset ?_ ?_); exact (by ((try simp only [World.size_alloc, World.size_setCell, World.size_drew, size_drewN]); (try dsimp only); omega))) | ((with_reducible refine Qalloc ?_ ?_); exact (by ((try simp only [World.size_alloc, World.size_setCell, World.size_drew, size_drewN]); (try dsimp only); omega))) | refine Qtrans (by assumption) (by ((try simp only [World.size_alloc, World.size_setCell, World.size_drew, size_drewN]); (try dsimp only); omega)) ?_))
  have hrW : RB B W x n := rB_below hr (hbW.mono (by omega))
  have hcW : Cur W g x n cap := cur_below hc hbW hgl
  have hC1 := l01Below_any B g x n cap 41 (by omega) (by omega) W hB hrW hcW
  subst hW
  have hcf : ∀ o, (w.alloc (.cells #[.int .i64 0, .int .i64 0] 39)).frozen? ⟨w.heap.size, o, none⟩ = false := fun o => by simp [go_sem]
  go_enter Try.func61, Try.ntmps61
  go_wp2_with (first | (go_at_call 72; refine hC1.mono ?_; rintro e w1 ⟨u, rfl, ⟨hu0, hu1⟩, hc1, hg1⟩; have hz1 := hg1.size; obtain ⟨hk1, hk2⟩ := far_facts hg1 w.heap.size (by simp) (by simp; omega); have hrW1 := rB_grown hrW hg1 (by simp; omega) hB) | (go_at_call 72; refine (l01Below_any B g x n cap 41 (by omega) (by omega) _ hB hrW1 hc1).mono ?_; rintro e w2 ⟨v, rfl, ⟨hv0, hv1⟩, hc2, hg2⟩; have hz2 := hg2.size; obtain ⟨hk3, hk4⟩ := far_facts hg2 w.heap.size (by simp at hz1; omega) (by simp; omega); have hkk : w.heap.size < w2.heap.size := (by simp at hz1; omega)))
  have hb1 := below_of_grown (B := B) hg1 (by simp; omega) hB
  have hb2 := below_of_grown (B := B) hg2 (by simp at hz1; omega) hB
  have hbA : Below B w w2 := ((hbW.mono (by omega)).trans hb1).trans hb2
  refine bodyPost_ret (v := .agg #[.int .i64 (u - 20), .int .i64 (v - 20)]) (by simp [results, Try.results61, go_sem, cset, csame, *]) rfl ⟨_, _, rfl, ⟨by omega, by omega⟩, ⟨by omega, by omega⟩, ?_⟩
  (repeat (first | with_reducible exact Below.refl _ _ | assumption | with_reducible refine Qdrew ?_ | with_reducible refine QdrewN ?_ | ((with_reducible refine Qset ?_ ?_); exact (by ((try simp only [World.size_alloc, World.size_setCell, World.size_drew, size_drewN]); (try dsimp only); omega))) | ((with_reducible refine Qalloc ?_ ?_); exact (by ((try simp only [World.size_alloc, World.size_setCell, World.size_drew, size_drewN]); (try dsimp only); omega))) | refine Qtrans (by assumption) (by ((try simp only [World.size_alloc, World.size_setCell, World.size_drew, size_drewN]); (try dsimp only); omega)) ?_))
set_option maxRecDepth 20000 in
set_option maxHeartbeats 1000000 in
theorem MakeGold_any (B : Nat) (x : Option Addr) (n cap : Nat) (m : Nat) (hm : m ≤ 1000) (w : World) (hB : B ≤ w.heap.size) (hr : RB B w x n) :
    Calls Try.prog 23 #[.slice x n cap, .int .i64 m] w fun e w' => ∃ a b : Int, e = .returned (.agg #[.int .i64 (a), .int .i64 (b)]) ∧ dr a ∧ dr b ∧ Below w.heap.size w w' := by
  have hbW : Below w.heap.size w (w.alloc (.cells #[.int .i64 0, .int .i64 0] 39)) := by (repeat (first | with_reducible exact Below.refl _ _ | assumption | with_reducible refine Qdrew ?_ | with_reducible refine QdrewN ?_ | ((with_reducible refine Qset ?_ ?_); exact (by ((try simp only [World.size_alloc, World.size_setCell, World.size_drew, size_drewN]); (try dsimp only); omega))) | ((with_reducible refine Qalloc ?_ ?_); exact (by ((try simp only [World.size_alloc, World.size_setCell, World.size_drew, size_drewN]); (try dsimp only); omega))) | refine Qtrans (by assumption) (by ((try simp only [World.size_alloc, World.size_setCell, World.size_drew, size_drewN]); (try dsimp only); omega)) ?_))
  have hrW : RB w.heap.size (w.alloc (.cells #[.int .i64 0, .int .i64 0] 39)) x n := rB_below (rB_mono hr hB) hbW
  have hC1 := l31New_any w.heap.size x n cap m hm _ (by simp) hrW
  have hcf : ∀ o, (w.alloc (.cells #[.int .i64 0, .int .i64 0] 39)).frozen? ⟨w.heap.size, o, none⟩ = false := fun o => by simp [go_sem]
  clear hr
  go_enter Try.func23, Try.ntmps23
  go_wp2_with (first | (go_at_call 62; refine hC1.mono ?_; rintro e w1 ⟨g, rfl, hg, hc1, hb1⟩; have hz1 := hb1.size; (simp at hg); have hk1 := fun o => hb1.cell (p := ⟨w.heap.size, o, none⟩) (by simp); have hk2 := fun o => hb1.frozen (p := ⟨w.heap.size, o, none⟩) (by simp)) | (go_at_call 61; refine (l14Draw_any (w.heap.size + 1) g x n cap w1 hg (rB_below (rB_mono hrW (by omega)) (hb1.mono (by simp))) hc1).mono ?_; rintro e w2 ⟨a, b, rfl, ha, hb, hb2⟩; have hz2 := hb2.size; have hk3 := fun o => hb2.cell (p := ⟨w.heap.size, o, none⟩) (by simp); have hk4 := fun o => hb2.frozen (p := ⟨w.heap.size, o, none⟩) (by simp); have hkk : w.heap.size < w2.heap.size := (by simp at hz1; omega)))
  have hbA : Below w.heap.size w w2 := (hbW.trans (hb1.mono (by simp))).trans (hb2.mono (by omega))
  refine bodyPost_ret (v := .agg #[.int .i64 (a), .int .i64 (b)]) (by simp [results, Try.results23, go_sem, cset, csame, *]) rfl ⟨_, _, rfl, ha, hb, ?_⟩
  (repeat (first | with_reducible exact Below.refl _ _ | assumption | with_reducible refine Qdrew ?_ | with_reducible refine QdrewN ?_ | ((with_reducible refine Qset ?_ ?_); exact (by ((try simp only [World.size_alloc, World.size_setCell, World.size_drew, size_drewN]); (try dsimp only); omega))) | ((with_reducible refine Qalloc ?_ ?_); exact (by ((try simp only [World.size_alloc, World.size_setCell, World.size_drew, size_drewN]); (try dsimp only); omega))) | refine Qtrans (by assumption) (by ((try simp only [World.size_alloc, World.size_setCell, World.size_drew, size_drewN]); (try dsimp only); omega)) ?_))
end Go.Proofs.Ytieibopegmoanaa
