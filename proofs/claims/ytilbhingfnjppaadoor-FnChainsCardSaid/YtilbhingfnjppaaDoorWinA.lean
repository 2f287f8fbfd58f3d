/- A window is drawn: the walk. -/
import Derived.Test.YtilbhingfnjppaaDoorCur
import Derived.Test.YtilbhingfnjppaaDoorChP
set_option linter.unusedSimpArgs false
set_option linter.unusedVariables false
namespace Go.Proofs.YtilbhingfnjppaaDoor
open Go.RowKit
theorem far_factsW {w w1 : World} {g : Nat} (hg : w.grownBy w1 (some g)) (k : Nat) (hk : k < w.heap.size) (hne : k ≠ g) : (∀ o, w1.cell? ⟨k, o, none⟩ = w.cell? ⟨k, o, none⟩) ∧ (∀ o, w1.frozen? ⟨k, o, none⟩ = w.frozen? ⟨k, o, none⟩) :=
  ⟨fun o => hg.cell_far ⟨k, o, none⟩ hk (by simp; omega), fun o => hg.frozen_far ⟨k, o, none⟩ hk (by simp; omega)⟩
theorem grown_newW {w a : World} {row : Option Nat} (h : w.grownBy a row) (o : Obj) : w.grownBy (a.alloc o) row :=
  ⟨h.os, h.tape, h.output, Nat.le_trans h.size (by simp), fun k hk hne => (heap_alloc_old a o (Nat.lt_of_lt_of_le hk h.size)).trans (h.block k hk hne)⟩
theorem below_of_grownW {w w' : World} {B g : Nat} (hg : w.grownBy w' (some g)) (hgl : g < w.heap.size) (hB : B ≤ g) : Below B w w' :=
  below_of_grown hg (by omega) hB
theorem fallocW {w : World} {o : Obj} {k j : Nat} (h : k < w.heap.size) : (w.alloc o).frozen? ⟨k, j, none⟩ = w.frozen? ⟨k, j, none⟩ :=
  (grown_newW (World.grownBy.refl w none) o).frozen_far ⟨k, j, none⟩ h (by simp)
set_option maxRecDepth 20000 in
set_option maxHeartbeats 2000000 in
theorem l15Window_any (B g : Nat) (x : Option Addr) (n cap : Nat) (w : World) (hB : B ≤ g) (hr : RB B w x n) (hc : Cur w g x n cap) :
    Calls Tryd.prog 66 #[.pointer (some ⟨g, 0, none⟩)] w fun e w' => ∃ (a b : Int) (d : GP), e = .returned (.tuple #[.agg #[.int .i64 a, .int .i64 b], .agg #[.int .i64 (a + d.1), .int .i64 (b + d.2)]]) ∧ (-3 ≤ a ∧ a ≤ 3) ∧ (-2 ≤ b ∧ b ≤ 2) ∧ d ∈ wds8 ∧ Below B w w' := by
  have hgl : g < w.heap.size := by obtain ⟨_, _, _, _, _, _, _, q⟩ := hc; exact q
  have hbW : Below w.heap.size w ((w.alloc (.cells #[.int .i64 0, .int .i64 0] 44)).alloc (.cells #[.int .i64 0, .int .i64 0] 44)) := ((Below.refl _ w).alloc (Nat.le_refl _) _).alloc (by simp) _
  have hrW := rB_below hr (hbW.mono (by omega))
  have hcW := cur_below hc hbW hgl
  have hC1 := l01Below_any B g x n cap 7 (by omega) (by omega) _ hB hrW hcW
  have hC2 : ∀ w1, ((w.alloc (.cells #[.int .i64 0, .int .i64 0] 44)).alloc (.cells #[.int .i64 0, .int .i64 0] 44)).grownBy w1 (some g) → Cur w1 g x n cap → Calls Tryd.prog 56 #[.pointer (some ⟨g, 0, none⟩), .int .i64 5] w1 fun e w' => ∃ v : Int, e = .returned (.int .i64 v) ∧ (0 ≤ v ∧ v < 5) ∧ Cur w' g x n cap ∧ w1.grownBy w' (some g) := fun w1 hg1 hc1 => l01Below_any B g x n cap 5 (by omega) (by omega) w1 hB (rB_grown hrW hg1 (by simp; omega) hB) hc1
  clear hr hc
  go_enter Tryd.func66, Tryd.ntmps66
  go_upto_region 2 with (first | (go_at_call 56; (with_reducible refine hC1.mono ?_); rintro e w1 ⟨u, rfl, ⟨hu0, hu1⟩, hc1, hg1⟩; have i1 : IntKind.i64.wrap (u - 3) = u - 3 := IntWalk.i64_in _ (by omega)) | (go_at_call 56; (with_reducible refine (hC2 _ hg1 hc1).mono ?_); rintro e w2 ⟨v, rfl, ⟨hv0, hv1⟩, hc2, hg2⟩; have i2 : IntKind.i64.wrap (v - 2) = v - 2 := IntWalk.i64_in _ (by omega)))
  have hgw : w.grownBy w2 (some g) := (grown_newW (grown_newW (World.grownBy.refl _ _) _) _).trans (hg1.trans hg2)
  have hz2 := hgw.size
  have hz1 := hg1.size
  simp only [World.size_alloc] at hz1
  have hz12 := hg2.size
  obtain ⟨a, ha⟩ : ∃ a, u - 3 = a := ⟨_, rfl⟩
  obtain ⟨b, hb⟩ : ∃ b, v - 2 = b := ⟨_, rfl⟩
  rw [ha, hb]
  have hab : (-3 ≤ a ∧ a ≤ 3) ∧ (-2 ≤ b ∧ b ≤ 2) := by omega
  obtain ⟨c1, f1⟩ := far_factsW hg1 w.heap.size (by simp; omega) (by omega)
  obtain ⟨c2, f2⟩ := far_factsW hg2 w.heap.size (by omega) (by omega)
  obtain ⟨c3, f3⟩ := far_factsW hg1 (w.heap.size + 1) (by simp) (by omega)
  obtain ⟨c4, f4⟩ := far_factsW hg2 (w.heap.size + 1) (by omega) (by omega)
  have q0 : ∀ o, w2.cell? ⟨w.heap.size, o, none⟩ = ((w.alloc (.cells #[.int .i64 0, .int .i64 0] 44)).alloc (.cells #[.int .i64 0, .int .i64 0] 44)).cell? ⟨w.heap.size, o, none⟩ := fun o => (c2 o).trans (c1 o)
  have q1 : ∀ o, w2.cell? ⟨w.heap.size + 1, o, none⟩ = ((w.alloc (.cells #[.int .i64 0, .int .i64 0] 44)).alloc (.cells #[.int .i64 0, .int .i64 0] 44)).cell? ⟨w.heap.size + 1, o, none⟩ := fun o => (c4 o).trans (c3 o)
  have r00 : w2.cell? ⟨w.heap.size, 0, none⟩ = some (.int .i64 0) := (q0 0).trans (by simp [go_sem])
  have r01 : w2.cell? ⟨w.heap.size, 1, none⟩ = some (.int .i64 0) := (q0 1).trans (by simp [go_sem])
  have r10 : w2.cell? ⟨w.heap.size + 1, 0, none⟩ = some (.int .i64 0) := (q1 0).trans (by simp [go_sem])
  have r11 : w2.cell? ⟨w.heap.size + 1, 1, none⟩ = some (.int .i64 0) := (q1 1).trans (by simp [go_sem])
  have g0 : ∀ o, w2.frozen? ⟨w.heap.size, o, none⟩ = false := fun o => (f2 o).trans ((f1 o).trans (by simp [go_sem]))
  have g1' : ∀ o, w2.frozen? ⟨w.heap.size + 1, o, none⟩ = false := fun o => (f4 o).trans ((f3 o).trans (by simp [go_sem]))
  have hB2 : Below B w w2 := below_of_grownW hgw hgl hB
  have hr2 := rB_below (rB_mono hrW (Nat.le_refl _)) (show Below B ((w.alloc (.cells #[.int .i64 0, .int .i64 0] 44)).alloc (.cells #[.int .i64 0, .int .i64 0] 44)) w2 from below_of_grownW (hg1.trans hg2) (by simp; omega) hB)
  have hC3 : ∀ w3, w2.grownBy w3 none → Calls Tryd.prog 56 #[.pointer (some ⟨g, 0, none⟩), .int .i64 8] w3 fun e w' => ∃ v : Int, e = .returned (.int .i64 v) ∧ (0 ≤ v ∧ v < 8) ∧ w3.grownBy w' (some g) := fun w3 hg3 =>
    (l01Below_any B g x n cap 8 (by omega) (by omega) w3 hB (rB_grown hr2 (show w2.grownBy w3 (some g) from ⟨hg3.os, hg3.tape, hg3.output, hg3.size, fun k hk _ => hg3.block k hk (by simp)⟩) (by omega) hB) (cur_far hc2 hg3 (by simp))).mono fun e w' h => by
      obtain ⟨v, h1, h2, _, h4⟩ := h
      exact ⟨v, h1, h2, h4⟩
  clear hC1 hC2 hrW hcW hbW hc1 hc2 hg1 c1 f1 c2 f2 c3 f3 c4 f4 q0 q1 i1 i2 hr2 hg2
  have hgn : w2.grownBy (w2.alloc (.cells #[.int .i64 a, .int .i64 b] 44)) none := grown_newW (World.grownBy.refl _ _) _
  have s0 : (w2.alloc (.cells #[.int .i64 a, .int .i64 b] 44)).cell? ⟨w2.heap.size, 0, none⟩ = some (.int .i64 a) := by simp [go_sem]
  have s1 : (w2.alloc (.cells #[.int .i64 a, .int .i64 b] 44)).cell? ⟨w2.heap.size, 1, none⟩ = some (.int .i64 b) := by simp [go_sem]
  have sz : (w2.alloc (.cells #[.int .i64 a, .int .i64 b] 44)).heap.size = w2.heap.size + 1 := by simp
  have cf := fun k o (h : k < w2.heap.size) => hgn.cell_far ⟨k, o, none⟩ h (by simp)
  have ff := fun k o (h : k < w2.heap.size) => hgn.frozen_far ⟨k, o, none⟩ h (by simp)
  obtain ⟨W3, hW3⟩ : ∃ W, w2.alloc (.cells #[.int .i64 a, .int .i64 b] 44) = W := ⟨_, rfl⟩
  rw [hW3] at hgn s0 s1 sz cf ff ⊢
  have t00 := (cf w.heap.size 0 (by omega)).trans r00
  have t01 := (cf w.heap.size 1 (by omega)).trans r01
  have t10 := (cf (w.heap.size + 1) 0 (by omega)).trans r10
  have t11 := (cf (w.heap.size + 1) 1 (by omega)).trans r11
  have h00 := fun o => (ff w.heap.size o (by omega)).trans (g0 o)
  have h10 := fun o => (ff (w.heap.size + 1) o (by omega)).trans (g1' o)
  have hB3 : Below B w2 W3 := (Below.refl B w2).grown hgn (by omega) (fun k hk => by cases hk)
  have lW3 : w2.heap.size < W3.heap.size := by omega
  have lg3 : g < W3.heap.size := by omega
  have lz3 : w.heap.size + 2 ≤ w2.heap.size := by omega
  clear r00 r01 r10 r11 g0 g1' cf ff hW3 sz
  go_upto_region 3 with (go_at_call 56; refine (hC3 _ (grown_newW hgn _)).mono ?_; rintro e w4 ⟨t, rfl, ⟨ht0, ht1⟩, hg4⟩; obtain ⟨m, rfl⟩ : ∃ m : Nat, t = (m : Int) := ⟨t.toNat, (by omega)⟩; obtain ⟨hkr, hfr⟩ := far_factsW hg4 W3.heap.size (by simp) (by omega); have hm : m < 8 := (by omega); have hA : w4.cell? ⟨W3.heap.size, m * 2, none⟩ = some (.int .i64 (wds8.getD m (0, 0)).1) := (by (rw [hkr]; have hcs : m = 0 ∨ m = 1 ∨ m = 2 ∨ m = 3 ∨ m = 4 ∨ m = 5 ∨ m = 6 ∨ m = 7 := (by omega); rcases hcs with rfl | rfl | rfl | rfl | rfl | rfl | rfl | rfl <;> simp [go_sem, wds8])); have hAB : w4.cell? ⟨W3.heap.size, m * 2 + 1, none⟩ = some (.int .i64 (wds8.getD m (0, 0)).2) := (by (rw [hkr]; have hcs : m = 0 ∨ m = 1 ∨ m = 2 ∨ m = 3 ∨ m = 4 ∨ m = 5 ∨ m = 6 ∨ m = 7 := (by omega); rcases hcs with rfl | rfl | rfl | rfl | rfl | rfl | rfl | rfl <;> simp [go_sem, wds8])); have hdm : wds8.getD m (0, 0) ∈ wds8 := (by (rw [List.getD_eq_getElem?_getD, List.getElem?_eq_getElem (by (show m < 8; omega))]; exact List.getElem_mem _)); obtain ⟨d, hd⟩ : ∃ d, wds8.getD m (0, 0) = d := ⟨_, rfl⟩; rw [hd] at hA hAB hdm; clear hd hkr hfr; have j0 : (0 : Int) ≤ (m : Int) := (by omega); have j1 : (m : Int) < 8 := (by omega))
  have hz4 := hg4.size
  simp only [World.size_alloc] at hz4
  have hg24 : w2.grownBy w4 (some g) := (show w2.grownBy (W3.alloc _) (some g) from ⟨(grown_newW hgn _).os, (grown_newW hgn _).tape, (grown_newW hgn _).output, (grown_newW hgn _).size, fun k hk _ => (grown_newW hgn _).block k hk (by simp)⟩).trans hg4
  have hB4 : Below B w2 w4 := below_of_grown hg24 (by omega) hB
  have fr := fun k o (h : k < W3.heap.size) (hne : k ≠ g) => ((far_factsW hg4 k (by simp; omega) hne).1 o).trans (calloc h)
  have ff := fun k o (h : k < W3.heap.size) (hne : k ≠ g) => ((far_factsW hg4 k (by simp; omega) hne).2 o).trans (fallocW h)
  have v0 := (fr w2.heap.size 0 (by omega) (by omega)).trans s0
  have v1 := (fr w2.heap.size 1 (by omega) (by omega)).trans s1
  have u00 := (fr w.heap.size 0 (by omega) (by omega)).trans t00
  have u01 := (fr w.heap.size 1 (by omega) (by omega)).trans t01
  have u10 := (fr (w.heap.size + 1) 0 (by omega) (by omega)).trans t10
  have u11 := (fr (w.heap.size + 1) 1 (by omega) (by omega)).trans t11
  have x00 := fun o => (ff w.heap.size o (by omega) (by omega)).trans (h00 o)
  have x10 := fun o => (ff (w.heap.size + 1) o (by omega) (by omega)).trans (h10 o)
  have y1 : w2.heap.size < w4.heap.size := by omega
  have y2 : w.heap.size < w4.heap.size := by omega
  have y3 : w.heap.size + 1 < w4.heap.size := by omega
  have y4 : w.heap.size ≠ w2.heap.size := by omega
  have y5 : w.heap.size + 1 ≠ w2.heap.size := by omega
  have i1 : ∀ p q : Int, -100 ≤ p → p ≤ 100 → -100 ≤ q → q ≤ 100 → IntKind.i64.wrap (p + q) = p + q := fun p q _ _ _ _ => IntWalk.i64_in _ (by omega)
  have hd8 : (-100 ≤ d.1 ∧ d.1 ≤ 100) ∧ (-100 ≤ d.2 ∧ d.2 ≤ 100) := by
    have : d = (0, 1) ∨ d = (1, 0) ∨ d = (2, 0) ∨ d = (1, 1) ∨ d = (3, 0) ∨ d = (-1, 2) ∨ d = (2, 1) ∨ d = (4, -1) := by simpa [wds8] using hdm
    rcases this with rfl | rfl | rfl | rfl | rfl | rfl | rfl | rfl <;> decide
  have j5 := i1 a d.1 (by omega) (by omega) hd8.1.1 hd8.1.2
  have j6 := i1 b d.2 (by omega) (by omega) hd8.2.1 hd8.2.2
  have hBB := hB2.trans hB4
  obtain ⟨d1, d2⟩ := d
  simp only at j5 j6 hA hAB hd8
  clear s0 s1 t00 t01 t10 t11 h00 h10 fr ff i1 hA hAB hg4 hgn hC3 hg24 hB3
  go_region
  all_goals
    go_wp2_with fail
    refine bodyPost_ret (v := .tuple #[.agg #[.int .i64 a, .int .i64 b], .agg #[.int .i64 (a + d1), .int .i64 (b + d2)]]) (by simp [results, Tryd.results66, go_sem, csame, cset, *]) rfl ⟨a, b, (d1, d2), rfl, hab.1, hab.2, hdm, ?_⟩
    (repeat (first | with_reducible exact Below.refl _ _ | assumption | with_reducible refine Qdrew ?_ | with_reducible refine QdrewN ?_ | ((with_reducible refine Qset ?_ ?_); exact (by ((try simp only [World.size_alloc, World.size_setCell, World.size_drew, size_drewN]); (try dsimp only); omega))) | ((with_reducible refine Qalloc ?_ ?_); exact (by ((try simp only [World.size_alloc, World.size_setCell, World.size_drew, size_drewN]); (try dsimp only); omega))) | refine Qtrans (by assumption) (by ((try simp only [World.size_alloc, World.size_setCell, World.size_drew, size_drewN]); (try dsimp only); omega)) ?_))
set_option maxRecDepth 20000 in
set_option maxHeartbeats 1000000 in
theorem MakeWindow_any (B : Nat) (x : Option Addr) (n cap : Nat) (m : Nat) (hm : m ≤ 1000) (w : World) (hB : B ≤ w.heap.size) (hr : RB B w x n) :
    Calls Tryd.prog 22 #[.slice x n cap, .int .i64 m] w fun e w' => ∃ (a b : Int) (d : GP), e = .returned (.tuple #[.agg #[.int .i64 a, .int .i64 b], .agg #[.int .i64 (a + d.1), .int .i64 (b + d.2)]]) ∧ (-3 ≤ a ∧ a ≤ 3) ∧ (-2 ≤ b ∧ b ≤ 2) ∧ d ∈ wds8 ∧ Below w.heap.size w w' := by
  have hbW : Below w.heap.size w ((w.alloc (.cells #[.int .i64 0, .int .i64 0] 44)).alloc (.cells #[.int .i64 0, .int .i64 0] 44)) := ((Below.refl _ w).alloc (Nat.le_refl _) _).alloc (by simp) _
  have hrW := rB_below (rB_mono hr hB) hbW
  have r00 : ((w.alloc (.cells #[.int .i64 0, .int .i64 0] 44)).alloc (.cells #[.int .i64 0, .int .i64 0] 44)).cell? ⟨w.heap.size, 0, none⟩ = some (.int .i64 0) := by simp [go_sem]
  have r01 : ((w.alloc (.cells #[.int .i64 0, .int .i64 0] 44)).alloc (.cells #[.int .i64 0, .int .i64 0] 44)).cell? ⟨w.heap.size, 1, none⟩ = some (.int .i64 0) := by simp [go_sem]
  have r10 : ((w.alloc (.cells #[.int .i64 0, .int .i64 0] 44)).alloc (.cells #[.int .i64 0, .int .i64 0] 44)).cell? ⟨w.heap.size + 1, 0, none⟩ = some (.int .i64 0) := by simp [go_sem]
  have r11 : ((w.alloc (.cells #[.int .i64 0, .int .i64 0] 44)).alloc (.cells #[.int .i64 0, .int .i64 0] 44)).cell? ⟨w.heap.size + 1, 1, none⟩ = some (.int .i64 0) := by simp [go_sem]
  have f0 : ∀ o, ((w.alloc (.cells #[.int .i64 0, .int .i64 0] 44)).alloc (.cells #[.int .i64 0, .int .i64 0] 44)).frozen? ⟨w.heap.size, o, none⟩ = false := fun o => by simp [go_sem]
  have f1 : ∀ o, ((w.alloc (.cells #[.int .i64 0, .int .i64 0] 44)).alloc (.cells #[.int .i64 0, .int .i64 0] 44)).frozen? ⟨w.heap.size + 1, o, none⟩ = false := fun o => by simp [go_sem]
  have hsz : ((w.alloc (.cells #[.int .i64 0, .int .i64 0] 44)).alloc (.cells #[.int .i64 0, .int .i64 0] 44)).heap.size = w.heap.size + 2 := by simp
  have hC1 := l31New_any w.heap.size x n cap m hm _ (by omega) hrW
  clear hr
  go_enter Tryd.func22, Tryd.ntmps22
  go_wp2_with (first | (go_at_call 54; refine hC1.mono ?_; rintro e w1 ⟨g, rfl, hg, hc1, hb1⟩; have hz1 := hb1.size) | (go_at_call 66; refine (l15Window_any (w.heap.size + 2) g x n cap w1 (by omega) (rB_mono (rB_below hrW (hb1.mono (by omega))) (by omega)) hc1).mono ?_; rintro e w2 ⟨a, b, d, rfl, ha, hb, hd, hb2⟩; have k00 := (hb2.cell (p := ⟨w.heap.size, 0, none⟩) (by (show w.heap.size < _; omega))).trans ((hb1.cell (p := ⟨w.heap.size, 0, none⟩) (by (show w.heap.size < _; omega))).trans r00); have k01 := (hb2.cell (p := ⟨w.heap.size, 1, none⟩) (by (show w.heap.size < _; omega))).trans ((hb1.cell (p := ⟨w.heap.size, 1, none⟩) (by (show w.heap.size < _; omega))).trans r01); have k10 := (hb2.cell (p := ⟨w.heap.size + 1, 0, none⟩) (by (show w.heap.size + 1 < _; omega))).trans ((hb1.cell (p := ⟨w.heap.size + 1, 0, none⟩) (by (show w.heap.size + 1 < _; omega))).trans r10); have k11 := (hb2.cell (p := ⟨w.heap.size + 1, 1, none⟩) (by (show w.heap.size + 1 < _; omega))).trans ((hb1.cell (p := ⟨w.heap.size + 1, 1, none⟩) (by (show w.heap.size + 1 < _; omega))).trans r11); have l0 := fun o => (hb2.frozen (p := ⟨w.heap.size, o, none⟩) (by (show w.heap.size < _; omega))).trans ((hb1.frozen (p := ⟨w.heap.size, o, none⟩) (by (show w.heap.size < _; omega))).trans (f0 o)); have l1 := fun o => (hb2.frozen (p := ⟨w.heap.size + 1, o, none⟩) (by (show w.heap.size + 1 < _; omega))).trans ((hb1.frozen (p := ⟨w.heap.size + 1, o, none⟩) (by (show w.heap.size + 1 < _; omega))).trans (f1 o))))
  have hBB : Below w.heap.size w w2 := (hbW.trans (hb1.mono (by omega))).trans (hb2.mono (by omega))
  refine bodyPost_ret (v := .tuple #[.agg #[.int .i64 a, .int .i64 b], .agg #[.int .i64 (a + d.1), .int .i64 (b + d.2)]]) (by simp [results, Tryd.results22, go_sem, csame, cset, *]) rfl ⟨a, b, d, rfl, ha, hb, hd, ?_⟩
  (repeat (first | with_reducible exact Below.refl _ _ | assumption | with_reducible refine Qdrew ?_ | with_reducible refine QdrewN ?_ | ((with_reducible refine Qset ?_ ?_); exact (by ((try simp only [World.size_alloc, World.size_setCell, World.size_drew, size_drewN]); (try dsimp only); omega))) | ((with_reducible refine Qalloc ?_ ?_); exact (by ((try simp only [World.size_alloc, World.size_setCell, World.size_drew, size_drewN]); (try dsimp only); omega))) | refine Qtrans (by assumption) (by ((try simp only [World.size_alloc, World.size_setCell, World.size_drew, size_drewN]); (try dsimp only); omega)) ?_))
end Go.Proofs.YtilbhingfnjppaaDoor
