/- Running an automaton: the implementation's way. -/
import Derived.Test.YtfbcbfimhgaicaaAutoD
import Derived.Deep.RegionHeld3
set_option linter.unusedSimpArgs false
set_option linter.unusedVariables false
namespace Go.Proofs.Ytfbcbfimhgaicaa
open Go.RowKit
set_option maxHeartbeats 1000000 in
set_option maxRecDepth 100000 in
theorem end_any (d : Nat) (x : Option Addr) (n cap : Nat) (Z : Nat → List Int) (o : ByteArray) (hau : auP (d : Int) n Z o) : ∀ (m : Nat), m ≤ 1000000000 → ∀ (w : World), IsMat w x n Z →
    Calls Try.prog 100 #[(Value.agg #[.int .i64 d, .slice x n cap, .string o]), .int .i64 m] w fun e w' => e = .returned (.int .i64 (ed d Z m : Nat)) ∧ Below w.heap.size w w' := by
  intro m
  induction m using Nat.strongRecOn with
  | _ m ih =>
    intro hm9 w h
    have hd2 : 2 ≤ d ∧ d ≤ 4 := by have := hau.1; omega
    by_cases h0 : m = 0
    · subst h0
      have he := Lib.hid (ed_zero d Z)
      go_enter Try.func100, Try.ntmps100
      go_wp2
      go_ret
      exact ⟨by rw [he.out]; rfl, by (repeat (first | with_reducible exact Below.refl _ _ | assumption | with_reducible refine Qdrew ?_ | with_reducible refine QdrewN ?_ | ((with_reducible refine Qset ?_ ?_); exact (by ((try simp only [World.size_alloc, World.size_setCell, World.size_drew, size_drewN]); (try dsimp only); omega))) | ((with_reducible refine Qalloc ?_ ?_); exact (by ((try simp only [World.size_alloc, World.size_setCell, World.size_drew, size_drewN]); (try dsimp only); omega))) | refine Qtrans (by assumption) (by ((try simp only [World.size_alloc, World.size_setCell, World.size_drew, size_drewN]); (try dsimp only); omega)) ?_))⟩
    · have hne : ¬ (m : Int) = 0 := by omega
      have hq1 := tdivN m d
      have hr1 := tmodN m d
      have hql : m / d < m := Nat.div_lt_self (by omega) (by omega)
      have hIH := fun (w' : World) (q : IsMat w' x n Z) => ih (m / d) hql (by omega) w' q
      obtain ⟨hrl, hz⟩ := ed_cell hau h0
      have hsl := ed_lt hau (m / d)
      obtain ⟨t, ht⟩ : ∃ t, ed d Z m = t := ⟨_, rfl⟩
      obtain ⟨q, hq⟩ : ∃ q, m / d = q := ⟨_, rfl⟩
      obtain ⟨r, hr⟩ : ∃ r, m % d = r := ⟨_, rfl⟩
      rw [hq] at hq1 hIH hrl hz hsl hql
      rw [hr] at hr1 hrl hz
      obtain ⟨s, hs⟩ : ∃ s, ed d Z q = s := ⟨_, rfl⟩
      rw [hs] at hIH hrl hz hsl
      rw [ht] at hz
      obtain ⟨b, off, y, c, rfl, hb, hck, hri⟩ := isMat_row h hsl
      obtain ⟨b2, off2, rfl, hb2, hc2⟩ := rI_cell hri (by omega)
      have hcr := hc2 r hrl
      rw [hz] at hcr
      obtain ⟨len, hlen⟩ : ∃ len, (Z s).length = len := ⟨_, rfl⟩
      rw [hlen] at hck hrl
      have hIH2 := hIH ((w.alloc (Obj.cells #[.int .i64 d, .slice (some ⟨b, off, none⟩) n cap, .string o] 27)).drew) (isMat_below h (Nat.le_refl _) (by (repeat (first | with_reducible exact Below.refl _ _ | assumption | with_reducible refine Qdrew ?_ | with_reducible refine QdrewN ?_ | ((with_reducible refine Qset ?_ ?_); exact (by ((try simp only [World.size_alloc, World.size_setCell, World.size_drew, size_drewN]); (try dsimp only); omega))) | ((with_reducible refine Qalloc ?_ ?_); exact (by ((try simp only [World.size_alloc, World.size_setCell, World.size_drew, size_drewN]); (try dsimp only); omega))) | refine Qtrans (by assumption) (by ((try simp only [World.size_alloc, World.size_setCell, World.size_drew, size_drewN]); (try dsimp only); omega)) ?_))))
      have hs0 : (0 : Int) ≤ (s : Int) := by omega
      have hs1 : (s : Int) < (n : Int) := by omega
      have hr0 : (0 : Int) ≤ (r : Int) := by omega
      have hrl1 : (r : Int) < (len : Int) := by omega
      have hd0 : (d : Int) ≠ 0 := by omega
      have hdn : ¬ d = 0 := by omega
      have hwq : IntKind.i64.wrap (q : Int) = q := IntWalk.i64_in _ (by omega)
      have hdm : (d : Int) ≠ -1 := by omega
      have hbK : b < w.heap.size + 1 := by omega
      have hb2K : b2 < w.heap.size + 1 := by omega
      have hti : Hid (ed d Z m = t) := Lib.hid ht
      clear hIH ih hau h hri hc2 hlen hs hq hr ht hz hm9 h0 hql
      go_enter Try.func100, Try.ntmps100
      go_wp2_with fail
      go_region_held3 (fun wx => (∀ bk ofs, bk < w.heap.size + 1 → wx.cell? ⟨bk, ofs, none⟩ = ((w.alloc (Obj.cells #[.int .i64 d, .slice (some ⟨b, off, none⟩) n cap, .string o] 27))).cell? ⟨bk, ofs, none⟩) ∧ Below (w.heap.size + 1) ((w.alloc (Obj.cells #[.int .i64 d, .slice (some ⟨b, off, none⟩) n cap, .string o] 27))) wx) ((refine stays ?_; ((repeat (first | with_reducible exact Below.refl _ _ | assumption | with_reducible refine Qdrew ?_ | with_reducible refine QdrewN ?_ | ((with_reducible refine Qset ?_ ?_); exact (by ((try simp only [World.size_alloc, World.size_setCell, World.size_drew, size_drewN]); (try dsimp only); omega))) | ((with_reducible refine Qalloc ?_ ?_); exact (by ((try simp only [World.size_alloc, World.size_setCell, World.size_drew, size_drewN]); (try dsimp only); omega))) | refine Qtrans (by assumption) (by ((try simp only [World.size_alloc, World.size_setCell, World.size_drew, size_drewN]); (try dsimp only); omega)) ?_)) <;> (go_split_ands; assumption)))) (first | (go_at_call 100; refine (hIH2).mono ?_; rintro e w1 ⟨rfl, hb1⟩; have hz1 := hb1.size; (try simp at hz1); obtain ⟨hc1, hf1⟩ := bcellK (w := w) 1 hb1 (by ((try simp only [World.size_alloc, World.size_setCell, World.size_drew, size_drewN]); (try dsimp only); omega)); have hl1 := ltK (n := w.heap.size) (p := 1) (w1 := w1) (by omega); (try (have tk1 := trackAlloc hb1 (by ((try simp only [World.size_alloc, World.size_setCell, World.size_drew, size_drewN]); (try dsimp only); omega)); try simp only [World.size_alloc, World.size_drew] at tk1)); (try (have tk2 := trackAllocD hb1 (by ((try simp only [World.size_alloc, World.size_setCell, World.size_drew, size_drewN]); (try dsimp only); omega)); try simp only [World.size_alloc, World.size_drew] at tk2)); (try have tk3 := trackNext hb1 (by assumption) (by ((try simp only [World.size_alloc, World.size_setCell, World.size_drew, size_drewN]); (try dsimp only); omega)))))
      all_goals go_wp2
      all_goals go_ret
      all_goals exact ⟨by rw [hti.out]; rfl, by (repeat (first | with_reducible exact Below.refl _ _ | assumption | with_reducible refine Qdrew ?_ | with_reducible refine QdrewN ?_ | ((with_reducible refine Qset ?_ ?_); exact (by ((try simp only [World.size_alloc, World.size_setCell, World.size_drew, size_drewN]); (try dsimp only); omega))) | ((with_reducible refine Qalloc ?_ ?_); exact (by ((try simp only [World.size_alloc, World.size_setCell, World.size_drew, size_drewN]); (try dsimp only); omega))) | refine Qtrans (by assumption) (by ((try simp only [World.size_alloc, World.size_setCell, World.size_drew, size_drewN]); (try dsimp only); omega)) ?_))⟩
end Go.Proofs.Ytfbcbfimhgaicaa
