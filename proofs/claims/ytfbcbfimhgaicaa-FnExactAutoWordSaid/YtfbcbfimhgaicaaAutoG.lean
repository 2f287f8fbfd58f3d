/- The letters of an automaton: one, and the first ones. -/
import Derived.Test.YtfbcbfimhgaicaaAutoE
import Derived.Test.YtfbcbfimhgaicaaAutoF
set_option linter.unusedSimpArgs false
set_option linter.unusedVariables false
namespace Go.Proofs.Ytfbcbfimhgaicaa
open Go.RowKit
/-- The letter at a place, as a byte. -/
def lb (o : ByteArray) (k : Nat) : UInt8 := UInt8.ofNat (bt o k).toNat
def ltr (o : ByteArray) (k : Nat) : ByteArray := ⟨#[lb o k]⟩
theorem lb_bt (o : ByteArray) (k : Nat) : ((lb o k).toNat : Int) = bt o k := by
  have := bt_range o k
  unfold lb
  rw [UInt8.toNat_ofNat_of_lt' (by show _ < 256; omega)]; omega
theorem lb_at {o : ByteArray} {k : Nat} (h : k < o.size) : lb o k = o[k] := by
  have h1 := lb_bt o k
  rw [← bt_eq o k h] at h1
  exact UInt8.toNat_inj.1 (by omega)
theorem ltr_extract {o : ByteArray} {k : Nat} (h : k < o.size) : o.extract k (k + 1) = ltr o k := by
  have h' : k < o.data.size := h
  apply ByteArray.ext
  rw [ByteArray.data_extract, ltr, lb_at h]
  apply Array.ext
  · simp; omega
  · intro i h1 h2
    simp at h2
    subst h2
    simp [Array.getElem_extract]
    rfl
theorem enc_letter {z : Int} (h1 : 97 ≤ z) (h2 : z ≤ 100) : Utf8.encode z = ⟨#[UInt8.ofNat z.toNat]⟩ := by
  have : z = 97 ∨ z = 98 ∨ z = 99 ∨ z = 100 := by omega
  rcases this with rfl | rfl | rfl | rfl <;> decide
theorem enc_ltr {o : ByteArray} {k : Nat} (h : inL o k) : Utf8.encode (bt o k) = ltr o k := enc_letter h.1 h.2
theorem au_letter {b : Int} {n : Nat} {Z : Nat → List Int} {o : ByteArray} (hau : auP b n Z o) {s : Nat} (h : s < n) : s < o.size ∧ inL o s := by
  have h1 := hau.2.2.1
  exact ⟨by omega, hau.2.2.2.1.2 s (by omega)⟩
set_option maxHeartbeats 1000000 in
theorem letter_any (d : Nat) (x : Option Addr) (n cap : Nat) (Z : Nat → List Int) (o : ByteArray) (hau : auP (d : Int) n Z o) (m : Nat) (hm : m ≤ 1000000000) (w : World) (h : IsMat w x n Z) :
    Calls Try.prog 61 #[(Value.agg #[.int .i64 d, .slice x n cap, .string o]), .int .i64 m] w fun e w' => e = .returned (.int .u8 (bt o (ed d Z m))) ∧ Below w.heap.size w w' := by
  have hE := fun (w' : World) (q : IsMat w' x n Z) => end_any d x n cap Z o hau m hm w' q
  obtain ⟨h1, h2⟩ := au_letter hau (ed_lt hau m)
  obtain ⟨s, hs⟩ : ∃ s, ed d Z m = s := ⟨_, rfl⟩
  rw [hs] at hE
  rw [hs] at h1
  rw [hs]
  have hs0 : (0 : Int) ≤ (s : Int) := by omega
  have hs1 : (s : Int) < (o.size : Int) := by omega
  have hb : ∀ j (h : j < o.size), ((o[j]'h).toNat : Int) = bt o j := fun j h => bt_eq o j h
  have hE2 := hE ((w.alloc (Obj.cells #[.int .i64 d, .slice x n cap, .string o] 27)).drew) (isMat_below h (Nat.le_refl _) (by (repeat (first | with_reducible exact Below.refl _ _ | assumption | with_reducible refine Qdrew ?_ | with_reducible refine QdrewN ?_ | ((with_reducible refine Qset ?_ ?_); exact (by ((try simp only [World.size_alloc, World.size_setCell, World.size_drew, size_drewN]); (try dsimp only); omega))) | ((with_reducible refine Qalloc ?_ ?_); exact (by ((try simp only [World.size_alloc, World.size_setCell, World.size_drew, size_drewN]); (try dsimp only); omega))) | refine Qtrans (by assumption) (by ((try simp only [World.size_alloc, World.size_setCell, World.size_drew, size_drewN]); (try dsimp only); omega)) ?_))))
  clear hE hau hs hm h2 h
  go_enter Try.func61, Try.ntmps61
  go_wp2_with fail
  go_region_held3 (fun wx => (∀ bk ofs, bk < w.heap.size + 1 → wx.cell? ⟨bk, ofs, none⟩ = ((w.alloc (Obj.cells #[.int .i64 d, .slice x n cap, .string o] 27))).cell? ⟨bk, ofs, none⟩) ∧ Below (w.heap.size + 1) ((w.alloc (Obj.cells #[.int .i64 d, .slice x n cap, .string o] 27))) wx) ((refine stays ?_; ((repeat (first | with_reducible exact Below.refl _ _ | assumption | with_reducible refine Qdrew ?_ | with_reducible refine QdrewN ?_ | ((with_reducible refine Qset ?_ ?_); exact (by ((try simp only [World.size_alloc, World.size_setCell, World.size_drew, size_drewN]); (try dsimp only); omega))) | ((with_reducible refine Qalloc ?_ ?_); exact (by ((try simp only [World.size_alloc, World.size_setCell, World.size_drew, size_drewN]); (try dsimp only); omega))) | refine Qtrans (by assumption) (by ((try simp only [World.size_alloc, World.size_setCell, World.size_drew, size_drewN]); (try dsimp only); omega)) ?_)) <;> (go_split_ands; assumption)))) (first | (go_at_call 100; refine (hE2).mono ?_; rintro e w1 ⟨rfl, hb1⟩; have hz1 := hb1.size; (try simp at hz1); obtain ⟨hc1, hf1⟩ := bcellK (w := w) 1 hb1 (by ((try simp only [World.size_alloc, World.size_setCell, World.size_drew, size_drewN]); (try dsimp only); omega)); have hl1 := ltK (n := w.heap.size) (p := 1) (w1 := w1) (by omega); (try (have tk1 := trackAlloc hb1 (by ((try simp only [World.size_alloc, World.size_setCell, World.size_drew, size_drewN]); (try dsimp only); omega)); try simp only [World.size_alloc, World.size_drew] at tk1)); (try (have tk2 := trackAllocD hb1 (by ((try simp only [World.size_alloc, World.size_setCell, World.size_drew, size_drewN]); (try dsimp only); omega)); try simp only [World.size_alloc, World.size_drew] at tk2)); (try have tk3 := trackNext hb1 (by assumption) (by ((try simp only [World.size_alloc, World.size_setCell, World.size_drew, size_drewN]); (try dsimp only); omega)))))
  all_goals go_wp2
  all_goals go_ret
  all_goals exact ⟨by first | rfl | simp [*], by (repeat (first | with_reducible exact Below.refl _ _ | assumption | with_reducible refine Qdrew ?_ | with_reducible refine QdrewN ?_ | ((with_reducible refine Qset ?_ ?_); exact (by ((try simp only [World.size_alloc, World.size_setCell, World.size_drew, size_drewN]); (try dsimp only); omega))) | ((with_reducible refine Qalloc ?_ ?_); exact (by ((try simp only [World.size_alloc, World.size_setCell, World.size_drew, size_drewN]); (try dsimp only); omega))) | refine Qtrans (by assumption) (by ((try simp only [World.size_alloc, World.size_setCell, World.size_drew, size_drewN]); (try dsimp only); omega)) ?_))⟩
set_option maxHeartbeats 1000000 in
theorem l18Letter_any (d : Nat) (x : Option Addr) (n cap : Nat) (Z : Nat → List Int) (o : ByteArray) (hau : auP (d : Int) n Z o) (m : Nat) (hm : m ≤ 1000000000) (w : World) (h : IsMat w x n Z) :
    Calls Try.prog 60 #[(Value.agg #[.int .i64 d, .slice x n cap, .string o]), .int .i64 m] w fun e w' => e = .returned (.string (ltr o (ed d Z m))) ∧ Below w.heap.size w w' := by
  have hE := fun (w' : World) (q : IsMat w' x n Z) => l18Run_any d x n cap Z o hau m hm w' q
  obtain ⟨h1, h2⟩ := au_letter hau (ed_lt hau m)
  have hso : o.size ≤ 8 := by have := hau.2.1; have := hau.2.2.1; omega
  obtain ⟨s, hs⟩ : ∃ s, ed d Z m = s := ⟨_, rfl⟩
  rw [hs] at hE
  rw [hs] at h1
  rw [hs]
  have hs0 : (0 : Int) ≤ (s : Int) := by omega
  have hs1 : (s : Int) ≤ (s : Int) + 1 := by omega
  have hs2 : (s : Int) + 1 ≤ (o.size : Int) := by omega
  have hso' : (o.size : Int) ≤ 8 := by omega
  have hx := Lib.hid (ltr_extract h1)
  have hE2 := hE (w.alloc (Obj.cells #[.int .i64 d, .slice x n cap, .string o] 27)) (isMat_below h (Nat.le_refl _) (by (repeat (first | with_reducible exact Below.refl _ _ | assumption | with_reducible refine Qdrew ?_ | with_reducible refine QdrewN ?_ | ((with_reducible refine Qset ?_ ?_); exact (by ((try simp only [World.size_alloc, World.size_setCell, World.size_drew, size_drewN]); (try dsimp only); omega))) | ((with_reducible refine Qalloc ?_ ?_); exact (by ((try simp only [World.size_alloc, World.size_setCell, World.size_drew, size_drewN]); (try dsimp only); omega))) | refine Qtrans (by assumption) (by ((try simp only [World.size_alloc, World.size_setCell, World.size_drew, size_drewN]); (try dsimp only); omega)) ?_))))
  clear hE hau hs hm h2 h
  go_enter Try.func60, Try.ntmps60
  go_wp2_with (first | (go_at_call 99; refine (hE2).mono ?_; rintro e w1 ⟨rfl, hb1⟩; have hz1 := hb1.size; (try simp at hz1); obtain ⟨hc1, hf1⟩ := bcellK (w := w) 1 hb1 (by ((try simp only [World.size_alloc, World.size_setCell, World.size_drew, size_drewN]); (try dsimp only); omega)); have hl1 := ltK (n := w.heap.size) (p := 1) (w1 := w1) (by omega); (try (have tk1 := trackAlloc hb1 (by ((try simp only [World.size_alloc, World.size_setCell, World.size_drew, size_drewN]); (try dsimp only); omega)); try simp only [World.size_alloc, World.size_drew] at tk1)); (try (have tk2 := trackAllocD hb1 (by ((try simp only [World.size_alloc, World.size_setCell, World.size_drew, size_drewN]); (try dsimp only); omega)); try simp only [World.size_alloc, World.size_drew] at tk2)); (try have tk3 := trackNext hb1 (by assumption) (by ((try simp only [World.size_alloc, World.size_setCell, World.size_drew, size_drewN]); (try dsimp only); omega)))))
  go_ret
  exact ⟨by rw [← hx.out]; rfl, by (repeat (first | with_reducible exact Below.refl _ _ | assumption | with_reducible refine Qdrew ?_ | with_reducible refine QdrewN ?_ | ((with_reducible refine Qset ?_ ?_); exact (by ((try simp only [World.size_alloc, World.size_setCell, World.size_drew, size_drewN]); (try dsimp only); omega))) | ((with_reducible refine Qalloc ?_ ?_); exact (by ((try simp only [World.size_alloc, World.size_setCell, World.size_drew, size_drewN]); (try dsimp only); omega))) | refine Qtrans (by assumption) (by ((try simp only [World.size_alloc, World.size_setCell, World.size_drew, size_drewN]); (try dsimp only); omega)) ?_))⟩
end Go.Proofs.Ytfbcbfimhgaicaa
