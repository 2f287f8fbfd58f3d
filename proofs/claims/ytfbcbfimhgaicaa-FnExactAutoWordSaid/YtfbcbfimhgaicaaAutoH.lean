/- Running an automaton: the two calls. -/
import Derived.Test.YtfbcbfimhgaicaaAutoG
set_option linter.unusedSimpArgs false
set_option linter.unusedVariables false
namespace Go.Proofs.Ytfbcbfimhgaicaa
open Go.RowKit
noncomputable def raB (b : Int) (n : Nat) (Z : Nat → List Int) (o : ByteArray) (m : Int) (hi : Int) : Bool := auB b n Z o && inB m 0 hi
noncomputable def raS (b : Int) (n : Nat) (Z : Nat → List Int) (o : ByteArray) (m : Int) : ByteArray := if raB b n Z o m 1000000000 then ltr o (ed b.toNat Z m.toNat) else ⟨#[]⟩
set_option maxHeartbeats 2000000 in
theorem specRun_any (b : Int) (x : Option Addr) (n cap : Nat) (Z : Nat → List Int) (o : ByteArray) (m : Int) (w : World) (h : IsMat w x n Z) (hn : n ≤ 1048576) (ho : o.size ≤ 1048576) (hZ : ∀ r, r < n → (Z r).length ≤ 1048576) :
    Calls Try.prog 20 #[(Value.agg #[.int .i64 b, .slice x n cap, .string o]), .int .i64 m] w fun e w' => e = .returned (.tuple #[.string (raS b n Z o m), .bool (raB b n Z o m 1000000000)]) ∧ Below w.heap.size w w' := by
  have h0 := isMat_below h (Nat.le_refl _) ((Below.refl _ w).alloc (Nat.le_refl _) (Obj.cells #[.int .i64 b, .slice x n cap, .string o] 27))
  cases hA : auB b n Z o
  · have hf : Hid (raS b n Z o m = ⟨#[]⟩ ∧ raB b n Z o m 1000000000 = false) := Lib.hid (by simp [raS, raB, hA])
    go_enter Try.func20, Try.ntmps20
    go_wp2_with (first | (go_at_call 16; refine (specAutoOk_any _ _ _ _ _ _ _ h0 hn ho hZ).mono ?_; rintro e w1 ⟨rfl, hb1⟩; have hz1 := hb1.size) | (go_at_call 54; refine (l01In_any _ _ _ _).mono ?_; rintro e w1 ⟨rfl, rfl⟩))
    go_ret2
    exact ⟨by rw [hf.out.1, hf.out.2]; rfl, by (repeat (first | with_reducible exact Below.refl _ _ | assumption | with_reducible refine Qdrew ?_ | with_reducible refine QdrewN ?_ | ((with_reducible refine Qset ?_ ?_); exact (by ((try simp only [World.size_alloc, World.size_setCell, World.size_drew, size_drewN]); (try dsimp only); omega))) | ((with_reducible refine Qalloc ?_ ?_); exact (by ((try simp only [World.size_alloc, World.size_setCell, World.size_drew, size_drewN]); (try dsimp only); omega))) | refine Qtrans (by assumption) (by ((try simp only [World.size_alloc, World.size_setCell, World.size_drew, size_drewN]); (try dsimp only); omega)) ?_))⟩
  · cases hI : inB m 0 1000000000
    · have hf : Hid (raS b n Z o m = ⟨#[]⟩ ∧ raB b n Z o m 1000000000 = false) := Lib.hid (by simp [raS, raB, hI])
      go_enter Try.func20, Try.ntmps20
      go_wp2_with (first | (go_at_call 16; refine (specAutoOk_any _ _ _ _ _ _ _ h0 hn ho hZ).mono ?_; rintro e w1 ⟨rfl, hb1⟩; have hz1 := hb1.size) | (go_at_call 54; refine (l01In_any _ _ _ _).mono ?_; rintro e w1 ⟨rfl, rfl⟩))
      go_ret2
      exact ⟨by rw [hf.out.1, hf.out.2]; rfl, by (repeat (first | with_reducible exact Below.refl _ _ | assumption | with_reducible refine Qdrew ?_ | with_reducible refine QdrewN ?_ | ((with_reducible refine Qset ?_ ?_); exact (by ((try simp only [World.size_alloc, World.size_setCell, World.size_drew, size_drewN]); (try dsimp only); omega))) | ((with_reducible refine Qalloc ?_ ?_); exact (by ((try simp only [World.size_alloc, World.size_setCell, World.size_drew, size_drewN]); (try dsimp only); omega))) | refine Qtrans (by assumption) (by ((try simp only [World.size_alloc, World.size_setCell, World.size_drew, size_drewN]); (try dsimp only); omega)) ?_))⟩
    · have hau := au_of hA
      have hm := inB_true.1 hI
      obtain ⟨d, rfl⟩ : ∃ d : Nat, b = d := ⟨b.toNat, by have := hau.1; omega⟩
      obtain ⟨m, rfl⟩ : ∃ k : Nat, m = k := ⟨m.toNat, by omega⟩
      have hf : Hid (raS d n Z o m = ltr o (ed d Z m) ∧ raB d n Z o m 1000000000 = true) := Lib.hid (by simp [raS, raB, hA, hI])
      obtain ⟨q1, q2⟩ := au_letter hau (ed_lt hau m)
      have hl1 := q2.1
      have hl2 := q2.2
      have hen := enc_ltr q2
      have hC := fun (c : Nat) (w' : World) (q : IsMat w' x n Z) => l18Letter_any d x n c Z o hau m (by omega) w' q
      obtain ⟨s, hs⟩ : ∃ s, ed d Z m = s := ⟨_, rfl⟩
      rw [hs] at hC hen hf
      rw [hs] at hl1 hl2
      obtain ⟨z, hz⟩ : ∃ z, bt o s = z := ⟨_, rfl⟩
      (try rw [hz] at hC)
      rw [hz] at hen hl1 hl2
      have hen' := Lib.hid hen
      clear hz hs q1 q2 hau hm hen
      go_enter Try.func20, Try.ntmps20
      go_wp2_with (first | ((go_at_call 16; refine (specAutoOk_any _ _ _ _ _ _ _ h0 hn ho hZ).mono ?_; rintro e w1 ⟨rfl, hb1⟩; have hz1 := hb1.size; (try simp at hz1); obtain ⟨hc1, hf1⟩ := bcellK (w := w) 1 hb1 (by ((try simp only [World.size_alloc, World.size_setCell, World.size_drew, size_drewN]); (try dsimp only); omega)); have hl1 := ltK (n := w.heap.size) (p := 1) (w1 := w1) (by omega); (try (have tk1 := trackAlloc hb1 (by ((try simp only [World.size_alloc, World.size_setCell, World.size_drew, size_drewN]); (try dsimp only); omega)); try simp only [World.size_alloc, World.size_drew] at tk1)); (try (have tk2 := trackAllocD hb1 (by ((try simp only [World.size_alloc, World.size_setCell, World.size_drew, size_drewN]); (try dsimp only); omega)); try simp only [World.size_alloc, World.size_drew] at tk2)); (try have tk3 := trackNext hb1 (by assumption) (by ((try simp only [World.size_alloc, World.size_setCell, World.size_drew, size_drewN]); (try dsimp only); omega)))); have h1 := isMat_below h0 (Nat.le_refl _) hb1) | (go_at_call 54; refine (l01In_any _ _ _ _).mono ?_; rintro e w1 ⟨rfl, rfl⟩) | (go_at_call 60; refine (hC _ _ h1).mono ?_; rintro e w2 ⟨rfl, hb2⟩))
      go_ret2
      exact ⟨by rw [hf.out.1, hf.out.2, ← hen'.out]; rfl, by (repeat (first | with_reducible exact Below.refl _ _ | assumption | with_reducible refine Qdrew ?_ | with_reducible refine QdrewN ?_ | ((with_reducible refine Qset ?_ ?_); exact (by ((try simp only [World.size_alloc, World.size_setCell, World.size_drew, size_drewN]); (try dsimp only); omega))) | ((with_reducible refine Qalloc ?_ ?_); exact (by ((try simp only [World.size_alloc, World.size_setCell, World.size_drew, size_drewN]); (try dsimp only); omega))) | refine Qtrans (by assumption) (by ((try simp only [World.size_alloc, World.size_setCell, World.size_drew, size_drewN]); (try dsimp only); omega)) ?_))⟩
set_option maxHeartbeats 2000000 in
theorem implRun_any (b : Int) (x : Option Addr) (n cap : Nat) (Z : Nat → List Int) (o : ByteArray) (m : Int) (w : World) (h : IsMat w x n Z) (hn : n ≤ 1048576) (ho : o.size ≤ 1048576) (hZ : ∀ r, r < n → (Z r).length ≤ 1048576) :
    Calls Try.prog 21 #[(Value.agg #[.int .i64 b, .slice x n cap, .string o]), .int .i64 m] w fun e w' => e = .returned (.tuple #[.string (raS b n Z o m), .bool (raB b n Z o m 1000000000)]) ∧ Below w.heap.size w w' := by
  have h0 := isMat_below h (Nat.le_refl _) ((Below.refl _ w).alloc (Nat.le_refl _) (Obj.cells #[.int .i64 b, .slice x n cap, .string o] 27))
  cases hA : auB b n Z o
  · have hf : Hid (raS b n Z o m = ⟨#[]⟩ ∧ raB b n Z o m 1000000000 = false) := Lib.hid (by simp [raS, raB, hA])
    go_enter Try.func21, Try.ntmps21
    go_wp2_with (first | (go_at_call 18; refine (implAutoOk_any _ _ _ _ _ _ _ h0 hn ho hZ).mono ?_; rintro e w1 ⟨rfl, hb1⟩; have hz1 := hb1.size) | (go_at_call 57; refine (within_any _ _ _ _).mono ?_; rintro e w1 ⟨rfl, rfl⟩))
    go_ret2
    exact ⟨by rw [hf.out.1, hf.out.2]; rfl, by (repeat (first | with_reducible exact Below.refl _ _ | assumption | with_reducible refine Qdrew ?_ | with_reducible refine QdrewN ?_ | ((with_reducible refine Qset ?_ ?_); exact (by ((try simp only [World.size_alloc, World.size_setCell, World.size_drew, size_drewN]); (try dsimp only); omega))) | ((with_reducible refine Qalloc ?_ ?_); exact (by ((try simp only [World.size_alloc, World.size_setCell, World.size_drew, size_drewN]); (try dsimp only); omega))) | refine Qtrans (by assumption) (by ((try simp only [World.size_alloc, World.size_setCell, World.size_drew, size_drewN]); (try dsimp only); omega)) ?_))⟩
  · cases hI : inB m 0 1000000000
    · have hf : Hid (raS b n Z o m = ⟨#[]⟩ ∧ raB b n Z o m 1000000000 = false) := Lib.hid (by simp [raS, raB, hI])
      go_enter Try.func21, Try.ntmps21
      go_wp2_with (first | (go_at_call 18; refine (implAutoOk_any _ _ _ _ _ _ _ h0 hn ho hZ).mono ?_; rintro e w1 ⟨rfl, hb1⟩; have hz1 := hb1.size) | (go_at_call 57; refine (within_any _ _ _ _).mono ?_; rintro e w1 ⟨rfl, rfl⟩))
      go_ret2
      exact ⟨by rw [hf.out.1, hf.out.2]; rfl, by (repeat (first | with_reducible exact Below.refl _ _ | assumption | with_reducible refine Qdrew ?_ | with_reducible refine QdrewN ?_ | ((with_reducible refine Qset ?_ ?_); exact (by ((try simp only [World.size_alloc, World.size_setCell, World.size_drew, size_drewN]); (try dsimp only); omega))) | ((with_reducible refine Qalloc ?_ ?_); exact (by ((try simp only [World.size_alloc, World.size_setCell, World.size_drew, size_drewN]); (try dsimp only); omega))) | refine Qtrans (by assumption) (by ((try simp only [World.size_alloc, World.size_setCell, World.size_drew, size_drewN]); (try dsimp only); omega)) ?_))⟩
    · have hau := au_of hA
      have hm := inB_true.1 hI
      obtain ⟨d, rfl⟩ : ∃ d : Nat, b = d := ⟨b.toNat, by have := hau.1; omega⟩
      obtain ⟨m, rfl⟩ : ∃ k : Nat, m = k := ⟨m.toNat, by omega⟩
      have hf : Hid (raS d n Z o m = ltr o (ed d Z m) ∧ raB d n Z o m 1000000000 = true) := Lib.hid (by simp [raS, raB, hA, hI])
      obtain ⟨q1, q2⟩ := au_letter hau (ed_lt hau m)
      have hl1 := q2.1
      have hl2 := q2.2
      have hen := enc_ltr q2
      have hC := fun (c : Nat) (w' : World) (q : IsMat w' x n Z) => letter_any d x n c Z o hau m (by omega) w' q
      obtain ⟨s, hs⟩ : ∃ s, ed d Z m = s := ⟨_, rfl⟩
      rw [hs] at hC hen hf
      rw [hs] at hl1 hl2
      obtain ⟨z, hz⟩ : ∃ z, bt o s = z := ⟨_, rfl⟩
      (try rw [hz] at hC)
      rw [hz] at hen hl1 hl2
      have hen' := Lib.hid hen
      clear hz hs q1 q2 hau hm hen
      go_enter Try.func21, Try.ntmps21
      go_wp2_with (first | ((go_at_call 18; refine (implAutoOk_any _ _ _ _ _ _ _ h0 hn ho hZ).mono ?_; rintro e w1 ⟨rfl, hb1⟩; have hz1 := hb1.size; (try simp at hz1); obtain ⟨hc1, hf1⟩ := bcellK (w := w) 1 hb1 (by ((try simp only [World.size_alloc, World.size_setCell, World.size_drew, size_drewN]); (try dsimp only); omega)); have hl1 := ltK (n := w.heap.size) (p := 1) (w1 := w1) (by omega); (try (have tk1 := trackAlloc hb1 (by ((try simp only [World.size_alloc, World.size_setCell, World.size_drew, size_drewN]); (try dsimp only); omega)); try simp only [World.size_alloc, World.size_drew] at tk1)); (try (have tk2 := trackAllocD hb1 (by ((try simp only [World.size_alloc, World.size_setCell, World.size_drew, size_drewN]); (try dsimp only); omega)); try simp only [World.size_alloc, World.size_drew] at tk2)); (try have tk3 := trackNext hb1 (by assumption) (by ((try simp only [World.size_alloc, World.size_setCell, World.size_drew, size_drewN]); (try dsimp only); omega)))); have h1 := isMat_below h0 (Nat.le_refl _) hb1) | (go_at_call 57; refine (within_any _ _ _ _).mono ?_; rintro e w1 ⟨rfl, rfl⟩) | (go_at_call 61; refine (hC _ _ h1).mono ?_; rintro e w2 ⟨rfl, hb2⟩))
      go_ret2
      exact ⟨by rw [hf.out.1, hf.out.2, ← hen'.out]; rfl, by (repeat (first | with_reducible exact Below.refl _ _ | assumption | with_reducible refine Qdrew ?_ | with_reducible refine QdrewN ?_ | ((with_reducible refine Qset ?_ ?_); exact (by ((try simp only [World.size_alloc, World.size_setCell, World.size_drew, size_drewN]); (try dsimp only); omega))) | ((with_reducible refine Qalloc ?_ ?_); exact (by ((try simp only [World.size_alloc, World.size_setCell, World.size_drew, size_drewN]); (try dsimp only); omega))) | refine Qtrans (by assumption) (by ((try simp only [World.size_alloc, World.size_setCell, World.size_drew, size_drewN]); (try dsimp only); omega)) ?_))⟩
end Go.Proofs.Ytfbcbfimhgaicaa
