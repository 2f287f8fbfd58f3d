/- Return words: the law. -/
import Derived.Test.YtbplepeebapjcaaWordsG
import Derived.Test.YtbplepeebapjcaaLawT
set_option linter.unusedSimpArgs false
set_option linter.unusedVariables false
namespace Go.Proofs.Ytbplepeebapjcaa
open Go.RowKit
theorem rowS_strs' {w : World} {B n : Nat} {x : Option Addr} {cap : Nat} {l : List ByteArray} (h : w.ownsRow B 9 1 (.slice x n cap) n (sv l)) (hz : ∀ z ∈ l, z.size ≤ maxLen) : IsStrs w x n cap l := by
  have hl : l.length = n := by have := h.1; simp [sv] at this; exact this
  subst hl
  exact rowS_strs h hz
theorem isStrs_grownBy {w w' : World} {x : Option Addr} {n cap : Nat} {zs : List ByteArray} {r : Option Nat} (h : IsStrs w x n cap zs) (hg : w.grownBy w' r) (hx : ∀ b off, x = some ⟨b, off, none⟩ → some b ≠ r) : IsStrs w' x n cap zs := by
  refine ⟨h.1, h.2.1, h.2.2.1, h.2.2.2.1, ?_⟩
  rcases h.2.2.2.2 with h0 | ⟨b, off, rfl, hlt, hc⟩
  · exact .inl h0
  · refine .inr ⟨b, off, rfl, Nat.lt_of_lt_of_le hlt hg.size, fun j hj => ?_⟩
    rw [hg.cell_far ⟨b, off + j, none⟩ hlt (hx b off rfl)]
    exact hc j hj
theorem own_apart {w w1 w2 : World} {n c1 c2 b off : Nat} {x1 x2 : Option Addr} {e : TypeId} {l1 l2 : List Value} (h1 : w1.ownsRow w.heap.size e 1 (.slice x1 n c1) n l1) (h2 : w2.ownsRow w1.heap.size e 1 (.slice x2 n c2) n l2) (hz : w.heap.size ≤ w1.heap.size) (e1 : x1 = some ⟨b, off, none⟩) : some b ≠ (Value.slice x2 n c2).ownBlock := by
  subst e1
  intro hk
  have := (h1.lt b rfl).2
  have := (h2.lt b hk.symm).1
  omega
set_option maxHeartbeats 2000000 in
theorem ReturnWords_law (s : ByteArray) (hs : s.size ≤ maxLen) (f : ByteArray) (hf : f.size ≤ maxLen) (w : World) :
    Calls Try.prog 6 #[.string s, .string f] w fun e w' => e = .returned (.bool true) ∧ Below w.heap.size w w' := by
  have hs' : s.size ≤ 9223372036854775807 := hs
  have hf' : f.size ≤ 9223372036854775807 := hf
  clear hs hf
  by_cases hbig : (1048576 : Int) < (s.size : Int)
  · go_enter Try.func6, Try.ntmps6
    go_wp2
    go_ret
    exact ⟨rfl, by (repeat (first | with_reducible exact Below.refl _ _ | assumption | with_reducible refine Qdrew ?_ | with_reducible refine QdrewN ?_ | ((with_reducible refine Qset ?_ ?_); exact (by ((try simp only [World.size_alloc, World.size_setCell, World.size_drew, size_drewN]); (try dsimp only); omega))) | ((with_reducible refine Qalloc ?_ ?_); exact (by ((try simp only [World.size_alloc, World.size_setCell, World.size_drew, size_drewN]); (try dsimp only); omega))) | refine Qtrans (by assumption) (by ((try simp only [World.size_alloc, World.size_setCell, World.size_drew, size_drewN]); (try dsimp only); omega)) ?_))⟩
  · by_cases hbig2 : (1048576 : Int) < (f.size : Int)
    · go_enter Try.func6, Try.ntmps6
      go_wp2
      go_ret
      exact ⟨rfl, by (repeat (first | with_reducible exact Below.refl _ _ | assumption | with_reducible refine Qdrew ?_ | with_reducible refine QdrewN ?_ | ((with_reducible refine Qset ?_ ?_); exact (by ((try simp only [World.size_alloc, World.size_setCell, World.size_drew, size_drewN]); (try dsimp only); omega))) | ((with_reducible refine Qalloc ?_ ?_); exact (by ((try simp only [World.size_alloc, World.size_setCell, World.size_drew, size_drewN]); (try dsimp only); omega))) | refine Qtrans (by assumption) (by ((try simp only [World.size_alloc, World.size_setCell, World.size_drew, size_drewN]); (try dsimp only); omega)) ?_))⟩
    have hspec := fun w => specReturns_any s f w hs' hf'
    have himpl := fun w => implReturns_any s f w hs' hf'
    have hn1 : (dd (R s f)).length ≤ 401 := Nat.le_trans (ddl _) (R_len s f hs')
    have hDs := dd_small (R_small s f hs')
    unfold RowS at hspec himpl
    obtain ⟨D, hD⟩ : ∃ D, dd (R s f) = D := ⟨_, rfl⟩
    rw [hD] at hspec himpl hn1 hDs
    obtain ⟨n, hn⟩ : ∃ n, D.length = n := ⟨_, rfl⟩
    rw [hn] at hspec himpl hn1
    have hDs' := Lib.hid hDs
    clear hD hn hDs
    go_enter Try.func6, Try.ntmps6
    go_wp2_with (go_at_call 24; refine (hspec _).mono ?_; rintro e w1 ⟨x1, c1, rfl, h1, hb1⟩)
    have z1 := hb1.size
    have a1 := rowS_strs' h1 hDs'.out
    go_wp2_with (go_at_call 25; refine (himpl _).mono ?_; rintro e w2 ⟨x2, c2, rfl, h2, hb2⟩)
    have z2 := hb2.size
    have a2 := isStrs_below a1 (Nat.le_refl _) hb2
    have b2 := rowS_strs' h2 hDs'.out
    go_wp2_with (go_at_call 19; refine (eqStringS_same _ _ _ _ _ _ _ b2 a2).mono ?_; rintro e w3 ⟨rfl, hb3⟩)
    have z3 := hb3.size
    have a3 := isStrs_below a2 (Nat.le_refl _) hb3
    have h3 := own_below h2 hb3
    go_wp2_with (go_at_call 26; refine (markStringS_any _ _ _ 1 _ _ _ h3 (by omega)).mono ?_; rintro e w4 ⟨rfl, h4, hg4⟩)
    have z4 := hg4.size
    have a4 := isStrs_grownBy a3 hg4 (fun b off e1 => own_apart h1 h2 z1 e1)
    have b4 := rowS_strs' h4 (mk_small 1 n (by omega))
    have d4 : Below w.heap.size w w4 := (Qtrans hb3 (by omega) (Qtrans hb2 z1 hb1)).grown hg4 (by omega) (fun k hk => by have := (h2.lt k hk).1; omega)
    go_wp2_with (go_at_call 27; refine (heldStringS_any _ _ _ 1 _ b4 (by omega)).mono ?_; rintro e w5 ⟨rfl, hb5⟩)
    have z5 := hb5.size
    have a5 := isStrs_below a4 (Nat.le_refl _) hb5
    have b5 := isStrs_below b4 (Nat.le_refl _) hb5
    go_wp2_with (go_at_call 25; refine (himpl _).mono ?_; rintro e w6 ⟨x6, c6, rfl, h6, hb6⟩)
    have z6 := hb6.size
    have a6 := isStrs_below a5 (Nat.le_refl _) hb6
    have b6 := isStrs_below b5 (Nat.le_refl _) hb6
    have c6' := rowS_strs' h6 hDs'.out
    go_wp2_with (go_at_call 19; refine (eqStringS_same _ _ _ _ _ _ _ c6' a6).mono ?_; rintro e w7 ⟨rfl, hb7⟩)
    have z7 := hb7.size
    have b7 := isStrs_below b6 (Nat.le_refl _) hb7
    go_wp2_with (go_at_call 27; refine (heldStringS_any _ _ _ 1 _ b7 (by omega)).mono ?_; rintro e w8 ⟨rfl, hb8⟩)
    go_wp2
    go_ret
    exact ⟨rfl, Qtrans hb8 (by omega) (Qtrans hb7 (by omega) (Qtrans hb6 (by omega) (Qtrans hb5 (by omega) d4)))⟩
end Go.Proofs.Ytbplepeebapjcaa
