/- Common divisors: the walk. -/
import Derived.Test.YtilbhingfnjppabFrA
set_option linter.unusedSimpArgs false
set_option linter.unusedVariables false
namespace Go.Proofs.Ytilbhingfnjppab
open Go.RowKit
theorem tmod_nat (a b : Nat) : (a : Int).tmod (b : Int) = ((a % b : Nat) : Int) := (Int.ofNat_tmod a b).symm
set_option maxRecDepth 20000 in
set_option maxHeartbeats 1000000 in
theorem divisor_any (a b : Nat) (w : World) (ha : a ≤ 1000) (hb : b ≤ 1000) :
    Calls Try.prog 86 #[.int .i64 a, .int .i64 b] w fun e w' => e = .returned (.int .i64 (Nat.gcd a b : Nat)) ∧ Below w.heap.size w w' := by
  go_enter Try.func86, Try.ntmps86
  go_wp2
  go_loopw [0, 1] (fun x y wr => ∃ c d : Nat, x = .int .i64 c ∧ y = .int .i64 d ∧ c ≤ 1000 ∧ d ≤ 1000 ∧ Hid (Nat.gcd c d = Nat.gcd a b) ∧ Below w.heap.size w wr) (fun _ y _ => (intOf y).toNat)
  case atStart => exact ⟨a, b, rfl, rfl, ha, hb, Lib.hid rfl, Below.refl _ _⟩
  case round =>
    obtain ⟨c, d, rfl, rfl, hc, hd, hg, hbel⟩ := hrel
    by_cases h0 : d = 0
    · subst h0
      go_wp2
      go_ret
      exact ⟨by rw [← hg.out, Nat.gcd_zero_right]; rfl, hbel⟩
    · have hpos : (0 : Int) < (d : Int) := by omega
      have hne : (d : Int) ≠ 0 := by omega
      have hr := tmod_nat c d
      have hrl := Nat.mod_lt c (by omega : d > 0)
      have hnx : Hid (Nat.gcd d (c % d) = Nat.gcd a b) := by
        show _ = _
        rw [← hg.out, Nat.gcd_comm c d, Nat.gcd_rec d c, Nat.gcd_comm]
      obtain ⟨r, hr'⟩ : ∃ r, c % d = r := ⟨_, rfl⟩
      rw [hr'] at hr hrl hnx
      clear hr'
      go_wp2
      go_region
      go_wp2
      go_roundw
      case rel => exact ⟨d, r, rfl, rfl, hd, by omega, hnx, by (repeat (first | with_reducible exact Below.refl _ _ | assumption | with_reducible refine Qdrew ?_ | with_reducible refine QdrewN ?_ | ((with_reducible refine Qset ?_ ?_); exact (by ((try simp only [World.size_alloc, World.size_setCell, World.size_drew, size_drewN]); (try dsimp only); omega))) | ((with_reducible refine Qalloc ?_ ?_); exact (by ((try simp only [World.size_alloc, World.size_setCell, World.size_drew, size_drewN]); (try dsimp only); omega))) | refine Qtrans (by assumption) (by ((try simp only [World.size_alloc, World.size_setCell, World.size_drew, size_drewN]); (try dsimp only); omega)) ?_))⟩
      case measure => (simp [intOf]) <;> omega
end Go.Proofs.Ytilbhingfnjppab
