/- laws.flip: the walk. -/
import Derived.Test.YtilbhingfnjppabCenA
set_option linter.unusedSimpArgs false
set_option linter.unusedVariables false
namespace Go.Proofs.Ytilbhingfnjppab
open Go.RowKit
set_option maxRecDepth 20000 in
set_option maxHeartbeats 1000000 in
theorem flip_any (s : ByteArray) (w : World) (hs : s.size ≤ 400) :
    Calls Try.prog 50 #[.string s] w fun e w' => e = .returned (.string (rev s)) ∧ Below w.heap.size w w' := by
  obtain ⟨i0, hi0, hz0, hz1, hz2⟩ := info_parts infoB
  have hb : ∀ j (h : j < s.size), ((s[j]'h).toNat : Int) = ((byteAt s j).toNat : Int) := byteAt_eq s
  go_enter Try.func50, Try.ntmps50
  go_wp2
  go_loopw [3, 4] (fun o i wr => ∃ (k : Nat) (acc : List UInt8) (g cap : Nat), k ≤ s.size ∧ i = .int .i64 ((s.size : Int) - 1 - k) ∧ o = .slice (some ⟨g, 0, none⟩) acc.length cap ∧ Hid (acc = revL s k) ∧ acc.length ≤ 400 ∧ wr.ownsRow w.heap.size 5 1 (.slice (some ⟨g, 0, none⟩) acc.length cap) acc.length (bv acc) ∧ w.heap.size ≤ wr.heap.size ∧ Below w.heap.size w wr) (fun _ i _ => (intOf i + 1).toNat)
  case atStart => exact ⟨0, [], w.heap.size, 0, by omega, by simp, rfl, Lib.hid rfl, by simp, World.ownsRow_lit w #[] 0 (Nat.le_refl _) (by decide) rfl, by ((try simp only [World.size_alloc, World.size_setCell, World.size_drew, size_drewN]); (try dsimp only); omega), by (repeat (first | with_reducible exact Below.refl _ _ | assumption | with_reducible refine Qdrew ?_ | with_reducible refine QdrewN ?_ | ((with_reducible refine Qset ?_ ?_); exact (by ((try simp only [World.size_alloc, World.size_setCell, World.size_drew, size_drewN]); (try dsimp only); omega))) | ((with_reducible refine Qalloc ?_ ?_); exact (by ((try simp only [World.size_alloc, World.size_setCell, World.size_drew, size_drewN]); (try dsimp only); omega))) | refine Qtrans (by assumption) (by ((try simp only [World.size_alloc, World.size_setCell, World.size_drew, size_drewN]); (try dsimp only); omega)) ?_))⟩
  case round =>
    obtain ⟨k, acc, g, cap, hk, rfl, rfl, hacc, hlen, hown, hz, hbel⟩ := hrel
    by_cases hlt : k < s.size
    · obtain ⟨m, hm⟩ : ∃ m : Nat, s.size - 1 - k = m := ⟨_, rfl⟩
      have hmi : (s.size : Int) - 1 - k = (m : Int) := by omega
      have hms : m < s.size := by omega
      have hms' : (m : Int) < (s.size : Int) := by omega
      have hm0 : (0 : Int) ≤ (m : Int) := by omega
      have hnx := Lib.hid (revL_succ s k)
      have hkl := Lib.hid (revL_len s k)
      rw [hmi]
      rw [hm] at hnx
      obtain ⟨x, hx⟩ : ∃ x, byteAt s m = x := ⟨_, rfl⟩
      have hbm := hb m hms
      rw [hx] at hnx hbm
      have hm' := Lib.hid hm
      have hmi' := Lib.hid hmi
      clear hx hm hmi hb
      go_wp2_with (at_builtin; refine wpList_append_lies _ rfl _ _ _ rfl (w.heap.size) 5 i0 _ 1 1 Try.underlying22 hi0 hz0 hz1 hz2 rfl (by decide) (_) (acc.length) (bv acc) (by rfl) (hown.alloc _) ⟨(wr).heap.size, 0, none⟩ 1 1 [.int .u8 (x.toNat : Int)] (by rfl) (by rfl) (World.news_of_block (cs := #[.int .u8 (x.toNat : Int)]) (t := 5) (fr := (0, 0)) (heap_alloc_new (wr) _)) (by simp [Value.oneCell']) (by omega) (by unfold maxLen; omega) (by omega) (by simp; omega) ((wr).heap.size + 1) (by simp) ?_; intro gg cap w1 hown1 hgrow hatg hltg)
      have hm2 := hm'.out
      go_roundw
      case rel => exact ⟨k + 1, acc ++ [x], gg, cap, by omega, vi64 (by omega), by rw [List.length_append]; rfl, Lib.hid (by rw [hacc.out]; exact hnx.out.symm), by rw [List.length_append, hacc.out, hkl.out]; simp; omega, by simpa [bv] using hown1, by have := size_app hgrow; omega, below_app hbel hz hown hgrow⟩
      case measure => (simp [intOf]) <;> omega
    · obtain rfl : k = s.size := by omega
      have hcv := own_string hown
      have hneg : ¬ (0 : Int) ≤ (s.size : Int) - 1 - s.size := by omega
      have hneg1 : (s.size : Int) - 1 - s.size = -1 := by omega
      rw [hneg1]
      go_wp2
      go_ret
      exact ⟨by rw [hacc.out]; rfl, hbel⟩
end Go.Proofs.Ytilbhingfnjppab
