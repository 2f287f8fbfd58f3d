/- The walks of the two numerals. -/
import Derived.Test.YtilbhingfnjppaaDoorSumsB
import Derived.Laws.IdiomStrings
set_option linter.unusedSimpArgs false
set_option linter.unusedVariables false
namespace Go.Proofs.YtilbhingfnjppaaDoor
open Go.RowKit
set_option maxRecDepth 20000 in
set_option maxHeartbeats 1000000 in
theorem specNumeral_any (n : Int) (w : World) (hn : -9223372036854775808 ≤ n ∧ n ≤ 9223372036854775807) :
    Calls Tryd.prog 49 #[.int .i64 n] w fun e w' => e = .returned (.string ⟨(gr 60 n []).toArray⟩) ∧ Below w.heap.size w w' := by
  obtain ⟨i0, hi0, hz0, hz1, hz2⟩ := info_parts infoB
  obtain ⟨hn1, hn2⟩ := hn
  go_enter Tryd.func49, Tryd.ntmps49
  go_wp2_with (go_at_call 86; refine (specWeights_any 60 _ _ rfl (by omega) (by omega)).mono ?_; rintro e wA ⟨gw, cw, rfl, hgw1, hgw2, hwt, hb1⟩)
  have hz1' := hb1.size
  go_loopw [0, 4, 5] (fun nv b i wr => ∃ (k : Nat) (acc : List UInt8) (g cap : Nat) (n' : Int), k ≤ 60 ∧ i = .int .i64 ((k : Int) - 1) ∧ nv = .int .i64 n' ∧ b = .slice (some ⟨g, 0, none⟩) acc.length cap ∧ -9223372036854775808 ≤ n' ∧ n' ≤ 9223372036854775807 ∧ acc.length + k ≤ 60 ∧ Hid (gr k n' acc = gr 60 n []) ∧ wr.ownsRow wA.heap.size 5 1 (.slice (some ⟨g, 0, none⟩) acc.length cap) acc.length (bv acc) ∧ wA.heap.size ≤ wr.heap.size ∧ Below wA.heap.size wA wr) (fun _ _ i _ => (intOf i + 1).toNat)
  case atStart => exact ⟨60, [], wA.heap.size, 0, n, by omega, rfl, rfl, rfl, hn1, hn2, by simp, Lib.hid rfl, World.ownsRow_lit wA #[] 0 (Nat.le_refl _) (by decide) rfl, by ((try simp only [World.size_alloc, World.size_setCell, World.size_drew, size_drewN]); (try dsimp only); omega), by (repeat (first | with_reducible exact Below.refl _ _ | assumption | with_reducible refine Qdrew ?_ | with_reducible refine QdrewN ?_ | ((with_reducible refine Qset ?_ ?_); exact (by ((try simp only [World.size_alloc, World.size_setCell, World.size_drew, size_drewN]); (try dsimp only); omega))) | ((with_reducible refine Qalloc ?_ ?_); exact (by ((try simp only [World.size_alloc, World.size_setCell, World.size_drew, size_drewN]); (try dsimp only); omega))) | refine Qtrans (by assumption) (by ((try simp only [World.size_alloc, World.size_setCell, World.size_drew, size_drewN]); (try dsimp only); omega)) ?_))⟩
  case round =>
    obtain ⟨k, acc, g, cap, n', hk, rfl, rfl, rfl, h1, h2, hlen, heq, hown, hz, hbel⟩ := hrel
    cases k with
    | zero =>
      have hcv := own_string hown
      rw [show ((0 : Nat) : Int) - 1 = -1 from rfl]
      go_wp2
      go_ret
      refine ⟨?_, hb1.trans (hbel.mono hz1')⟩
      have := heq.out
      rw [← this]; rfl
    | succ q =>
      have hcell : wr.cell? ⟨gw, q, none⟩ = some (.int .i64 (wt q)) := (hbel.cell (by exact hgw2)).trans (hwt q (by omega))
      obtain ⟨b1, b2⟩ := wtB q (by omega)
      have hq0 : (0 : Int) ≤ (q : Int) := by omega
      have hq1 : (q : Int) < 60 := by omega
      rw [show ((q + 1 : Nat) : Int) - 1 = (q : Int) by omega]
      by_cases hle : wt q ≤ n'
      · have hs := Lib.hid (gr_yes (k := q) (acc := acc) hle)
        go_wp2_with (at_builtin; refine wpList_append_lies _ rfl _ _ _ rfl (wA.heap.size) 5 i0 _ 1 1 Tryd.underlying24 hi0 hz0 hz1 hz2 rfl (by decide) (_) (acc.length) (bv acc) (by rfl) (hown.alloc _) ⟨(wr).heap.size, 0, none⟩ 1 1 [.int .u8 49] (by rfl) (by rfl) (World.news_of_block (cs := #[.int .u8 49]) (t := 5) (fr := (0, 0)) (heap_alloc_new (wr) _)) (by simp [Value.oneCell']) (by omega) (by unfold maxLen; omega) (by omega) (by simp; omega) ((wr).heap.size + 1) (by simp) ?_; intro gg cap w1 hown1 hgrow hatg hltg)
        go_roundw
        case rel => exact ⟨q, acc ++ [49], gg, cap, n' - wt q, by omega, rfl, rfl, by rw [List.length_append]; rfl, by omega, by omega, by simp; omega, Lib.hid (by rw [← heq.out, hs.out]), by simpa [bv] using hown1, by have := size_app hgrow; omega, below_app hbel hz hown hgrow⟩
        case measure => (simp [intOf]) <;> omega
      · by_cases ha : acc = []
        · subst ha
          have hs := Lib.hid (gr_nil (k := q) hle)
          go_wp2
          go_roundw
          case rel => exact ⟨q, [], g, cap, n', by omega, rfl, rfl, rfl, by omega, by omega, by simp; omega, Lib.hid (by rw [← heq.out, hs.out]), hown, hz, hbel⟩
          case measure => (simp [intOf]) <;> omega
        · have hs := Lib.hid (gr_no (k := q) hle ha)
          have hpos : 0 < acc.length := List.length_pos_iff.2 ha
          have hpos' : (0 : Int) < (acc.length : Int) := by omega
          go_wp2_with (at_builtin; refine wpList_append_lies _ rfl _ _ _ rfl (wA.heap.size) 5 i0 _ 1 1 Tryd.underlying24 hi0 hz0 hz1 hz2 rfl (by decide) (_) (acc.length) (bv acc) (by rfl) (hown.alloc _) ⟨(wr).heap.size, 0, none⟩ 1 1 [.int .u8 48] (by rfl) (by rfl) (World.news_of_block (cs := #[.int .u8 48]) (t := 5) (fr := (0, 0)) (heap_alloc_new (wr) _)) (by simp [Value.oneCell']) (by omega) (by unfold maxLen; omega) (by omega) (by simp; omega) ((wr).heap.size + 1) (by simp) ?_; intro gg cap w1 hown1 hgrow hatg hltg)
          go_roundw
          case rel => exact ⟨q, acc ++ [48], gg, cap, n', by omega, rfl, rfl, by rw [List.length_append]; rfl, by omega, by omega, by simp; omega, Lib.hid (by rw [← heq.out, hs.out]), by simpa [bv] using hown1, by have := size_app hgrow; omega, below_app hbel hz hown hgrow⟩
          case measure => (simp [intOf]) <;> omega
set_option maxRecDepth 20000 in
set_option maxHeartbeats 1000000 in
theorem implNumeral_any (n : Int) (w : World) (hn : -9223372036854775808 ≤ n ∧ n ≤ 9223372036854775807) :
    Calls Tryd.prog 51 #[.int .i64 n] w fun e w' => e = .returned (.string ⟨(gr 61 n []).toArray⟩) ∧ Below w.heap.size w w' := by
  obtain ⟨i0, hi0, hz0, hz1, hz2⟩ := info_parts infoB
  obtain ⟨hn1, hn2⟩ := hn
  go_enter Tryd.func51, Tryd.ntmps51
  go_wp2_with (go_at_call 84; refine (implWeights_any 61 _ _ rfl (by omega) (by omega)).mono ?_; rintro e wA ⟨gw, cw, rfl, hgw1, hgw2, hwt, hb1⟩)
  have hz1' := hb1.size
  go_loopw [0, 4, 5] (fun nv b i wr => ∃ (k : Nat) (acc : List UInt8) (g cap : Nat) (n' : Int), k ≤ 61 ∧ i = .int .i64 ((k : Int) - 1) ∧ nv = .int .i64 n' ∧ b = .slice (some ⟨g, 0, none⟩) acc.length cap ∧ -9223372036854775808 ≤ n' ∧ n' ≤ 9223372036854775807 ∧ acc.length + k ≤ 61 ∧ Hid (gr k n' acc = gr 61 n []) ∧ wr.ownsRow wA.heap.size 5 1 (.slice (some ⟨g, 0, none⟩) acc.length cap) acc.length (bv acc) ∧ wA.heap.size ≤ wr.heap.size ∧ Below wA.heap.size wA wr) (fun _ _ i _ => (intOf i + 1).toNat)
  case atStart => exact ⟨61, [], wA.heap.size, 0, n, by omega, rfl, rfl, rfl, hn1, hn2, by simp, Lib.hid rfl, World.ownsRow_lit wA #[] 0 (Nat.le_refl _) (by decide) rfl, by ((try simp only [World.size_alloc, World.size_setCell, World.size_drew, size_drewN]); (try dsimp only); omega), by (repeat (first | with_reducible exact Below.refl _ _ | assumption | with_reducible refine Qdrew ?_ | with_reducible refine QdrewN ?_ | ((with_reducible refine Qset ?_ ?_); exact (by ((try simp only [World.size_alloc, World.size_setCell, World.size_drew, size_drewN]); (try dsimp only); omega))) | ((with_reducible refine Qalloc ?_ ?_); exact (by ((try simp only [World.size_alloc, World.size_setCell, World.size_drew, size_drewN]); (try dsimp only); omega))) | refine Qtrans (by assumption) (by ((try simp only [World.size_alloc, World.size_setCell, World.size_drew, size_drewN]); (try dsimp only); omega)) ?_))⟩
  case round =>
    obtain ⟨k, acc, g, cap, n', hk, rfl, rfl, rfl, h1, h2, hlen, heq, hown, hz, hbel⟩ := hrel
    cases k with
    | zero =>
      have hcv := own_string hown
      rw [show ((0 : Nat) : Int) - 1 = -1 from rfl]
      go_wp2
      go_ret
      refine ⟨?_, hb1.trans (hbel.mono hz1')⟩
      have := heq.out
      rw [← this]; rfl
    | succ q =>
      have hcell : wr.cell? ⟨gw, q, none⟩ = some (.int .i64 (wt q)) := (hbel.cell (by exact hgw2)).trans (hwt q (by omega))
      obtain ⟨b1, b2⟩ := wtB q (by omega)
      have hq0 : (0 : Int) ≤ (q : Int) := by omega
      have hq1 : (q : Int) < 61 := by omega
      rw [show ((q + 1 : Nat) : Int) - 1 = (q : Int) by omega]
      by_cases hle : wt q ≤ n'
      · have hs := Lib.hid (gr_yes (k := q) (acc := acc) hle)
        go_wp2_with (at_builtin; refine wpList_append_lies _ rfl _ _ _ rfl (wA.heap.size) 5 i0 _ 1 1 Tryd.underlying24 hi0 hz0 hz1 hz2 rfl (by decide) (_) (acc.length) (bv acc) (by rfl) (hown.alloc _) ⟨(wr).heap.size, 0, none⟩ 1 1 [.int .u8 49] (by rfl) (by rfl) (World.news_of_block (cs := #[.int .u8 49]) (t := 5) (fr := (0, 0)) (heap_alloc_new (wr) _)) (by simp [Value.oneCell']) (by omega) (by unfold maxLen; omega) (by omega) (by simp; omega) ((wr).heap.size + 1) (by simp) ?_; intro gg cap w1 hown1 hgrow hatg hltg)
        go_roundw
        case rel => exact ⟨q, acc ++ [49], gg, cap, n' - wt q, by omega, rfl, rfl, by rw [List.length_append]; rfl, by omega, by omega, by simp; omega, Lib.hid (by rw [← heq.out, hs.out]), by simpa [bv] using hown1, by have := size_app hgrow; omega, below_app hbel hz hown hgrow⟩
        case measure => (simp [intOf]) <;> omega
      · by_cases ha : acc = []
        · subst ha
          have hs := Lib.hid (gr_nil (k := q) hle)
          go_wp2
          go_roundw
          case rel => exact ⟨q, [], g, cap, n', by omega, rfl, rfl, rfl, by omega, by omega, by simp; omega, Lib.hid (by rw [← heq.out, hs.out]), hown, hz, hbel⟩
          case measure => (simp [intOf]) <;> omega
        · have hs := Lib.hid (gr_no (k := q) hle ha)
          have hpos : 0 < acc.length := List.length_pos_iff.2 ha
          have hpos' : (0 : Int) < (acc.length : Int) := by omega
          go_wp2_with (at_builtin; refine wpList_append_lies _ rfl _ _ _ rfl (wA.heap.size) 5 i0 _ 1 1 Tryd.underlying24 hi0 hz0 hz1 hz2 rfl (by decide) (_) (acc.length) (bv acc) (by rfl) (hown.alloc _) ⟨(wr).heap.size, 0, none⟩ 1 1 [.int .u8 48] (by rfl) (by rfl) (World.news_of_block (cs := #[.int .u8 48]) (t := 5) (fr := (0, 0)) (heap_alloc_new (wr) _)) (by simp [Value.oneCell']) (by omega) (by unfold maxLen; omega) (by omega) (by simp; omega) ((wr).heap.size + 1) (by simp) ?_; intro gg cap w1 hown1 hgrow hatg hltg)
          go_roundw
          case rel => exact ⟨q, acc ++ [48], gg, cap, n', by omega, rfl, rfl, by rw [List.length_append]; rfl, by omega, by omega, by simp; omega, Lib.hid (by rw [← heq.out, hs.out]), by simpa [bv] using hown1, by have := size_app hgrow; omega, below_app hbel hz hown hgrow⟩
          case measure => (simp [intOf]) <;> omega
end Go.Proofs.YtilbhingfnjppaaDoor
