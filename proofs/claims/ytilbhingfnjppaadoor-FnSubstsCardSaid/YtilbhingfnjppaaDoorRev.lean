/- Turned words: the walks. -/
import Derived.Test.YtilbhingfnjppaaDoorWordsA
import Derived.Test.YtilbhingfnjppaaDoorLawS
set_option linter.unusedSimpArgs false
set_option linter.unusedVariables false
namespace Go.Proofs.YtilbhingfnjppaaDoor
open Go.RowKit
theorem vi64 {a b : Int} (h : a = b) : Value.int .i64 a = .int .i64 b := by rw [h]
def byteAt (s : ByteArray) (j : Nat) : UInt8 := s.data.toList.getD j 0
theorem byteAt_eq (s : ByteArray) (j : Nat) (h : j < s.size) : ((s[j]'h).toNat : Int) = ((byteAt s j).toNat : Int) := by
  have e : byteAt s j = s[j]'h := by
    unfold byteAt
    have h' : j < s.data.toList.length := by simpa using h
    rw [List.getD_eq_getElem?_getD, List.getElem?_eq_getElem h']
    rfl
  rw [e]
theorem byteAt_bt (s : ByteArray) (j : Nat) (h : j < s.size) : bt s j = ((byteAt s j).toNat : Int) := by rw [← byteAt_eq s j h, bt_eq]
def revL (s : ByteArray) (k : Nat) : List UInt8 := (List.range k).map (fun j => byteAt s (s.size - 1 - j))
theorem revL_len (s : ByteArray) (k : Nat) : (revL s k).length = k := by simp [revL]
theorem revL_succ (s : ByteArray) (k : Nat) : revL s (k + 1) = revL s k ++ [byteAt s (s.size - 1 - k)] := by simp [revL, List.range_succ]
theorem revL_at (s : ByteArray) (k j : Nat) (h : j < k) : (revL s k).getD j 0 = byteAt s (s.size - 1 - j) := by simp [revL, List.getD_eq_getElem?_getD, h]
def rev (s : ByteArray) : ByteArray := ⟨(revL s s.size).toArray⟩
theorem bv_at' (l : List UInt8) (j : Nat) (h : j < l.length) : (bv l)[j]? = some (.int .u8 ((l.getD j 0).toNat : Int)) := by simp [bv, h, List.getD_eq_getElem?_getD]
theorem bv_set (l : List UInt8) (j : Nat) (z : UInt8) : (bv l).set j (.int .u8 (z.toNat : Int)) = bv (l.set j z) := by simp [bv, List.map_set]
theorem bv_zeros (n : Nat) : (madeCells #[Value.int .u8 0] (n * 1)).toList = bv (List.replicate n 0) := by rw [toList_madeCells_one]; simp [bv]
set_option maxRecDepth 20000 in
set_option maxHeartbeats 1000000 in
theorem flip_any (s : ByteArray) (w : World) (hs : s.size ≤ 400) :
    Calls Tryd.prog 13 #[.string s] w fun e w' => e = .returned (.string (rev s)) ∧ Below w.heap.size w w' := by
  obtain ⟨i0, hi0, hz0, hz1, hz2⟩ := info_parts infoB
  have hb : ∀ j (h : j < s.size), ((s[j]'h).toNat : Int) = ((byteAt s j).toNat : Int) := byteAt_eq s
  go_enter Tryd.func13, Tryd.ntmps13
  go_wp2
  go_loopw [3, 4] (fun o i wr => ∃ (k : Nat) (acc : List UInt8) (g cap : Nat), k ≤ s.size ∧ i = .int .i64 ((s.size : Int) - 1 - k) ∧ o = .slice (some ⟨g, 0, none⟩) acc.length cap ∧ Hid (acc = revL s k) ∧ acc.length ≤ 400 ∧ wr.ownsRow w.heap.size 5 1 (.slice (some ⟨g, 0, none⟩) acc.length cap) acc.length (bv acc) ∧ w.heap.size ≤ wr.heap.size ∧ Below w.heap.size w wr) (fun _ i _ => (intOf i + 1).toNat)
  case atStart => exact ⟨0, [], w.heap.size, 0, by omega, by simp, rfl, Lib.hid rfl, by simp, World.ownsRow_lit w #[] 0 (Nat.le_refl _) (by decide) rfl, by ((try simp only [World.size_alloc, World.size_setCell, World.size_drew, size_drewN]); (try dsimp only); omega), by (repeat (first | with_reducible exact Below.refl _ _ | assumption | with_reducible refine Qdrew ?_ | with_reducible refine QdrewN ?_ | ((with_reducible refine Qset ?_ ?_); exact (by ((try simp only [World.size_alloc, World.size_setCell, World.size_drew, size_drewN]); (try dsimp only); omega))) | ((with_reducible refine Qalloc ?_ ?_); exact (by ((try simp only [World.size_alloc, World.size_setCell, World.size_drew, size_drewN]); (try dsimp only); omega))) | refine Qtrans (by assumption) (by ((try simp only [World.size_alloc, World.size_setCell, World.size_drew, size_drewN]); (try dsimp only); omega)) ?_))⟩
  case round =>
    obtain ⟨k, acc, g, cap, hk, rfl, rfl, hacc, hlen, hown, hz, hbel⟩ := hrel
    by_cases hlt : k < s.size
    · obtain ⟨m, hm⟩ : ∃ m : Nat, s.size - 1 - k = m := ⟨_, rfl⟩
      have hmi : (s.size : Int) - 1 - k = (m : Int) := by omega
      have hms : m < s.size := by omega
      have hms' : (m : Int) < (s.size : Int) := by omega
      have hm0 : (0 : Int) ≤ (m : Int) := by omega
      have hnx := Lib.hid (revL_succ s k)
      have hkl := Lib.hid (revL_len s k)
      rw [hmi]
      rw [hm] at hnx
      obtain ⟨x, hx⟩ : ∃ x, byteAt s m = x := ⟨_, rfl⟩
      have hbm := hb m hms
      rw [hx] at hnx hbm
      have hm' := Lib.hid hm
      have hmi' := Lib.hid hmi
      clear hx hm hmi hb
      go_wp2_with (at_builtin; refine wpList_append_lies _ rfl _ _ _ rfl (w.heap.size) 5 i0 _ 1 1 Tryd.underlying24 hi0 hz0 hz1 hz2 rfl (by decide) (_) (acc.length) (bv acc) (by rfl) (hown.alloc _) ⟨(wr).heap.size, 0, none⟩ 1 1 [.int .u8 (x.toNat : Int)] (by rfl) (by rfl) (World.news_of_block (cs := #[.int .u8 (x.toNat : Int)]) (t := 5) (fr := (0, 0)) (heap_alloc_new (wr) _)) (by simp [Value.oneCell']) (by omega) (by unfold maxLen; omega) (by omega) (by simp; omega) ((wr).heap.size + 1) (by simp) ?_; intro gg cap w1 hown1 hgrow hatg hltg)
      have hm2 := hm'.out
      go_roundw
      case rel => exact ⟨k + 1, acc ++ [x], gg, cap, by omega, vi64 (by omega), by rw [List.length_append]; rfl, Lib.hid (by rw [hacc.out]; exact hnx.out.symm), by rw [List.length_append, hacc.out, hkl.out]; simp; omega, by simpa [bv] using hown1, by have := size_app hgrow; omega, below_app hbel hz hown hgrow⟩
      case measure => (simp [intOf]) <;> omega
    · obtain rfl : k = s.size := by omega
      have hcv := own_string hown
      have hneg : ¬ (0 : Int) ≤ (s.size : Int) - 1 - s.size := by omega
      have hneg1 : (s.size : Int) - 1 - s.size = -1 := by omega
      rw [hneg1]
      go_wp2
      go_ret
      exact ⟨by rw [hacc.out]; rfl, hbel⟩
set_option maxRecDepth 20000 in
set_option maxHeartbeats 1000000 in
theorem turned_any (s : ByteArray) (w : World) (hs : s.size ≤ 400) :
    Calls Tryd.prog 58 #[.string s] w fun e w' => e = .returned (.string (rev s)) ∧ Below w.heap.size w w' := by
  obtain ⟨i0, hi0, hz0, hz1, hz2⟩ := info_parts infoB
  have hb : ∀ j (h : j < s.size), ((s[j]'h).toNat : Int) = ((byteAt s j).toNat : Int) := byteAt_eq s
  go_enter Tryd.func58, Tryd.ntmps58
  go_wp2_with (at_make; refine wpList_make_full _ rfl _ _ 24 rfl w.heap.size 5 i0 _ 1 Tryd.underlying24 hi0 hz0 hz1 .i64 .i64 _ _ s.size (by rfl) (by rfl) (by omega) (by omega) (by rw [hz2]; omega) (by unfold maxLen; omega) (by omega) ?_; intro wM hownM hgM)
  have hbM : Below w.heap.size w wM := (Below.refl _ w).grown hgM (by omega) (by simp)
  have hini : (madeCells (Value.int .u8 0).cells (s.size * 1)).toList = bv (List.replicate s.size 0) := by
    show (madeCells #[Value.int .u8 0] (s.size * 1)).toList = _
    rw [bv_zeros]
  rw [hini] at hownM
  go_loopw [10] (fun i wr => ∃ (k : Nat) (L : List UInt8), k ≤ s.size ∧ i = .int .i64 k ∧ L.length = s.size ∧ Hid (∀ j, j < s.size → s.size - k ≤ j → L.getD j 0 = byteAt s (s.size - 1 - j)) ∧ wr.ownsRow w.heap.size 5 1 (.slice (some ⟨w.heap.size, 0, none⟩) s.size s.size) s.size (bv L) ∧ Below w.heap.size w wr) (fun i _ => s.size - (intOf i).toNat)
  case atStart => exact ⟨0, List.replicate s.size 0, by omega, rfl, by simp, Lib.hid (fun j h1 h2 => by omega), hownM, hbM⟩
  case round =>
    clear hownM hbM hini
    obtain ⟨k, L, hk, rfl, hLl, hL, hown, hbel⟩ := hrel
    by_cases hlt : k < s.size
    · obtain ⟨m, hm⟩ : ∃ m : Nat, s.size - 1 - k = m := ⟨_, rfl⟩
      have hsl := own_cell hown m (by omega)
      rw [bv_at' _ _ (by omega)] at hsl
      obtain ⟨u, hu⟩ : ∃ u, L.getD m 0 = u := ⟨_, rfl⟩
      rw [hu] at hsl
      have hfz := hown.frozenAt
      have hmi : (s.size : Int) - 1 - k = (m : Int) := by omega
      have hm0 : (0 : Int) ≤ (m : Int) := by omega
      have hm1 : (m : Int) < (s.size : Int) := by omega
      have hk0 : (0 : Int) ≤ (k : Int) := by omega
      have hk1 : (k : Int) < (s.size : Int) := by omega
      obtain ⟨x, hx⟩ : ∃ x, byteAt s k = x := ⟨_, rfl⟩
      have hbm := hb k hlt
      rw [hx] at hbm
      have hL' := Lib.hid (show ∀ j, j < s.size → s.size - (k + 1) ≤ j → (L.set m x).getD j 0 = byteAt s (s.size - 1 - j) from fun j h1 h2 => by
        by_cases e : j = m
        · subst e
          rw [show s.size - 1 - j = k by omega, hx]
          simp [List.getD_eq_getElem?_getD, List.getElem?_set, hLl, h1]
        · have := hL.out j h1 (by omega)
          rw [← this]
          simp only [List.getD_eq_getElem?_getD, List.getElem?_set]
          rw [if_neg (fun q => e q.symm)])
      have hst := Lib.hid (bv_set L m x)
      clear hx hm hu hb
      go_wp2
      go_roundw
      case rel => exact ⟨k + 1, L.set m x, by omega, by go_num, by simp [hLl], hL', by rw [← hst.out]; exact (hown.stored m _).1, hbel.setCell (by simp) _⟩
      case measure => (simp [intOf]) <;> omega
    · obtain rfl : k = s.size := by omega
      have hLe : L = revL s s.size := by
        apply List.ext_getElem (by rw [hLl, revL_len])
        intro j h1 h2
        have q1 := hL.out j (by omega) (by omega)
        have q2 := revL_at s s.size j (by omega)
        rw [List.getD_eq_getElem?_getD, List.getElem?_eq_getElem h1, Option.getD_some] at q1
        rw [List.getD_eq_getElem?_getD, List.getElem?_eq_getElem h2, Option.getD_some] at q2
        rw [q1, q2]
      have hown' : wr.ownsRow w.heap.size 5 1 (.slice (some ⟨w.heap.size, 0, none⟩) L.length s.size) L.length (bv L) := by rw [hLl]; exact hown
      have hcv := own_string hown'
      rw [hLl] at hcv
      go_wp2
      go_ret
      exact ⟨rfl, hbel⟩
end Go.Proofs.YtilbhingfnjppaaDoor
