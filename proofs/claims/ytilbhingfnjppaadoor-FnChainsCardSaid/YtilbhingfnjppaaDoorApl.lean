/- Substitutions applied to short words: the walks. -/
import Derived.Test.YtilbhingfnjppaaDoorFromD
import Derived.Test.YtilbhingfnjppaaDoorLawT
import Derived.Laws.IdiomStrings
import Derived.Deep.RegionLaw
set_option linter.unusedSimpArgs false
set_option linter.unusedVariables false
namespace Go.Proofs.YtilbhingfnjppaaDoor
open Go.RowKit
/-- A short word over n letters. -/
def shortP (n : Nat) (d : ByteArray) : Prop := d.size ≤ 400 ∧ ∀ j, j < d.size → inL d j ∧ lt d j < n
def small8 (zs : List ByteArray) : Prop := ∀ j, (zs.getD j ByteArray.empty).size ≤ 8
theorem cc_size8 {d : ByteArray} {zs : List ByteArray} (h : small8 zs) : ∀ k, (cc d zs k).size ≤ 8 * k
  | 0 => Nat.zero_le _
  | k + 1 => by have := cc_size8 (d := d) h k; have := h (lt d k); rw [cc_succ, ByteArray.size_append]; omega
theorem add_run2 (a b : ByteArray) (h : a.size + b.size ≤ 9223372036854775807) (w : World) : (Op.stringOp .add a b).run Tryd.prog w = .ok (.string (a ++ b)) w := run_string_add_sum w a b h
set_option maxRecDepth 20000 in
set_option maxHeartbeats 1000000 in
theorem image_any (x : Option Addr) (n cap l : Nat) (zs : List ByteArray) (w : World) (h : IsStrs w x n cap zs) (hl : l < n) (hl3 : l ≤ 3) :
    Calls Tryd.prog 99 #[.agg #[.slice x n cap], .int .u8 ((l : Int) + 97)] w fun e w' => e = .returned (.string (zs.getD l ByteArray.empty)) ∧ Below w.heap.size w w' := by
  have hb0 : Below w.heap.size w (w.alloc (.cells #[.slice x n cap] 27)) := (Below.refl _ w).alloc (Nat.le_refl _) _
  have h' := isStrs_below h (Nat.le_refl _) hb0
  obtain ⟨b, off, rfl, hbl, hc⟩ := isStrs_cell h' (by omega)
  have hck := hc l hl
  have hu : IntKind.u8.wrap ((l : Int) + 97 - 97) = (l : Int) := by rw [show (l : Int) + 97 - 97 = (l : Int) by omega]; exact u8_small l (by omega)
  have hu2 := u8_small l (by omega)
  have hl0 : (0 : Int) ≤ (l : Int) := by omega
  have hl1 : (l : Int) < (n : Int) := by omega
  clear hc h h'
  go_enter Tryd.func99, Tryd.ntmps99
  go_wp2
  go_ret
  exact ⟨rfl, by (repeat (first | with_reducible exact Below.refl _ _ | assumption | with_reducible refine Qdrew ?_ | with_reducible refine QdrewN ?_ | ((with_reducible refine Qset ?_ ?_); exact (by ((try simp only [World.size_alloc, World.size_setCell, World.size_drew, size_drewN]); (try dsimp only); omega))) | ((with_reducible refine Qalloc ?_ ?_); exact (by ((try simp only [World.size_alloc, World.size_setCell, World.size_drew, size_drewN]); (try dsimp only); omega))) | refine Qtrans (by assumption) (by ((try simp only [World.size_alloc, World.size_setCell, World.size_drew, size_drewN]); (try dsimp only); omega)) ?_))⟩
set_option maxRecDepth 20000 in
set_option maxHeartbeats 2000000 in
theorem apply_any (x : Option Addr) (n cap : Nat) (zs : List ByteArray) (d : ByteArray) (w : World) (h : IsStrs w x n cap zs) (hd : shortP n d) (h8 : small8 zs) :
    Calls Tryd.prog 61 #[.agg #[.slice x n cap], .string d] w fun e w' => e = .returned (.string (cc d zs d.size)) ∧ Below w.heap.size w w' := by
  have hb0 : Below w.heap.size w (w.alloc (.cells #[.slice x n cap] 27)) := (Below.refl _ w).alloc (Nat.le_refl _) _
  have h' := isStrs_below h (Nat.le_refl _) hb0
  have hd400 := hd.1
  have hd' := Lib.hid hd.2
  have hb : ∀ j (h : j < d.size), ((d[j]'h).toNat : Int) = bt d j := fun j h => bt_eq d j h
  have hc8 := Lib.hid (cc_size8 (d := d) h8)
  have h8' := Lib.hid h8
  clear hd h8 h
  go_enter Tryd.func61, Tryd.ntmps61
  go_wp2_with fail
  go_loopw [5, 9] (fun o i wr => ∃ m : Nat, m ≤ d.size ∧ i = .int .i64 m ∧ o = .string (cc d zs m) ∧ Below (w.heap.size + 1) (w.alloc (.cells #[.slice x n cap] 27)) wr) (fun _ i _ => d.size - (intOf i).toNat)
  case atStart => exact ⟨0, by omega, rfl, rfl, Below.refl _ _⟩
  case round =>
    obtain ⟨m, hm, rfl, rfl, hbel⟩ := hrel
    have hzb := hbel.size
    simp only [World.size_alloc] at hzb
    by_cases hlt : m < d.size
    · obtain ⟨q1, q2⟩ := hd'.out m hlt
      obtain ⟨he, hl3⟩ := lt_eq q1
      obtain ⟨l, hl⟩ : ∃ l, lt d m = l := ⟨_, rfl⟩
      rw [hl] at he hl3 q2
      have hst := isStrs_below h' (show (w.alloc (.cells #[.slice x n cap] 27)).heap.size ≤ w.heap.size + 1 by simp) hbel
      have hstd : IsStrs wr.drew x n cap zs := hst
      have hcB : wr.cell? ⟨w.heap.size, 0, none⟩ = some (.slice x n cap) := (hbel.cell (by simp)).trans (by simp [go_sem])
      have hcs := hc8.out m
      have hzs := h8'.out l
      obtain ⟨z, hz⟩ : ∃ z, zs.getD l ByteArray.empty = z := ⟨_, rfl⟩
      have hC := image_any x n cap l zs wr.drew hstd q2 hl3
      rw [hz] at hzs hC
      have hrun := add_run2 (cc d zs m) z (by omega)
      have hnext : Hid (cc d zs (m + 1) = cc d zs m ++ z) := by show _ = _; rw [cc_succ, hl, hz]
      have hm0 : (0 : Int) ≤ (m : Int) := by omega
      have hm1' : (m : Int) < (d.size : Int) := by omega
      have hbw : w.heap.size < wr.heap.size := by omega
      obtain ⟨B, hB⟩ : ∃ B, (l : Int) + 97 = B := ⟨_, rfl⟩
      rw [hB] at he hC
      clear hl hz hst h' hB hl3 q1 q2 hd'
      go_wp2_with fail
      go_region_held3 (fun wx => (∀ bk ofs, bk < wr.heap.size → wx.cell? ⟨bk, ofs, none⟩ = (wr).cell? ⟨bk, ofs, none⟩) ∧ Below (wr.heap.size) (wr) wx) ((refine stays ?_; ((repeat (first | with_reducible exact Below.refl _ _ | assumption | with_reducible refine Qdrew ?_ | with_reducible refine QdrewN ?_ | ((with_reducible refine Qset ?_ ?_); exact (by ((try simp only [World.size_alloc, World.size_setCell, World.size_drew, size_drewN]); (try dsimp only); omega))) | ((with_reducible refine Qalloc ?_ ?_); exact (by ((try simp only [World.size_alloc, World.size_setCell, World.size_drew, size_drewN]); (try dsimp only); omega))) | refine Qtrans (by assumption) (by ((try simp only [World.size_alloc, World.size_setCell, World.size_drew, size_drewN]); (try dsimp only); omega)) ?_)) <;> (go_split_ands; assumption)))) (first | (go_at_call 99; with_reducible refine hC.mono ?_; rintro e w6 ⟨rfl, hb6⟩; obtain ⟨hc6, hf6⟩ := bcell hb6; have hl6 := ltW hb6; have hz6 := hb6.size; (try simp only [World.size_drew] at hz6)))
      all_goals go_wp2
      all_goals go_roundw
      case rel => exact ⟨m + 1, by omega, by go_num, by rw [hnext.out], Qtrans hb6 (by simp; omega) (Qdrew hbel)⟩
      case measure => (simp [intOf]) <;> omega
    · obtain rfl : m = d.size := by omega
      go_wp2
      go_ret
      exact ⟨rfl, Qtrans hbel (by omega) hb0⟩
theorem conv_bytes (w : World) (z : ByteArray) : ∃ K W2, (convert 9 24 (.string z)).run Tryd.prog w.drew = .ok (.slice (some ⟨w.heap.size, 0, none⟩) z.size K) W2 ∧ w.grownBy W2 none ∧ W2.heap.size = w.heap.size + 1 ∧ ∀ j u, (bv z.data.toList)[j]? = some u → W2.cell? ((⟨w.heap.size, 0, none⟩ : Addr).add j) = some u := by
  refine ⟨_, _, run_bytes_of_string w.drew 9 24 5 z Tryd.underlying9 Tryd.underlying24 Tryd.underlying5, ?_, ?_, ?_⟩
  · exact ⟨rfl, rfl, rfl, by simp, fun k hk _ => Below.heap_alloc w.drew.drew _ k hk⟩
  · simp
  · intro j u hu
    have hj : j < z.data.size := by
      by_cases h : j < z.data.size
      · exact h
      · rw [List.getElem?_eq_none (by have hs : z.data.size = z.size := rfl; simp [bv]; omega)] at hu; cases hu
    refine World.news_of_block (cs := bytesRow z (grownCap w.drew z.size 0 5)) (heap_alloc_new w.drew.drew _) j u ?_
    rw [Array.getElem?_toList, bytesRow_at z _ j hj, ← hu]
    simp [bv, Array.getElem?_eq_getElem hj]
theorem bv_app (a b : ByteArray) : bv (a ++ b).data.toList = bv a.data.toList ++ bv b.data.toList := by simp [bv]
theorem bv_one (l : List UInt8) : ∀ u ∈ bv l, u.oneCell' = true := by intro u hu; obtain ⟨z, _, rfl⟩ := List.mem_map.1 hu; rfl
end Go.Proofs.YtilbhingfnjppaaDoor
