/- Substitutions applied to short words: the walks. -/
import Derived.Test.YtfbcbfimhgaicaaFromD
import Derived.Test.YtfbcbfimhgaicaaLawT
import Derived.Laws.IdiomStrings
import Derived.Deep.RegionLaw
set_option linter.unusedSimpArgs false
set_option linter.unusedVariables false
namespace Go.Proofs.Ytfbcbfimhgaicaa
open Go.RowKit
/-- A short word over n letters. -/
def shortP (n : Nat) (d : ByteArray) : Prop := d.size ≤ 400 ∧ ∀ j, j < d.size → inL d j ∧ lt d j < n
def small8 (zs : List ByteArray) : Prop := ∀ j, (zs.getD j ByteArray.empty).size ≤ 8
theorem cc_size8 {d : ByteArray} {zs : List ByteArray} (h : small8 zs) : ∀ k, (cc d zs k).size ≤ 8 * k
  | 0 => Nat.zero_le _
  | k + 1 => by have := cc_size8 (d := d) h k; have := h (lt d k); rw [cc_succ, ByteArray.size_append]; omega
theorem add_run2 (a b : ByteArray) (h : a.size + b.size ≤ 9223372036854775807) (w : World) : (Op.stringOp .add a b).run Try.prog w = .ok (.string (a ++ b)) w := run_string_add_sum w a b h
set_option maxRecDepth 20000 in
set_option maxHeartbeats 1000000 in
theorem image_any (x : Option Addr) (n cap l : Nat) (zs : List ByteArray) (w : World) (h : IsStrs w x n cap zs) (hl : l < n) (hl3 : l ≤ 3) :
    Calls Try.prog 103 #[.agg #[.slice x n cap], .int .u8 ((l : Int) + 97)] w fun e w' => e = .returned (.string (zs.getD l ByteArray.empty)) ∧ Below w.heap.size w w' := by
  have hb0 : Below w.heap.size w (w.alloc (.cells #[.slice x n cap] 39)) := (Below.refl _ w).alloc (Nat.le_refl _) _
  have h' := isStrs_below h (Nat.le_refl _) hb0
  obtain ⟨b, off, rfl, hbl, hc⟩ := isStrs_cell h' (by omega)
  have hck := hc l hl
  have hu : IntKind.u8.wrap ((l : Int) + 97 - 97) = (l : Int) := by rw [show (l : Int) + 97 - 97 = (l : Int) by omega]; exact u8_small l (by omega)
  have hu2 := u8_small l (by omega)
  have hl0 : (0 : Int) ≤ (l : Int) := by omega
  have hl1 : (l : Int) < (n : Int) := by omega
  clear hc h h'
  go_enter Try.func103, Try.ntmps103
  go_wp2
  go_ret
  exact ⟨rfl, by (repeat (first | with_reducible exact Below.refl _ _ | assumption | with_reducible refine Qdrew ?_ | with_reducible refine QdrewN ?_ | ((with_reducible refine Qset ?_ ?_); exact (by ((try simp only [World.size_alloc, World.size_setCell, World.size_drew, size_drewN]); (try dsimp only); omega))) | ((with_reducible refine Qalloc ?_ ?_); exact (by ((try simp only [World.size_alloc, World.size_setCell, World.size_drew, size_drewN]); (try dsimp only); omega))) | refine Qtrans (by assumption) (by ((try simp only [World.size_alloc, World.size_setCell, World.size_drew, size_drewN]); (try dsimp only); omega)) ?_))⟩
set_option maxRecDepth 20000 in
set_option maxHeartbeats 2000000 in
theorem apply_any (x : Option Addr) (n cap : Nat) (zs : List ByteArray) (d : ByteArray) (w : World) (h : IsStrs w x n cap zs) (hd : shortP n d) (h8 : small8 zs) :
    Calls Try.prog 69 #[.agg #[.slice x n cap], .string d] w fun e w' => e = .returned (.string (cc d zs d.size)) ∧ Below w.heap.size w w' := by
  have hb0 : Below w.heap.size w (w.alloc (.cells #[.slice x n cap] 39)) := (Below.refl _ w).alloc (Nat.le_refl _) _
  have h' := isStrs_below h (Nat.le_refl _) hb0
  have hd400 := hd.1
  have hd' := Lib.hid hd.2
  have hb : ∀ j (h : j < d.size), ((d[j]'h).toNat : Int) = bt d j := fun j h => bt_eq d j h
  have hc8 := Lib.hid (cc_size8 (d := d) h8)
  have h8' := Lib.hid h8
  clear hd h8 h
  go_enter Try.func69, Try.ntmps69
  go_wp2_with fail
  go_loopw [5, 9] (fun o i wr => ∃ m : Nat, m ≤ d.size ∧ i = .int .i64 m ∧ o = .string (cc d zs m) ∧ Below (w.heap.size + 1) (w.alloc (.cells #[.slice x n cap] 39)) wr) (fun _ i _ => d.size - (intOf i).toNat)
  case atStart => exact ⟨0, by omega, rfl, rfl, Below.refl _ _⟩
  case round =>
    obtain ⟨m, hm, rfl, rfl, hbel⟩ := hrel
    have hzb := hbel.size
    simp only [World.size_alloc] at hzb
    by_cases hlt : m < d.size
    · obtain ⟨q1, q2⟩ := hd'.out m hlt
      obtain ⟨he, hl3⟩ := lt_eq q1
      obtain ⟨l, hl⟩ : ∃ l, lt d m = l := ⟨_, rfl⟩
      rw [hl] at he hl3 q2
      have hst := isStrs_below h' (show (w.alloc (.cells #[.slice x n cap] 39)).heap.size ≤ w.heap.size + 1 by simp) hbel
      have hstd : IsStrs wr.drew x n cap zs := hst
      have hcB : wr.cell? ⟨w.heap.size, 0, none⟩ = some (.slice x n cap) := (hbel.cell (by simp)).trans (by simp [go_sem])
      have hcs := hc8.out m
      have hzs := h8'.out l
      obtain ⟨z, hz⟩ : ∃ z, zs.getD l ByteArray.empty = z := ⟨_, rfl⟩
      have hC := image_any x n cap l zs wr.drew hstd q2 hl3
      rw [hz] at hzs hC
      have hrun := add_run2 (cc d zs m) z (by omega)
      have hnext : Hid (cc d zs (m + 1) = cc d zs m ++ z) := by show _ = _; rw [cc_succ, hl, hz]
      have hm0 : (0 : Int) ≤ (m : Int) := by omega
      have hm1' : (m : Int) < (d.size : Int) := by omega
      have hbw : w.heap.size < wr.heap.size := by omega
      obtain ⟨B, hB⟩ : ∃ B, (l : Int) + 97 = B := ⟨_, rfl⟩
      rw [hB] at he hC
      clear hl hz hst h' hB hl3 q1 q2 hd'
      go_wp2_with fail
      go_region_held3 (fun wx => (∀ bk ofs, bk < wr.heap.size → wx.cell? ⟨bk, ofs, none⟩ = (wr).cell? ⟨bk, ofs, none⟩) ∧ Below (wr.heap.size) (wr) wx) ((refine stays ?_; ((repeat (first | with_reducible exact Below.refl _ _ | assumption | with_reducible refine Qdrew ?_ | with_reducible refine QdrewN ?_ | ((with_reducible refine Qset ?_ ?_); exact (by ((try simp only [World.size_alloc, World.size_setCell, World.size_drew, size_drewN]); (try dsimp only); omega))) | ((with_reducible refine Qalloc ?_ ?_); exact (by ((try simp only [World.size_alloc, World.size_setCell, World.size_drew, size_drewN]); (try dsimp only); omega))) | refine Qtrans (by assumption) (by ((try simp only [World.size_alloc, World.size_setCell, World.size_drew, size_drewN]); (try dsimp only); omega)) ?_)) <;> (go_split_ands; assumption)))) (first | (go_at_call 103; with_reducible refine hC.mono ?_; rintro e w6 ⟨rfl, hb6⟩; obtain ⟨hc6, hf6⟩ := bcell hb6; have hl6 := ltW hb6; have hz6 := hb6.size; (try simp only [World.size_drew] at hz6)))
      all_goals go_wp2
      all_goals go_roundw
      case rel => exact ⟨m + 1, by omega, by go_num, by rw [hnext.out], Qtrans hb6 (by simp; omega) (Qdrew hbel)⟩
      case measure => (simp [intOf]) <;> omega
    · obtain rfl : m = d.size := by omega
      go_wp2
      go_ret
      exact ⟨rfl, Qtrans hbel (by omega) hb0⟩
theorem conv_bytes (w : World) (z : ByteArray) : ∃ K W2, (convert 9 72 (.string z)).run Try.prog w.drew = .ok (.slice (some ⟨w.heap.size, 0, none⟩) z.size K) W2 ∧ w.grownBy W2 none ∧ W2.heap.size = w.heap.size + 1 ∧ ∀ j u, (bv z.data.toList)[j]? = some u → W2.cell? ((⟨w.heap.size, 0, none⟩ : Addr).add j) = some u := by
  refine ⟨_, _, run_bytes_of_string w.drew 9 72 5 z Try.underlying9 Try.underlying72 Try.underlying5, ?_, ?_, ?_⟩
  · exact ⟨rfl, rfl, rfl, by simp, fun k hk _ => Below.heap_alloc w.drew.drew _ k hk⟩
  · simp
  · intro j u hu
    have hj : j < z.data.size := by
      by_cases h : j < z.data.size
      · exact h
      · rw [List.getElem?_eq_none (by have hs : z.data.size = z.size := rfl; simp [bv]; omega)] at hu; cases hu
    refine World.news_of_block (cs := bytesRow z (grownCap w.drew z.size 0 5)) (heap_alloc_new w.drew.drew _) j u ?_
    rw [Array.getElem?_toList, bytesRow_at z _ j hj, ← hu]
    simp [bv, Array.getElem?_eq_getElem hj]
theorem bv_app (a b : ByteArray) : bv (a ++ b).data.toList = bv a.data.toList ++ bv b.data.toList := by simp [bv]
theorem bv_one (l : List UInt8) : ∀ u ∈ bv l, u.oneCell' = true := by intro u hu; obtain ⟨z, _, rfl⟩ := List.mem_map.1 hu; rfl
set_option maxRecDepth 20000 in
set_option maxHeartbeats 2000000 in
theorem l03Apply_any (x : Option Addr) (n cap : Nat) (zs : List ByteArray) (d : ByteArray) (w : World) (h : IsStrs w x n cap zs) (hd : shortP n d) (hd4 : d.size ≤ 40) (h8 : small8 zs) (hz1 : ∀ j, j < n → 1 ≤ (zs.getD j ByteArray.empty).size) :
    Calls Try.prog 66 #[.agg #[.slice x n cap], .string d] w fun e w' => e = .returned (.string (cc d zs d.size)) ∧ Below w.heap.size w w' := by
  obtain ⟨i0, hi0, hy0, hy1, hy2⟩ := info_parts infoB
  have hb0 : Below w.heap.size w (w.alloc (.cells #[.slice x n cap] 39)) := (Below.refl _ w).alloc (Nat.le_refl _) _
  have h' := isStrs_below h (Nat.le_refl _) hb0
  have hd' := Lib.hid hd.2
  have hb : ∀ j (h : j < d.size), ((d[j]'h).toNat : Int) = bt d j := fun j h => bt_eq d j h
  have hc8 := Lib.hid (cc_size8 (d := d) h8)
  have h8' := Lib.hid h8
  have hz1' := Lib.hid hz1
  have hown0 := World.ownsRow_lit (base := w.heap.size + 1) (e := 5) (size := 1) (w.alloc (.cells #[.slice x n cap] 39)) #[] 0 (by simp) (by decide) rfl
  clear hd h8 h hz1
  go_enter Try.func66, Try.ntmps66
  go_wp2_with fail
  go_loopw [5, 6] (fun o i wr => ∃ m g c N : Nat, m ≤ d.size ∧ i = .int .i64 m ∧ o = .slice (some ⟨g, 0, none⟩) N c ∧ (cc d zs m).size = N ∧ wr.ownsRow (w.heap.size + 1) 5 1 (.slice (some ⟨g, 0, none⟩) N c) N (bv (cc d zs m).data.toList) ∧ Below (w.heap.size + 1) (w.alloc (.cells #[.slice x n cap] 39)) wr) (fun _ i _ => d.size - (intOf i).toNat)
  case atStart => exact ⟨0, w.heap.size + 1, 0, 0, by omega, rfl, by simp, rfl, by simpa [cc, bv] using hown0, (Below.refl _ _).alloc (by simp) _⟩
  case round =>
    clear hown0
    obtain ⟨m, g, c, N, hm, rfl, rfl, hN, hown, hbel⟩ := hrel
    have hzb := hbel.size
    simp only [World.size_alloc] at hzb
    by_cases hlt : m < d.size
    · obtain ⟨q1, q2⟩ := hd'.out m hlt
      obtain ⟨he, hl3⟩ := lt_eq q1
      obtain ⟨l, hl⟩ : ∃ l, lt d m = l := ⟨_, rfl⟩
      rw [hl] at he hl3 q2
      have hst := isStrs_below h' (show (w.alloc (.cells #[.slice x n cap] 39)).heap.size ≤ w.heap.size + 1 by simp) hbel
      obtain ⟨b, off, rfl, hbl, hcl⟩ := isStrs_cell hst (by omega)
      have hck := hcl l q2
      have hcB : wr.cell? ⟨w.heap.size, 0, none⟩ = some (.slice (some ⟨b, off, none⟩) n cap) := (hbel.cell (by simp)).trans (by simp [go_sem])
      have hcs := hc8.out m
      have hzs := h8'.out l
      have hzz := hz1'.out l q2
      obtain ⟨z, hz⟩ : ∃ z, zs.getD l ByteArray.empty = z := ⟨_, rfl⟩
      rw [hz] at hzs hck hzz
      have hnext : Hid (cc d zs (m + 1) = cc d zs m ++ z) := by show _ = _; rw [cc_succ, hl, hz]
      have hm0 : (0 : Int) ≤ (m : Int) := by omega
      have hm1' : (m : Int) < (d.size : Int) := by omega
      have hbw : w.heap.size < wr.heap.size := by omega
      have hu : IntKind.u8.wrap ((l : Int) + 97 - 97) = (l : Int) := by rw [show (l : Int) + 97 - 97 = (l : Int) by omega]; exact u8_small l (by omega)
      have hu2 := u8_small l (by omega)
      have hl0 : (0 : Int) ≤ (l : Int) := by omega
      have hl1 : (l : Int) < (n : Int) := by omega
      have hN4 : (N : Int) ≤ 400 := by omega
      obtain ⟨M, hM⟩ : ∃ M, bv (cc d zs m).data.toList = M := ⟨_, rfl⟩
      rw [hM] at hown
      clear hl hz hcl hst h' hl3 q1 q2 hd'
      obtain ⟨K, W2, hconv, hgW, hzW, hcW⟩ := conv_bytes wr z
      have hownW := hown.kept hgW (.inr (by simp [Value.ownBlock]))
      have hbelW := hbel.grown hgW (by omega) (fun k hk => by cases hk)
      have hbz : (bv z.data.toList).length = z.size * 1 := by simp [bv]
      go_wp2_with fail
      go_region_law ((refine step_append_lies _ (by rfl) _ _ _ (by rfl) (w.heap.size + 1) 5 i0 _ 1 1 Try.underlying72 hi0 hy0 hy1 hy2 rfl (by decide) (.slice (some ⟨g, 0, none⟩) N c) N M (by rfl) hownW ⟨wr.heap.size, 0, none⟩ z.size K (bv z.data.toList) (by rfl) hbz hcW (bv_one _) (by omega) (by unfold maxLen; omega) (by omega) (by omega) (wr.heap.size + 1) (by omega) ?_; intro gg capA w1 hown1 hgrow hatg hltg))
      all_goals
        go_wp2
        go_roundw
        case rel => exact ⟨m + 1, gg, _, N + z.size, by omega, by go_num, rfl, by rw [hnext.out, ByteArray.size_append, hN], by rw [hnext.out, bv_app, hM]; exact hown1, hbelW.grown hgrow (by omega) (fun k hk => by have := (hownW.lt k hk).1; omega)⟩
        case measure => (simp [intOf]) <;> omega
    · obtain rfl : m = d.size := by omega
      have hNs : (cc d zs d.size).data.toList.length = N := by simpa using hN
      have hx : ¬ (d.size : Int) < (d.size : Int) := by omega
      have hos := own_string (w := wr) (B := w.heap.size + 1) (g := g) (cap := c) (l := (cc d zs d.size).data.toList) (by rw [hNs]; exact hown)
      rw [hNs] at hos
      have e1 : (⟨(cc d zs d.size).data.toList.toArray⟩ : ByteArray) = cc d zs d.size := by cases (cc d zs d.size); simp
      rw [e1] at hos
      go_wp2
      go_ret
      exact ⟨rfl, Qtrans hbel (by omega) hb0⟩
end Go.Proofs.Ytfbcbfimhgaicaa
