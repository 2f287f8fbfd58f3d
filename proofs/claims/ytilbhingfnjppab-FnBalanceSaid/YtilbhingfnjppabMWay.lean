/- Several texts in one, in their order: Ways ParA ParC. -/
import Derived.Test.YtilbhingfnjppabMDra
import Derived.Test.YtilbhingfnjppabWordsShelf
set_option linter.unusedSimpArgs false
set_option linter.unusedVariables false
namespace Go.Proofs.Ytilbhingfnjppab
open Go.RowKit
/-- An image begins in a word at a place. -/
def hitP (s v : ByteArray) (p : Nat) : Bool := decide (p + v.size ≤ s.size) && ((s.extract p (p + v.size)).toList == v.toList)
theorem hitP_prefix (s v : ByteArray) (p : Nat) (hp : p ≤ s.size) : Lib.hasPrefix (s.extract p s.size).data.toList v.data.toList = hitP s v p := by
  have e1 : (s.extract p s.size).data.toList = s.data.toList.drop p := by
    rw [← Lib.toList_data, Lib.extract_toList, List.take_of_length_le]
    rw [List.length_drop, Array.length_toList]; exact Nat.le_refl _
  have e2 : (s.extract p (p + v.size)).toList = (s.data.toList.drop p).take v.data.toList.length := by
    rw [Lib.extract_toList, Array.length_toList]; congr 1; show p + v.size - p = v.data.size; have : v.data.size = v.size := rfl; omega
  have hl : v.data.toList.length = v.size := Array.length_toList
  have hs : s.data.toList.length = s.size := Array.length_toList
  unfold hitP Lib.hasPrefix
  rw [e1, e2, Lib.toList_data]
  rw [Bool.eq_iff_iff, List.isPrefixOf_iff_prefix, Bool.and_eq_true, decide_eq_true_eq, beq_iff_eq]
  constructor
  · intro h
    have hlen := h.length_le
    rw [List.length_drop, hl, hs] at hlen
    exact ⟨by omega, (List.prefix_iff_eq_take.1 h).symm⟩
  · rintro ⟨_, h⟩
    exact List.prefix_iff_eq_take.2 h.symm
def stp (s : ByteArray) (p : Nat) (xs : List Int) (v : ByteArray) : List Int := if hitP s v p then xs.set p (min 1000000 (wrap64 (xs.getD p 0 + xs.getD (p + v.size) 0))) else xs
theorem stp_len (s : ByteArray) (p : Nat) (xs : List Int) (v : ByteArray) : (stp s p xs v).length = xs.length := by unfold stp; split <;> simp
theorem fold_len (s : ByteArray) (p : Nat) : ∀ (zs : List ByteArray) (xs : List Int), (zs.foldl (stp s p) xs).length = xs.length
  | [], _ => rfl
  | z :: zs, xs => by rw [List.foldl_cons, fold_len s p zs, stp_len]
theorem fold_next (s : ByteArray) (p k : Nat) (zs : List ByteArray) (xs : List Int) (h : k < zs.length) : (zs.take (k + 1)).foldl (stp s p) xs = stp s p ((zs.take k).foldl (stp s p) xs) (zs.getD k ByteArray.empty) := by
  rw [take_next zs k ByteArray.empty h]; simp
/-- The row behind c places, from the last one down. -/
def wq (s : ByteArray) (zs : List ByteArray) : Nat → List Int
  | 0 => (List.replicate (s.size + 1) 0).set s.size 1
  | c + 1 => zs.foldl (stp s (s.size - 1 - c)) (wq s zs c)
theorem wq_len (s : ByteArray) (zs : List ByteArray) : ∀ c, (wq s zs c).length = s.size + 1
  | 0 => by simp [wq]
  | c + 1 => by rw [wq, fold_len, wq_len s zs c]
theorem wq_next (s : ByteArray) (zs : List ByteArray) (p : Nat) (h : p + 1 ≤ s.size) : wq s zs (s.size - p) = zs.foldl (stp s p) (wq s zs (s.size - (p + 1))) := by
  rw [show s.size - p = (s.size - (p + 1)) + 1 by omega, wq]
  congr 1; congr 1; omega
/-- The whole row. -/
def wys (s : ByteArray) (zs : List ByteArray) : List Int := wq s zs s.size
theorem made_at (N j : Nat) (h : j < N) : (madeCells (Value.int .i64 0).cells (N * 1)).toList[j]? = some (.int .i64 0) := by
  show (madeCells #[Value.int .i64 0] (N * 1)).toList[j]? = _
  rw [iv_zeros, iv_at _ _ (by simpa using h)]; simp [List.getD_eq_getElem?_getD, h]
theorem init_ways (s : ByteArray) (zs : List ByteArray) : (madeCells (Value.int .i64 0).cells ((s.size + 1) * 1)).toList.set s.size (.int .i64 1) = iv (wq s zs 0) := by
  show (madeCells #[Value.int .i64 0] ((s.size + 1) * 1)).toList.set s.size (.int .i64 1) = _
  rw [iv_zeros, iv_set]; rfl
theorem hasPrefix_any (s v : ByteArray) (p : Nat) (w : World) (hp : p ≤ s.size) :
    Calls Try.prog 64 #[.string (s.extract p s.size), .string v] w fun e w' => e = .returned (.bool (hitP s v p)) ∧ w = w' :=
  (Try.strings_HasPrefix _ _ w).mono fun e w' q => ⟨q.1.trans (by rw [hitP_prefix s v p hp]), q.2.symm⟩
set_option maxRecDepth 20000 in
set_option maxHeartbeats 4000000 in
theorem implWays_any (x : Option Addr) (n cap : Nat) (zs : List ByteArray) (s : ByteArray) (w : World) (h : IsStrs w x n cap zs) (hn4 : n ≤ 4) (hz8 : ∀ j, j < n → (zs.getD j ByteArray.empty).size ≤ 8) (hs400 : s.size ≤ 400) :
    Calls Try.prog 63 #[.agg #[.slice x n cap], .string s] w fun e w' => ∃ g, e = .returned (.slice (some ⟨g, 0, none⟩) (s.size + 1) (s.size + 1)) ∧ w.heap.size ≤ g ∧ w'.ownsRow w.heap.size 3 1 (.slice (some ⟨g, 0, none⟩) (s.size + 1) (s.size + 1)) (s.size + 1) (iv (wys s zs)) ∧ Below w.heap.size w w' := by
  obtain ⟨i0, hi0, hz0, hz1, hz2⟩ := info_parts infoI
  have hlen := h.1
  have hs0 : (0 : Int) ≤ (s.size : Int) := by omega
  have hs1 : (s.size : Int) < (s.size : Int) + 1 := by omega
  go_enter Try.func63, Try.ntmps63
  go_wp2_with (at_make; refine wpList_make_full _ rfl _ _ 32 rfl w.heap.size 3 i0 _ 1 Try.underlying32 hi0 hz0 hz1 .i64 .i64 _ _ (s.size + 1) (by rfl) (by rfl) (by omega) (by omega) (by rw [hz2]; omega) (by unfold maxLen; omega) (by simp) ?_; intro wM hownM hgM; simp only [World.size_alloc] at hownM; have hcM := (own_cell hownM s.size (by omega)).trans (made_at (s.size + 1) s.size (by omega)); have hfM := hownM.frozenAt)
  have hgM' := (hownM.lt (w.heap.size + 1) rfl).2
  have hown0 := (hownM.stored s.size (.int .i64 1)).1
  rw [init_ways s zs] at hown0
  have hcB : wM.cell? ⟨w.heap.size, 0, none⟩ = some (.slice x n cap) := hgM.cell (by simp [go_sem]) (by simp)
  have hbM : Below w.heap.size w wM := ((Below.refl _ w).alloc (Nat.le_refl _) _).grown hgM (by simp) (by simp)
  have hcB0 : (wM.setCell ⟨w.heap.size + 1, s.size, none⟩ (.int .i64 1)).cell? ⟨w.heap.size, 0, none⟩ = some (.slice x n cap) := (cset (by omega)).trans hcB
  have hbM0 : Below w.heap.size w (wM.setCell ⟨w.heap.size + 1, s.size, none⟩ (.int .i64 1)) := hbM.setCell (by simp) _
  clear hownM hcM hfM hgM hcB hbM
  go_loopw [6] (fun i wr => ∃ d : Nat, d ≤ s.size ∧ i = .int .i64 ((d : Int) - 1) ∧ wr.ownsRow w.heap.size 3 1 (.slice (some ⟨w.heap.size + 1, 0, none⟩) (s.size + 1) (s.size + 1)) (s.size + 1) (iv (wq s zs (s.size - d))) ∧ wr.cell? ⟨w.heap.size, 0, none⟩ = some (.slice x n cap) ∧ Below w.heap.size w wr) (fun i _ => (intOf i + 1).toNat)
  case atStart => exact ⟨s.size, Nat.le_refl _, rfl, by rw [Nat.sub_self]; exact hown0, hcB0, hbM0⟩
  case round =>
    clear hown0 hcB0 hbM0
    obtain ⟨d, hd, rfl, hown, hcB, hbel⟩ := hrel
    cases d with
    | zero =>
      rw [show ((0 : Nat) : Int) - 1 = -1 from rfl]
      go_wp2
      go_ret
      exact ⟨w.heap.size + 1, rfl, by omega, hown, hbel⟩
    | succ p =>
      rw [show ((p + 1 : Nat) : Int) - 1 = (p : Int) by omega]
      have hnx := Lib.hid (wq_next s zs p hd)
      have hwl := wq_len s zs (s.size - (p + 1))
      obtain ⟨X, hX⟩ : ∃ X, wq s zs (s.size - (p + 1)) = X := ⟨_, rfl⟩
      rw [hX] at hown hwl
      have hX' := Lib.hid hX
      have hp0 : (0 : Int) ≤ (p : Int) := by omega
      have hp1 : (p : Int) < (s.size : Int) + 1 := by omega
      have hp2 : (p : Int) ≤ (s.size : Int) := by omega
      clear hX
      go_wp2
      go_loopw [27] (fun i wr2 => ∃ (k : Nat) (xs : List Int), k ≤ n ∧ i = .int .i64 k ∧ Hid (xs = (zs.take k).foldl (stp s p) X) ∧ xs.length = s.size + 1 ∧ wr2.ownsRow w.heap.size 3 1 (.slice (some ⟨w.heap.size + 1, 0, none⟩) (s.size + 1) (s.size + 1)) (s.size + 1) (iv xs) ∧ wr2.cell? ⟨w.heap.size, 0, none⟩ = some (.slice x n cap) ∧ Below w.heap.size w wr2) (fun i _ => n - (intOf i).toNat)
      case atStart => exact ⟨0, X, by omega, rfl, rfl, hwl, hown, hcB, hbel⟩
      case round =>
        clear hown hcB hbel
        obtain ⟨k, xs, hk, rfl, hxs, hxl, hown, hcB, hbel⟩ := hrel
        have hxb : w.heap.size + 1 < wr.heap.size := (hown.lt (w.heap.size + 1) rfl).2
        by_cases hlt : k < n
        · obtain ⟨b, off, rfl, hb, hc⟩ := isStrs_cell h (by omega)
          have hck := (hbel.cell (by exact hb)).trans (hc k hlt)
          have hf := fold_next s p k zs X (by omega)
          have hv8 := hz8 k hlt
          obtain ⟨v, hv⟩ : ∃ v, zs.getD k ByteArray.empty = v := ⟨_, rfl⟩
          rw [hv] at hck hf hv8
          rw [← hxs] at hf
          have hf' := Lib.hid hf
          have hk0 : (0 : Int) ≤ (k : Int) := by omega
          have hk1 : (k : Int) < (n : Int) := by omega
          have hpf := Lib.hid (hitP_prefix s v p (by omega))
          clear hv hf hc
          cases hh : hitP s v p
          · have hst : Hid (stp s p xs v = xs) := by show _ = _; simp [stp, hh]
            have hps : p ≤ s.size := by omega
            go_wp2_with ((go_at_call 64; refine (hasPrefix_any _ _ _ _ hps).mono ?_; rintro e w1 ⟨rfl, rfl⟩))
            all_goals
              go_roundw
              case rel => exact ⟨k + 1, xs, by omega, by go_num, Lib.hid (by rw [hf'.out, hst.out]), hxl, hown, hcB, hbel⟩
              case measure => (simp [intOf]) <;> omega
          · have hst : Hid (stp s p xs v = xs.set p (min 1000000 (wrap64 (xs.getD p 0 + xs.getD (p + v.size) 0)))) := by show _ = _; simp [stp, hh]
            have hh2 := hh
            unfold hitP at hh2
            rw [Bool.and_eq_true, decide_eq_true_eq] at hh2
            obtain ⟨hle, heq⟩ := hh2
            have hq1 : (p : Int) + (v.size : Int) ≤ (s.size : Int) := by omega
            have hq2 : (0 : Int) ≤ (p : Int) + (v.size : Int) := by omega
            have hq3 : (p : Int) + (v.size : Int) < (s.size : Int) + 1 := by omega
            have hq4 : (p : Int) ≤ (p : Int) + (v.size : Int) := by omega
            have hc1 : wr.cell? ⟨w.heap.size + 1, p, none⟩ = some (.int .i64 (xs.getD p 0)) := by rw [own_cell hown p (by omega), iv_at _ _ (by omega)]
            have hc2 : wr.cell? ⟨w.heap.size + 1, p + v.size, none⟩ = some (.int .i64 (xs.getD (p + v.size) 0)) := by rw [own_cell hown (p + v.size) (by omega), iv_at _ _ (by omega)]
            have hfz := hown.frozenAt
            have hwr : IntKind.i64.wrap ((p : Int) + (v.size : Int)) = (p : Int) + (v.size : Int) := by rw [IntWalk.i64_left, IntWalk.wrap64_in]; omega
            obtain ⟨y1, hy1⟩ : ∃ y, xs.getD p 0 = y := ⟨_, rfl⟩
            obtain ⟨y2, hy2⟩ : ∃ y, xs.getD (p + v.size) 0 = y := ⟨_, rfl⟩
            rw [hy1] at hc1
            rw [hy2] at hc2
            have hst2 : Hid (stp s p xs v = xs.set p (min 1000000 (wrap64 (y1 + y2)))) := by rw [← hy1, ← hy2]; exact hst
            clear hy1 hy2 hst
            have hps : p ≤ s.size := by omega
            go_wp2_with ((go_at_call 64; refine (hasPrefix_any _ _ _ _ hps).mono ?_; rintro e w1 ⟨rfl, rfl⟩))
            go_region
            go_wp2
            go_roundw
            case rel => exact ⟨k + 1, xs.set p (min 1000000 (wrap64 (y1 + y2))), by omega, by go_num, Lib.hid (by rw [hf'.out, hst2.out]), by simpa using hxl, by rw [Int.min_comm] at *; rw [← iv_set]; exact ((hown.stored p _).1).drew, (cset (by omega)).trans hcB, (hbel.setCell (by simp) _).drew⟩
            case measure => (simp [intOf]) <;> omega
        · obtain rfl : n = k := by omega
          have hlt' : ¬ (n : Int) < (n : Int) := by omega
          have hxe : Hid (xs = wq s zs (s.size - p)) := by
            show _ = _
            rw [hnx.out, hX'.out]
            have := hxs.out
            rw [List.take_of_length_le (by omega)] at this
            exact this
          go_wp2
          go_roundw
          case rel => exact ⟨p, by omega, rfl, by rw [← hxe.out]; exact hown, hcB, hbel⟩
          case measure => (simp [intOf]) <;> omega
end Go.Proofs.Ytilbhingfnjppab

namespace Go.Proofs.Ytilbhingfnjppab
open Go.RowKit
theorem s_bounds {zs : List ByteArray} {n : Nat} (hl : zs.length = n) (h : sB zs = true) : n ≤ 4 ∧ ∀ j, j < n → (zs.getD j ByteArray.empty).size ≤ 8 := by
  have q := s_of h
  exact ⟨by have := q.1; omega, fun j hj => (q.2 j (by omega)).1.2⟩
noncomputable def pk (zs : List ByteArray) (s : ByteArray) : Bool := sB zs && isWB s
noncomputable def cpV (zs : List ByteArray) (s : ByteArray) : Int := if pk zs s then (wys s zs).getD 0 0 else -1
theorem wys_len (s : ByteArray) (zs : List ByteArray) : (wys s zs).length = s.size + 1 := wq_len s zs s.size
def BXo (x : Option Addr) (n cap : Nat) : Obj := .cells #[.slice x n cap] 25
set_option maxRecDepth 20000 in
set_option maxHeartbeats 1000000 in
theorem implCount_any (x : Option Addr) (n cap : Nat) (zs : List ByteArray) (s : ByteArray) (w : World) (h : IsStrs w x n cap zs) (hn : n ≤ 1048576) (hs : s.size ≤ 9223372036854775807) :
    Calls Try.prog 11 #[.agg #[.slice x n cap], .string s] w fun e w' => e = .returned (.int .i64 (cpV zs s)) ∧ Below w.heap.size w w' := by
  have hb0 : Below w.heap.size w (w.alloc (.cells #[.slice x n cap] 25)) := (Below.refl _ w).alloc (Nat.le_refl _) _
  have h' := isStrs_below h (Nat.le_refl _) hb0
  cases hk : sB zs && isWB s
  · have hv : Hid (cpV zs s = -1) := by show _ = _; simp [cpV, pk, hk]
    cases hS : sB zs
    · go_enter Try.func11, Try.ntmps11
      go_wp2_with (go_at_call 32; refine (implSubstOk_any _ _ _ _ _ h' hn).mono ?_; rintro e w1 ⟨rfl, hb1⟩)
      go_ret
      exact ⟨ret_int hv.out.symm, by (repeat (first | with_reducible exact Below.refl _ _ | assumption | with_reducible refine Qdrew ?_ | with_reducible refine QdrewN ?_ | ((with_reducible refine Qset ?_ ?_); exact (by ((try simp only [World.size_alloc, World.size_setCell, World.size_drew, size_drewN]); (try dsimp only); omega))) | ((with_reducible refine Qalloc ?_ ?_); exact (by ((try simp only [World.size_alloc, World.size_setCell, World.size_drew, size_drewN]); (try dsimp only); omega))) | refine Qtrans (by assumption) (by ((try simp only [World.size_alloc, World.size_setCell, World.size_drew, size_drewN]); (try dsimp only); omega)) ?_))⟩
    · rw [hS, Bool.true_and] at hk
      go_enter Try.func11, Try.ntmps11
      go_wp2_with (first | (go_at_call 32; refine (implSubstOk_any _ _ _ _ _ h' hn).mono ?_; rintro e w1 ⟨rfl, hb1⟩) | (go_at_call 62; refine (isWord_any _ _ hs).mono ?_; rintro e w1 ⟨rfl, rfl⟩))
      go_ret
      exact ⟨ret_int hv.out.symm, by (repeat (first | with_reducible exact Below.refl _ _ | assumption | with_reducible refine Qdrew ?_ | with_reducible refine QdrewN ?_ | ((with_reducible refine Qset ?_ ?_); exact (by ((try simp only [World.size_alloc, World.size_setCell, World.size_drew, size_drewN]); (try dsimp only); omega))) | ((with_reducible refine Qalloc ?_ ?_); exact (by ((try simp only [World.size_alloc, World.size_setCell, World.size_drew, size_drewN]); (try dsimp only); omega))) | refine Qtrans (by assumption) (by ((try simp only [World.size_alloc, World.size_setCell, World.size_drew, size_drewN]); (try dsimp only); omega)) ?_))⟩
  · have hv : Hid (cpV zs s = (wys s zs).getD 0 0) := by show _ = _; simp [cpV, pk, hk]
    rw [Bool.and_eq_true] at hk
    obtain ⟨hk1, hk2⟩ := hk
    obtain ⟨hn4, hz8⟩ := s_bounds h.1 hk1
    have hs4 := (isW_of hk2).1
    have hwl := Lib.hid (wys_len s zs)
    have f1 : (0 : Int) < (s.size : Int) + 1 := by omega
    go_enter Try.func11, Try.ntmps11
    go_wp2_with (first | (go_at_call 32; refine (implSubstOk_any _ _ _ _ _ h' hn).mono ?_; rintro e w1 ⟨rfl, hb1⟩; obtain ⟨hc1, hf1⟩ := bcell hb1) | (go_at_call 62; refine (isWord_any _ _ hs).mono ?_; rintro e w1 ⟨rfl, rfl⟩))
    have h1 := isStrs_below h' (Nat.le_refl _) hb1
    go_wp2_with (go_at_call 63; refine (implWays_any _ _ _ _ _ _ h1 hn4 hz8 hs4).mono ?_; rintro e w2 ⟨g, rfl, hg, hown, hb2⟩; have hcc := own_cell hown 0 (by omega); rw [iv_at _ _ (by rw [hwl.out]; omega)] at hcc)
    have hz1 := hb1.size
    simp only [World.size_alloc] at hz1
    go_ret
    exact ⟨ret_int hv.out.symm, by (repeat (first | with_reducible exact Below.refl _ _ | assumption | with_reducible refine Qdrew ?_ | with_reducible refine QdrewN ?_ | ((with_reducible refine Qset ?_ ?_); exact (by ((try simp only [World.size_alloc, World.size_setCell, World.size_drew, size_drewN]); (try dsimp only); omega))) | ((with_reducible refine Qalloc ?_ ?_); exact (by ((try simp only [World.size_alloc, World.size_setCell, World.size_drew, size_drewN]); (try dsimp only); omega))) | refine Qtrans (by assumption) (by ((try simp only [World.size_alloc, World.size_setCell, World.size_drew, size_drewN]); (try dsimp only); omega)) ?_))⟩
end Go.Proofs.Ytilbhingfnjppab

namespace Go.Proofs.Ytilbhingfnjppab
open Go.RowKit
theorem getD_set_ne {l : List Int} {i j : Nat} {v : Int} (h : i ≠ j) : (l.set i v).getD j 0 = l.getD j 0 := by simp [List.getD_eq_getElem?_getD, List.getElem?_set, h]
theorem getD_set_eq {l : List Int} {i : Nat} {v : Int} (h : i < l.length) : (l.set i v).getD i 0 = v := by simp [List.getD_eq_getElem?_getD, List.getElem?_set, h]
theorem stp_other {s v : ByteArray} {p j : Nat} {xs : List Int} (h : p ≠ j) : (stp s p xs v).getD j 0 = xs.getD j 0 := by
  unfold stp; split
  · exact getD_set_ne h
  · rfl
theorem fold_other {s : ByteArray} {p j : Nat} (h : p ≠ j) : ∀ (zs : List ByteArray) (xs : List Int), (zs.foldl (stp s p) xs).getD j 0 = xs.getD j 0
  | [], _ => rfl
  | z :: zs, xs => by rw [List.foldl_cons, fold_other h zs, stp_other h]
/-- All numbers of a row lie from 0 to a million. -/
def low (xs : List Int) : Prop := ∀ j, 0 ≤ xs.getD j 0 ∧ xs.getD j 0 ≤ 1000000
theorem stp_low {s v : ByteArray} {p : Nat} {xs : List Int} (h : low xs) : low (stp s p xs v) := by
  intro j
  unfold stp; split
  · by_cases hj : p = j
    · subst hj
      by_cases hp : p < xs.length
      · rw [getD_set_eq hp]
        have h1 := h p
        have h2 := h (p + v.size)
        rw [IntWalk.wrap64_in _ (by omega)]; omega
      · rw [List.set_eq_of_length_le (by omega)]; exact h p
    · rw [getD_set_ne hj]; exact h j
  · exact h j
theorem fold_low {s : ByteArray} {p : Nat} : ∀ (zs : List ByteArray) (xs : List Int), low xs → low (zs.foldl (stp s p) xs)
  | [], _, h => h
  | z :: zs, xs, h => by rw [List.foldl_cons]; exact fold_low zs _ (stp_low h)
theorem wq_low (s : ByteArray) (zs : List ByteArray) : ∀ c, low (wq s zs c)
  | 0 => by
    intro j
    rw [wq]
    by_cases hj : s.size = j
    · subst hj; rw [getD_set_eq (by simp)]; omega
    · rw [getD_set_ne hj]; simp [List.getD_eq_getElem?_getD, List.getElem?_replicate]; split <;> simp
  | c + 1 => by rw [wq]; exact fold_low zs _ (wq_low s zs c)
/-- Where something comes of a step, an image begins there. -/
theorem stp_pos {s v : ByteArray} {p : Nat} {xs : List Int} (hl : low xs) (h : 0 < (stp s p xs v).getD p 0) (h1 : 1 ≤ v.size) : 0 < xs.getD p 0 ∨ (hitP s v p = true ∧ 0 < xs.getD (p + v.size) 0) := by
  unfold stp at h
  cases hh : hitP s v p
  · left; simpa [hh] using h
  · rw [hh, if_pos rfl] at h
    by_cases hp : p < xs.length
    · rw [getD_set_eq hp] at h
      have a1 := hl p
      have a2 := hl (p + v.size)
      rw [IntWalk.wrap64_in _ (by omega)] at h
      by_cases h0 : 0 < xs.getD p 0
      · exact .inl h0
      · right; exact ⟨rfl, by omega⟩
    · rw [List.set_eq_of_length_le (by omega)] at h; exact .inl h
theorem fold_pos {s : ByteArray} {p : Nat} : ∀ (zs : List ByteArray) (xs : List Int), low xs → (∀ v ∈ zs, 1 ≤ v.size) → 0 < (zs.foldl (stp s p) xs).getD p 0 → 0 < xs.getD p 0 ∨ ∃ v ∈ zs, hitP s v p = true ∧ 0 < xs.getD (p + v.size) 0
  | [], _, _, _, h => .inl h
  | z :: zs, xs, hl, hv, h => by
    rw [List.foldl_cons] at h
    rcases fold_pos zs _ (stp_low hl) (fun v q => hv v (by simp [q])) h with h | ⟨v, hvm, h1, h2⟩
    · rcases stp_pos hl h (hv z (by simp)) with h | ⟨h1, h2⟩
      · exact .inl h
      · exact .inr ⟨z, by simp, h1, h2⟩
    · right
      refine ⟨v, by simp [hvm], h1, ?_⟩
      rw [stp_other (by have := hv v (by simp [hvm]); omega)] at h2
      exact h2
theorem wq_zero (s : ByteArray) (zs : List ByteArray) : ∀ c j, j < s.size - c → (wq s zs c).getD j 0 = 0
  | 0, j, h => by rw [wq, getD_set_ne (by omega)]; simp [List.getD_eq_getElem?_getD, List.getElem?_replicate]; split <;> simp
  | c + 1, j, h => by rw [wq, fold_other (by omega)]; exact wq_zero s zs c j (by omega)
theorem wq_keep (s : ByteArray) (zs : List ByteArray) (c j : Nat) (h : s.size ≤ j + c) : ∀ m, (wq s zs (c + m)).getD j 0 = (wq s zs c).getD j 0 ∨ s.size < c + m
  | 0 => .inl rfl
  | m + 1 => by
    by_cases hb : s.size < c + (m + 1)
    · exact .inr hb
    · left
      rcases wq_keep s zs c j h m with h' | h'
      · rw [← h', show c + (m + 1) = (c + m) + 1 by omega, wq, fold_other (by omega)]
      · omega
theorem wys_at (s : ByteArray) (zs : List ByteArray) (c j : Nat) (hc : c ≤ s.size) (h : s.size ≤ j + c) : (wys s zs).getD j 0 = (wq s zs c).getD j 0 := by
  rcases wq_keep s zs c j h (s.size - c) with h' | h'
  · rw [← h', show c + (s.size - c) = s.size by omega]; rfl
  · omega
theorem wys_pos {s : ByteArray} {zs : List ByteArray} {p : Nat} (hv : ∀ v ∈ zs, 1 ≤ v.size) (hp : p < s.size) (h : 0 < (wys s zs).getD p 0) : ∃ v ∈ zs, hitP s v p = true ∧ 0 < (wys s zs).getD (p + v.size) 0 := by
  rw [wys_at s zs (s.size - p) p (by omega) (by omega), wq_next s zs p hp] at h
  rcases fold_pos zs _ (wq_low s zs _) hv h with h | ⟨v, hvm, h1, h2⟩
  · rw [wq_zero s zs _ p (by omega)] at h; omega
  · refine ⟨v, hvm, h1, ?_⟩
    have hv1 := hv v hvm
    rw [wys_at s zs (s.size - (p + 1)) (p + v.size) (by omega) (by omega)]
    exact h2
/-- An image may be taken at a place. -/
noncomputable def good (s : ByteArray) (F : List Int) (p : Nat) (v : ByteArray) : Bool := hitP s v p && decide (0 < F.getD (p + v.size) 0)
/-- The first image that may be taken. -/
noncomputable def ch (s : ByteArray) (zs : List ByteArray) (F : List Int) (p : Nat) : Nat := zs.findIdx (good s F p)
theorem ch_lt {s : ByteArray} {zs : List ByteArray} {F : List Int} {p : Nat} (h : ∃ v ∈ zs, good s F p v = true) : ch s zs F p < zs.length := List.findIdx_lt_length.2 h
theorem ch_is {s : ByteArray} {zs : List ByteArray} {F : List Int} {p k : Nat} (hk : k < zs.length) (h : good s F p (zs.getD k ByteArray.empty) = true) (hn : ∀ j, j < k → good s F p (zs.getD j ByteArray.empty) = false) : ch s zs F p = k := by
  unfold ch
  rw [List.findIdx_eq hk]
  refine ⟨by simpa [List.getD_eq_getElem?_getD, hk] using h, fun j hj => ?_⟩
  have := hn j hj
  simpa [List.getD_eq_getElem?_getD, show j < zs.length by omega] using this
noncomputable def nxt1 (s : ByteArray) (zs : List ByteArray) (F : List Int) (a : List UInt8 × Nat) : List UInt8 × Nat :=
  if a.2 < s.size then (a.1 ++ [97 + UInt8.ofNat (ch s zs F a.2)], a.2 + (zs.getD (ch s zs F a.2) ByteArray.empty).size) else a
noncomputable def its (s : ByteArray) (zs : List ByteArray) (F : List Int) : Nat → List UInt8 × Nat
  | 0 => ([], 0)
  | m + 1 => nxt1 s zs F (its s zs F m)
theorem its_stay {s : ByteArray} {zs : List ByteArray} {F : List Int} {m : Nat} (h : s.size ≤ (its s zs F m).2) : ∀ j, its s zs F (m + j) = its s zs F m
  | 0 => rfl
  | j + 1 => by rw [show m + (j + 1) = (m + j) + 1 by omega, its, its_stay h j, nxt1, if_neg (by omega)]
theorem its_end {s : ByteArray} {zs : List ByteArray} {F : List Int} {m : Nat} (h : s.size ≤ (its s zs F m).2) (hm : m ≤ s.size) : (its s zs F s.size).1 = (its s zs F m).1 := by
  have := its_stay h (s.size - m)
  rw [show m + (s.size - m) = s.size by omega] at this
  rw [this]
theorem its_next {s : ByteArray} {zs : List ByteArray} {F : List Int} {m k p : Nat} {acc : List UInt8} (h : its s zs F m = (acc, p)) (hp : p < s.size) (hk : ch s zs F p = k) : its s zs F (m + 1) = (acc ++ [97 + UInt8.ofNat k], p + (zs.getD k ByteArray.empty).size) := by
  rw [its, h, nxt1, if_pos (by exact hp)]; simp only [hk]
/-- The parent, as letters. -/
noncomputable def par (s : ByteArray) (zs : List ByteArray) : List UInt8 := (its s zs (wys s zs) s.size).1
end Go.Proofs.Ytilbhingfnjppab
