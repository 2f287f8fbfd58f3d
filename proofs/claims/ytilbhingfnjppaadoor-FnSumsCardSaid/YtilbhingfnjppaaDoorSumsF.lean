/- The walks of the ways to sum, and the law. -/
import Derived.Test.YtilbhingfnjppaaDoorSumsE
set_option linter.unusedSimpArgs false
set_option linter.unusedVariables false
namespace Go.Proofs.YtilbhingfnjppaaDoor
open Go.RowKit
def inn (v : Nat) : Nat → List Int → List Int
  | 0, xs => xs
  | x + 1, xs => if v ≤ x + 1 then inn v x (xs.set (x + 1) (wrap64 (xs.getD (x + 1) 0 + xs.getD (x + 1 - v) 0))) else xs
theorem inn_yes {v x : Nat} {xs : List Int} (h : v ≤ x + 1) : inn v (x + 1) xs = inn v x (xs.set (x + 1) (wrap64 (xs.getD (x + 1) 0 + xs.getD (x + 1 - v) 0))) := by simp [inn, h]
theorem inn_no {v x : Nat} {xs : List Int} (h : ¬ v ≤ x) : inn v x xs = xs := by
  cases x with
  | zero => rfl
  | succ x => simp [inn, h]
theorem inn_len (v : Nat) : ∀ (x : Nat) (xs : List Int), (inn v x xs).length = xs.length
  | 0, _ => rfl
  | x + 1, xs => by
    by_cases h : v ≤ x + 1
    · rw [inn_yes h, inn_len v x]; simp
    · rw [inn_no h]
def wn (m : Nat) : Nat := (wt m).toNat
theorem wn_eq (m : Nat) : ((wn m : Nat) : Int) = wt m := by have := (wt_pos m).1; unfold wn; omega
def outer (n : Nat) : Nat → List Int
  | 0 => 1 :: List.replicate n 0
  | m + 1 => inn (wn m) n (outer n m)
theorem outer_len (n : Nat) : ∀ m, (outer n m).length = n + 1
  | 0 => by simp [outer]
  | m + 1 => by rw [outer, inn_len]; exact outer_len n m
theorem outer_more (n m : Nat) (hn : n ≤ 1000) (hm : 16 ≤ m) : outer n (m + 1) = outer n m := by
  have h1 := wt_mono hm
  have h2 : wt 16 = 2584 := by decide +kernel
  have h3 := wn_eq m
  rw [outer, inn_no (by omega)]
theorem outer20 (n : Nat) (hn : n ≤ 1000) : outer n 20 = outer n 16 := by
  rw [outer_more n 19 hn (by omega), outer_more n 18 hn (by omega), outer_more n 17 hn (by omega), outer_more n 16 hn (by omega)]
theorem wtAt_set {w : World} {gw g K o : Nat} {u : Value} (h : WtAt w gw K) (hne : gw ≠ g) : WtAt (w.setCell ⟨g, o, none⟩ u) gw K := fun j hj => (cset hne).trans (h j hj)
theorem wtAt_drew {w : World} {gw K : Nat} (h : WtAt w gw K) : WtAt w.drew gw K := h
theorem init_row (n : Nat) : ((madeCells (Value.int .i64 0).cells ((n + 1) * 1)).toList.set 0 (.int .i64 1)) = iv (outer n 0) := by
  show ((madeCells #[Value.int .i64 0] ((n + 1) * 1)).toList.set 0 (.int .i64 1)) = _
  rw [iv_zeros, iv_set]; rfl
theorem made_at (n : Nat) : (madeCells (Value.int .i64 0).cells ((n + 1) * 1)).toList[0]? = some (.int .i64 0) := by
  show (madeCells #[Value.int .i64 0] ((n + 1) * 1)).toList[0]? = _
  rw [iv_zeros]; rfl
set_option maxRecDepth 20000 in
set_option maxHeartbeats 4000000 in
theorem implWays_ok (n : Nat) (w : World) (hn : n ≤ 1000) (hin : inB (n : Int) 0 1000 = true) :
    Calls Tryd.prog 46 #[.int .i64 n] w fun e w' => e = .returned (.int .i64 ((outer n 20).getD n 0)) ∧ Below w.heap.size w w' := by
  obtain ⟨i0, hi0, hz0, hz1, hz2⟩ := info_parts infoI
  have hn0 : (0 : Int) ≤ (n : Int) := by omega
  have hn1 : (0 : Int) < (n : Int) + 1 := by omega
  have hn2 : (n : Int) < (n : Int) + 1 := by omega
  go_enter Tryd.func46, Tryd.ntmps46
  go_wp2_with (first | (go_at_call 50; refine (within_any _ _ _ _).mono ?_; rintro e w1 ⟨rfl, rfl⟩) | (at_make; refine wpList_make_full _ rfl _ _ 75 rfl w.heap.size 3 i0 _ 1 Tryd.underlying75 hi0 hz0 hz1 .i64 .i64 _ _ (n + 1) (by rfl) (by rfl) (by omega) (by omega) (by rw [hz2]; omega) (by unfold maxLen; omega) (by omega) ?_; intro wM hownM hgM; have hcM := (own_cell hownM 0 (by omega)).trans (made_at n); have hfM := hownM.frozenAt) | (go_at_call 84; refine (implWeights_any 20 _ _ rfl (by omega) (by omega)).mono ?_; rintro e wA ⟨gw, cw, rfl, hgw1, hgw2, hwt, hb1⟩))
  have hzM := (hownM.lt w.heap.size rfl).2
  have hownA := own_below (hownM.stored 0 (.int .i64 1)).1 hb1
  rw [init_row] at hownA
  have hbA : Below w.heap.size w wA := Qtrans hb1 (by simp; omega) (((Below.refl _ w).grown hgM (by omega) (by simp)).setCell (by simp) _)
  have hgA := hownA.lt w.heap.size rfl
  have hne : gw ≠ w.heap.size := by simp at hgw1; omega
  clear hownM hcM hfM hb1 hgM
  go_loopw [17] (fun i wr => ∃ m : Nat, m ≤ 20 ∧ i = .int .i64 m ∧ wr.ownsRow w.heap.size 3 1 (.slice (some ⟨w.heap.size, 0, none⟩) (n + 1) (n + 1)) (n + 1) (iv (outer n m)) ∧ WtAt wr gw 20 ∧ Below w.heap.size w wr) (fun i _ => 20 - (intOf i).toNat)
  case atStart => exact ⟨0, by omega, rfl, hownA, hwt, hbA⟩
  case round =>
    obtain ⟨m, hm, rfl, hown, hwr, hbel⟩ := hrel
    by_cases hlt : m < 20
    · have hcw := hwr m hlt
      rw [← wn_eq] at hcw
      have hv0 : (0 : Int) < ((wn m : Nat) : Int) := by rw [wn_eq]; exact (wt_pos m).1
      have hm0 : (0 : Int) ≤ (m : Int) := by omega
      have hm1 : (m : Int) < 20 := by omega
      go_wp2
      obtain ⟨v, hv⟩ : ∃ v, wn m = v := ⟨_, rfl⟩
      rw [hv] at hv0 hcw ⊢
      have hou : outer n (m + 1) = inn v n (outer n m) := by rw [← hv]; rfl
      have hou' := Lib.hid hou
      have hv' := Lib.hid hv
      have hol := Lib.hid (outer_len n m)
      clear hou hv
      go_loopw [6] (fun x wr => ∃ (q : Nat) (xs : List Int), q ≤ n ∧ x = .int .i64 q ∧ Hid (inn v q xs = outer n (m + 1)) ∧ xs.length = n + 1 ∧ wr.ownsRow w.heap.size 3 1 (.slice (some ⟨w.heap.size, 0, none⟩) (n + 1) (n + 1)) (n + 1) (iv xs) ∧ WtAt wr gw 20 ∧ Below w.heap.size w wr) (fun x _ => (intOf x + 1).toNat)
      case atStart => exact ⟨n, outer n m, by omega, rfl, Lib.hid hou'.out.symm, hol.out, hown, hwr, hbel⟩
      case round =>
        clear hcw hown hwr hbel
        obtain ⟨q, xs, hq, rfl, heq, hlen, hown, hwr, hbel⟩ := hrel
        by_cases hvq : v ≤ q
        · obtain ⟨p, rfl⟩ : ∃ p, q = p + 1 := ⟨q - 1, by omega⟩
          obtain ⟨d, hd⟩ : ∃ d, p + 1 - v = d := ⟨_, rfl⟩
          have hd1 : IntKind.i64.wrap ((p : Int) + 1 - (v : Int)) = (d : Int) := by rw [IntWalk.i64_left, IntWalk.wrap64_in] <;> omega
          have hd2 : d < n + 1 := by omega
          have hd3 : (0 : Int) ≤ (d : Int) := by omega
          have hd4 : (d : Int) < (n : Int) + 1 := by omega
          have hp0 : (0 : Int) ≤ (p : Int) + 1 := by omega
          have hp1 : (p : Int) + 1 < (n : Int) + 1 := by omega
          have hc1 : wr.cell? ⟨w.heap.size, p + 1, none⟩ = some (.int .i64 (xs.getD (p + 1) 0)) := by rw [own_cell hown (p + 1) (by omega), iv_at _ _ (by omega)]
          have hc2 : wr.cell? ⟨w.heap.size, d, none⟩ = some (.int .i64 (xs.getD d 0)) := by rw [own_cell hown d (by omega), iv_at _ _ (by omega)]
          have hfz := hown.frozenAt
          have hs := inn_yes (x := p) (xs := xs) hvq
          rw [hd] at hs
          obtain ⟨y1, hy1⟩ : ∃ y, xs.getD (p + 1) 0 = y := ⟨_, rfl⟩
          obtain ⟨y2, hy2⟩ : ∃ y, xs.getD d 0 = y := ⟨_, rfl⟩
          rw [hy1, hy2] at hs
          rw [hy1] at hc1
          rw [hy2] at hc2
          have hs' := Lib.hid hs
          have hd' := Lib.hid hd
          clear hs hd hy1 hy2
          go_wp2_with fail
          go_region
          go_wp2
          go_roundw
          case rel => exact ⟨p, xs.set (p + 1) (wrap64 (y1 + y2)), by omega, rfl, Lib.hid (by rw [← heq.out, hs'.out]), by simpa using hlen, by rw [← iv_set]; exact ((hown.stored (p + 1) _).1).drew, wtAt_drew (wtAt_set hwr hne), (hbel.setCell (by simp) _).drew⟩
          case measure => (simp [intOf]) <;> omega
        · have hs' := Lib.hid (inn_no (xs := xs) hvq)
          have hvq' : ¬ (v : Int) ≤ (q : Int) := by omega
          go_wp2
          go_roundw
          case rel => exact ⟨m + 1, by omega, by go_num, by rw [← heq.out, hs'.out]; exact hown, hwr, hbel⟩
          case measure => (simp [intOf]) <;> omega
    · obtain rfl : m = 20 := by omega
      have hc1 : wr.cell? ⟨w.heap.size, n, none⟩ = some (.int .i64 ((outer n 20).getD n 0)) := by rw [own_cell hown n (by omega), iv_at _ _ (by rw [outer_len]; omega)]
      obtain ⟨y1, hy1⟩ : ∃ y, (outer n 20).getD n 0 = y := ⟨_, rfl⟩
      rw [hy1] at hc1
      have hy' := Lib.hid hy1
      clear hy1
      go_wp2
      go_ret
      exact ⟨ret_int hy'.out.symm, hbel⟩
def wy (n : Int) : Int := if inB n 0 1000 then (outer n.toNat 16).getD n.toNat 0 else -1
set_option maxRecDepth 20000 in
set_option maxHeartbeats 400000 in
theorem implWays_any (n : Int) (w : World) :
    Calls Tryd.prog 46 #[.int .i64 n] w fun e w' => e = .returned (.int .i64 (wy n)) ∧ Below w.heap.size w w' := by
  cases hin : inB n 0 1000
  · go_enter Tryd.func46, Tryd.ntmps46
    go_wp2_with ((go_at_call 50; refine (within_any _ _ _ _).mono ?_; rintro e w1 ⟨rfl, rfl⟩))
    go_ret
    exact ⟨ret_int (by simp [wy, hin]), by (repeat (first | with_reducible exact Below.refl _ _ | assumption | with_reducible refine Qdrew ?_ | with_reducible refine QdrewN ?_ | ((with_reducible refine Qset ?_ ?_); exact (by ((try simp only [World.size_alloc, World.size_setCell, World.size_drew, size_drewN]); (try dsimp only); omega))) | ((with_reducible refine Qalloc ?_ ?_); exact (by ((try simp only [World.size_alloc, World.size_setCell, World.size_drew, size_drewN]); (try dsimp only); omega))) | refine Qtrans (by assumption) (by ((try simp only [World.size_alloc, World.size_setCell, World.size_drew, size_drewN]); (try dsimp only); omega)) ?_))⟩
  · have hi := inB_true.1 hin
    obtain ⟨k, rfl⟩ : ∃ k : Nat, n = (k : Int) := ⟨n.toNat, by omega⟩
    refine (implWays_ok k w (by omega) hin).mono fun e w' h => ⟨h.1.trans (ret_int ?_), h.2⟩
    simp only [wy, hin, Int.toNat_natCast, if_true]
    rw [outer20 k (by omega)]
end Go.Proofs.YtilbhingfnjppaaDoor
