/- Chains: rows of golden numbers in the laws' own functions, and what ChainOf returns. -/
import Derived.Test.YtfbcbfimhgaicaaChH
import Derived.Test.YtfbcbfimhgaicaaGoldW
import Derived.BigQuiet
import Derived.Test.YtfbcbfimhgaicaaLawT
set_option linter.unusedSimpArgs false
set_option linter.unusedVariables false
namespace Go.Proofs.Ytfbcbfimhgaicaa
open Go.RowKit
/-- A slice of golden numbers, from the start of its block. -/
def RG (w : World) (x : Option Addr) (n : Nat) (zs : List GP) : Prop :=
  zs.length = n ∧ n ≤ 100000 ∧ (n = 0 ∨ ∃ b, x = some ⟨b, 0, none⟩ ∧ b < w.heap.size ∧ ∀ j, j < n → w.cell? ⟨b, j * 2, none⟩ = some (.int .i64 (zs.getD j (0, 0)).1) ∧ w.cell? ⟨b, j * 2 + 1, none⟩ = some (.int .i64 (zs.getD j (0, 0)).2))
theorem rG_cell {w : World} {x : Option Addr} {n : Nat} {zs : List GP} (h : RG w x n zs) (h0 : 0 < n) : ∃ b, x = some ⟨b, 0, none⟩ ∧ b < w.heap.size ∧ ∀ j, j < n → w.cell? ⟨b, j * 2, none⟩ = some (.int .i64 (zs.getD j (0, 0)).1) ∧ w.cell? ⟨b, j * 2 + 1, none⟩ = some (.int .i64 (zs.getD j (0, 0)).2) := by
  rcases h.2.2 with h | h
  · omega
  · exact h
theorem rG_below {w w' : World} {x : Option Addr} {n : Nat} {zs : List GP} (h : RG w x n zs) {B : Nat} (hB : w.heap.size ≤ B) (hb : Below B w w') : RG w' x n zs := by
  refine ⟨h.1, h.2.1, ?_⟩
  rcases h.2.2 with h0 | ⟨b, rfl, hlt, hc⟩
  · exact .inl h0
  · exact .inr ⟨b, rfl, Nat.lt_of_lt_of_le hlt hb.size, fun j hj => ⟨(hb.cell (by show b < B; omega)).trans (hc j hj).1, (hb.cell (by show b < B; omega)).trans (hc j hj).2⟩⟩
theorem rG_grownBy {w w' : World} {x : Option Addr} {n : Nat} {zs : List GP} {r : Option Nat} (h : RG w x n zs) (hg : w.grownBy w' r) (hx : ∀ b off, x = some ⟨b, off, none⟩ → some b ≠ r) : RG w' x n zs := by
  refine ⟨h.1, h.2.1, ?_⟩
  rcases h.2.2 with h0 | ⟨b, rfl, hlt, hc⟩
  · exact .inl h0
  · refine .inr ⟨b, rfl, Nat.lt_of_lt_of_le hlt hg.size, fun j hj => ⟨?_, ?_⟩⟩
    · rw [hg.cell_far ⟨b, j * 2, none⟩ hlt (hx b 0 rfl)]
      exact (hc j hj).1
    · rw [hg.cell_far ⟨b, j * 2 + 1, none⟩ hlt (hx b 0 rfl)]
      exact (hc j hj).2
theorem own2_form {w : World} {B n cap : Nat} {x : Option Addr} {xs : List Value} (h : w.ownsRow B 58 2 (.slice x n cap) n xs) (hn : 0 < n) : ∃ g, x = some ⟨g, 0, none⟩ ∧ B ≤ g ∧ g < w.heap.size := by
  rcases h.2 with ⟨_, h0⟩ | ⟨g, c, cur, e, hb, hg, _⟩
  · omega
  · cases e
    exact ⟨g, rfl, hb, (Array.getElem?_eq_some_iff.1 hg).1⟩
theorem rG_own {w : World} {B n cap : Nat} {x : Option Addr} {zs : List GP} (h : w.ownsRow B 58 2 (.slice x n cap) n (gv zs)) (hn : n ≤ 100000) : RG w x n zs := by
  have hl : zs.length = n := by have := h.1; rw [gv_len] at this; omega
  refine ⟨hl, hn, ?_⟩
  by_cases h0 : n = 0
  · exact .inl h0
  · right
    obtain ⟨g, rfl, _, hg2⟩ := own2_form h (by omega)
    refine ⟨g, rfl, hg2, fun j hj => ?_⟩
    obtain ⟨a1, a2⟩ := gv_at zs j (by omega)
    rw [Nat.mul_comm] at a1 a2
    exact ⟨(own2_cell h _ (by omega)).trans a1, (own2_cell h _ (by omega)).trans a2⟩
set_option maxHeartbeats 1000000 in
theorem eqGoldS_same (x y : Option Addr) (n cap cap' : Nat) (zs : List GP) (w : World) (h : RG w x n zs) (h' : RG w y n zs) :
    Calls Try.prog 44 #[.slice x n cap, .slice y n cap'] w fun e w' => e = .returned (.bool true) ∧ Below w.heap.size w w' := by
  have hn63 : (n : Int) ≤ 100000 := by have := h.2.1; omega
  go_enter Try.func44, Try.ntmps44
  go_wp2
  go_loopw [5] (fun i wr => ∃ k : Nat, k ≤ n ∧ i = .int .i64 k ∧ Below w.heap.size w wr) (fun i _ => n - (intOf i).toNat)
  case atStart => exact ⟨0, by omega, rfl, Below.refl _ _⟩
  case round =>
    obtain ⟨k, hk, rfl, hbel⟩ := hrel
    by_cases hlt : k < n
    · obtain ⟨b, rfl, hb, hc⟩ := rG_cell h (by omega)
      obtain ⟨b', rfl, hb', hc'⟩ := rG_cell h' (by omega)
      have hck := (hbel.cell (by exact hb)).trans (hc k hlt).1
      have hck' := (hbel.cell (by exact hb')).trans (hc' k hlt).1
      have hdk := (hbel.cell (by exact hb)).trans (hc k hlt).2
      have hdk' := (hbel.cell (by exact hb')).trans (hc' k hlt).2
      obtain ⟨s, hs⟩ : ∃ s, (zs.getD k (0, 0)).1 = s := ⟨_, rfl⟩
      obtain ⟨u, hu⟩ : ∃ u, (zs.getD k (0, 0)).2 = u := ⟨_, rfl⟩
      rw [hs] at hck hck'
      rw [hu] at hdk hdk'
      have hk0 : (0 : Int) ≤ (k : Int) := by omega
      have hk1 : (k : Int) < (n : Int) := by omega
      have hk9 : IntKind.i64.wrap (k : Int) = (k : Int) := IntWalk.i64_in _ (by omega)
      have hE := fun w => eqGold_same s u w
      have hzz := hbel.size
      have hbw : b < wr.heap.size := by omega
      have hbw' : b' < wr.heap.size := by omega
      clear hs hu hc hc'
      go_wp2_with fail
      go_region_held3 (fun wx => (∀ bk ofs, bk < wr.heap.size → wx.cell? ⟨bk, ofs, none⟩ = (wr).cell? ⟨bk, ofs, none⟩) ∧ Below (wr.heap.size) (wr) wx) ((refine stays ?_; ((repeat (first | with_reducible exact Below.refl _ _ | assumption | with_reducible refine Qdrew ?_ | with_reducible refine QdrewN ?_ | ((with_reducible refine Qset ?_ ?_); exact (by ((try simp only [World.size_alloc, World.size_setCell, World.size_drew, size_drewN]); (try dsimp only); omega))) | ((with_reducible refine Qalloc ?_ ?_); exact (by ((try simp only [World.size_alloc, World.size_setCell, World.size_drew, size_drewN]); (try dsimp only); omega))) | refine Qtrans (by assumption) (by ((try simp only [World.size_alloc, World.size_setCell, World.size_drew, size_drewN]); (try dsimp only); omega)) ?_)) <;> (go_split_ands; assumption)))) (first | (go_at_call 90; with_reducible refine (hE _).mono ?_; rintro e w6 ⟨rfl, hb6⟩; obtain ⟨hc6, hf6⟩ := bcell hb6; have hl6 := ltW hb6; have hz6 := hb6.size; (try simp only [World.size_drew] at hz6)))
      all_goals go_wp2
      all_goals go_roundw
      case rel => exact ⟨k + 1, by omega, by go_num, Qtrans hb6 (by simp; omega) (Qdrew hbel)⟩
      case measure => (simp [intOf]) <;> omega
    · obtain rfl : k = n := by omega
      go_wp2
      go_ret
      exact ⟨rfl, hbel⟩
/-- The numbers that the laws write, from k on. -/
def mg (k n : Nat) : List GP := (List.range n).map (fun j => (((k + 2 * j : Nat) : Int), ((k + 2 * j + 1 : Nat) : Int)))
theorem mg_len (k n : Nat) : (mg k n).length = n := by simp [mg]
theorem mg_at (k n j : Nat) (h : j < n) : (mg k n).getD j (0, 0) = ((k : Int) + 2 * j, (k : Int) + 2 * j + 1) := by simp [mg, List.getD_eq_getElem?_getD, h]
theorem markG_set (zs : List GP) (k j n : Nat) (hz : zs.length = n) (h : j < n) : ((gv (mg k j ++ zs.drop j)).set (j * 2) (.int .i64 ((k : Int) + 2 * j))).set (j * 2 + 1) (.int .i64 ((k : Int) + 2 * j + 1)) = gv (mg k (j + 1) ++ zs.drop (j + 1)) := by
  have hl : (gv (mg k j)).length = j * 2 := by rw [gv_len, mg_len]
  have e1 : zs.drop j = zs[j] :: zs.drop (j + 1) := List.drop_eq_getElem_cons (by omega)
  rw [e1, gv_app, List.set_append_right _ _ (by omega), List.set_append_right _ _ (by omega), hl, Nat.sub_self, Nat.add_sub_cancel_left, gv_app]
  have e2 : gv (mg k (j + 1)) = gv (mg k j) ++ [.int .i64 ((k : Int) + 2 * j), .int .i64 ((k : Int) + 2 * j + 1)] := by
    have : mg k (j + 1) = mg k j ++ [(((k + 2 * j : Nat) : Int), ((k + 2 * j + 1 : Nat) : Int))] := by simp [mg, List.range_succ]
    rw [this, gv_app]
    congr 1
  rw [e2, List.append_assoc]
  congr 1
set_option maxHeartbeats 1000000 in
theorem markGoldS_any (x : Option Addr) (n cap k B : Nat) (zs : List GP) (w : World) (h : w.ownsRow B 58 2 (.slice x n cap) n (gv zs)) (hk : k + 2 * n ≤ 100000000) :
    Calls Try.prog 45 #[.slice x n cap, .int .i64 k] w fun e w' => e = .returned (.int .i64 ((k : Int) + 2 * n)) ∧ w'.ownsRow B 58 2 (.slice x n cap) n (gv (mg k n)) ∧ w.grownBy w' (Value.slice x n cap).ownBlock := by
  have hzl : zs.length = n := by have := h.1; rw [gv_len] at this; omega
  go_enter Try.func45, Try.ntmps45
  go_wp2
  go_loopw [1, 5] (fun kv i wr => ∃ j : Nat, j ≤ n ∧ i = .int .i64 j ∧ kv = .int .i64 ((k : Int) + 2 * j) ∧ wr.ownsRow B 58 2 (.slice x n cap) n (gv (mg k j ++ zs.drop j)) ∧ w.grownBy wr (Value.slice x n cap).ownBlock) (fun _ i _ => n - (intOf i).toNat)
  case atStart => exact ⟨0, by omega, rfl, by simp, by simpa [mg] using h, World.grownBy.refl _ _⟩
  case round =>
    clear h
    obtain ⟨j, hj, rfl, rfl, hown, hg⟩ := hrel
    by_cases hlt : j < n
    · obtain ⟨g, rfl, _, hgl⟩ := own2_form hown (by omega)
      have hms' := Lib.hid (markG_set zs k j n hzl hlt)
      have hzl' := Lib.hid hzl
      clear hzl
      have hfz := hown.frozenAt
      have hlen : (mg k j ++ zs.drop j).length = n := by rw [List.length_append, mg_len, List.length_drop, hzl'.out]; omega
      obtain ⟨a1, a2⟩ := gv_at (mg k j ++ zs.drop j) j (by omega)
      rw [Nat.mul_comm] at a1 a2
      have hcl := (own2_cell hown _ (by omega)).trans a1
      have hcl2 := (own2_cell hown _ (by omega)).trans a2
      obtain ⟨y, hy⟩ : ∃ y, ((mg k j ++ zs.drop j).getD j (0, 0)).1 = y := ⟨_, rfl⟩
      rw [hy] at hcl
      obtain ⟨y2, hy2⟩ : ∃ y, ((mg k j ++ zs.drop j).getD j (0, 0)).2 = y := ⟨_, rfl⟩
      rw [hy2] at hcl2
      have hj0 : (0 : Int) ≤ (j : Int) := by omega
      have hj1 : (j : Int) < (n : Int) := by omega
      clear hy hy2 a1 a2
      go_wp2
      go_roundw
      case rel => exact ⟨j + 1, by omega, by go_num, by go_num, by rw [← hms'.out]; exact ((hown.stored (j * 2) _).1.stored (j * 2 + 1) _).1, grown_trans (grown_trans hg (hown.stored (j * 2) _).2) ((hown.stored (j * 2) _).1.stored (j * 2 + 1) _).2⟩
      case measure => (simp [intOf]) <;> omega
    · obtain rfl : n = j := by omega
      have ht : mg k n ++ zs.drop n = mg k n := by rw [List.drop_eq_nil_of_le (by omega)]; simp
      rw [ht] at hown
      go_wp2
      go_ret
      exact ⟨rfl, hown, hg⟩
set_option maxHeartbeats 1000000 in
theorem heldGoldS_any (x : Option Addr) (n cap k : Nat) (w : World) (h : RG w x n (mg k n)) (hk : k + 2 * n ≤ 100000000) :
    Calls Try.prog 46 #[.slice x n cap, .int .i64 k] w fun e w' => e = .returned (.int .i64 ((k : Int) + 2 * n)) ∧ w = w' := by
  go_enter Try.func46, Try.ntmps46
  go_wp2
  go_loopw [1, 5] (fun kv i wr => ∃ j : Nat, j ≤ n ∧ i = .int .i64 j ∧ kv = .int .i64 ((k : Int) + 2 * j) ∧ w = wr) (fun _ i _ => n - (intOf i).toNat)
  case atStart => exact ⟨0, by omega, rfl, by simp, by first | rfl | trivial⟩
  case round =>
    obtain ⟨j, hj, rfl, rfl, rfl⟩ := hrel
    by_cases hlt : j < n
    · obtain ⟨b, rfl, hb, hc⟩ := rG_cell h (by omega)
      obtain ⟨hck, hdk⟩ := hc j hlt
      rw [mg_at _ _ _ hlt] at hck hdk
      have hj0 : (0 : Int) ≤ (j : Int) := by omega
      have hj1 : (j : Int) < (n : Int) := by omega
      clear hc
      go_wp2
      go_roundw
      case rel => exact ⟨j + 1, by omega, by go_num, by go_num, by first | rfl | trivial⟩
      case measure => (simp [intOf]) <;> omega
    · obtain rfl : n = j := by omega
      go_wp2
      go_ret
      exact ⟨rfl, rfl⟩
theorem win_Win {a b c d : Int} (h : win a b c d = true) : Win (a, b) (c, d) := by
  unfold win at h
  simp only [Bool.and_eq_true] at h
  obtain ⟨h1, h2, h3⟩ := h
  obtain ⟨a1, a2⟩ := inW_true h1
  obtain ⟨c1, c2⟩ := inW_true h2
  unfold wide at h3
  simp only [Bool.and_eq_true, decide_eq_true_eq] at h3
  have e1 := sgn_ge_lin (a := c - a - 1) (b := d - b) (bd_of (by omega) (by omega)) (bd_of (by omega) (by omega))
  have e2 := sgn_ge_lin (a := c - a - 4) (b := d - b) (bd_of (by omega) (by omega)) (bd_of (by omega) (by omega))
  refine ⟨a1, a2, c1, c2, e1.1 h3.1, ?_⟩
  show vl (c - a - 4) (d - b) < 0
  have := h3.2
  omega
/-- What ChainOf returns. -/
noncomputable def chL (a b c d n : Int) : List GP := if (win a b c d && inB n 1 60) = true then (specL (a, b) (c, d)).take n.toNat else []
theorem chL_len (a b c d n : Int) : (chL a b c d n).length ≤ 60 := by
  unfold chL
  split
  · rename_i h
    rw [Bool.and_eq_true] at h
    have := inB_true.1 h.2
    rw [List.length_take]; omega
  · simp
set_option maxRecDepth 20000 in
set_option maxHeartbeats 1000000 in
theorem specChainOf_any (a b c d n : Int) (w : World) :
    Calls Try.prog 41 #[.agg #[.int .i64 (a), .int .i64 (b)], .agg #[.int .i64 (c), .int .i64 (d)], .int .i64 n] w fun e w' => ∃ x cp, e = .returned (.slice x (chL a b c d n).length cp) ∧ w'.ownsRow w.heap.size 58 2 (.slice x (chL a b c d n).length cp) (chL a b c d n).length (gv (chL a b c d n)) ∧ Below w.heap.size w w' := by
  have hO : ∀ w, Calls Try.prog 88 #[.agg #[.int .i64 (a), .int .i64 (b)], .agg #[.int .i64 (c), .int .i64 (d)]] w fun e w' => e = .returned (.bool (win a b c d)) ∧ Below w.heap.size w w' := fun w => implWindowOk_any a b c d w
  have hO2 : ∀ w, Calls Try.prog 86 #[.agg #[.int .i64 (a), .int .i64 (b)], .agg #[.int .i64 (c), .int .i64 (d)]] w fun e w' => e = .returned (.bool (win a b c d)) ∧ Below w.heap.size w w' := fun w => l15Ok_any a b c d w
  cases hW : win a b c d
  · have hL : Hid (chL a b c d n = []) := by show _ = _; simp [chL, hW]
    rw [hW] at hO hO2
    go_enter Try.func41, Try.ntmps41
    go_wp2_with (first | (go_at_call 86; refine (hO2 _).mono ?_; rintro e w1 ⟨rfl, hb1⟩; have hz1 := hb1.size; (try simp at hz1); obtain ⟨hc1, hf1⟩ := bcellK (w := w) 2 hb1 (by ((try simp only [World.size_alloc, World.size_setCell, World.size_drew, size_drewN]); (try dsimp only); omega)); have hl1 := ltK (n := w.heap.size) (p := 2) (w1 := w1) (by omega); (try (have tk1 := trackAlloc hb1 (by ((try simp only [World.size_alloc, World.size_setCell, World.size_drew, size_drewN]); (try dsimp only); omega)); try simp only [World.size_alloc, World.size_drew] at tk1)); (try (have tk2 := trackAllocD hb1 (by ((try simp only [World.size_alloc, World.size_setCell, World.size_drew, size_drewN]); (try dsimp only); omega)); try simp only [World.size_alloc, World.size_drew] at tk2)); (try have tk3 := trackNext hb1 (by assumption) (by ((try simp only [World.size_alloc, World.size_setCell, World.size_drew, size_drewN]); (try dsimp only); omega)))) | (go_at_call 54; refine (l01In_any _ _ _ _).mono ?_; rintro e w1 ⟨rfl, rfl⟩))
    go_ret
    exact ⟨none, 0, by rw [hL.out]; rfl, by rw [hL.out]; exact World.ownsRow_nil _ _ _ _, by (repeat (first | with_reducible exact Below.refl _ _ | assumption | with_reducible refine Qdrew ?_ | with_reducible refine QdrewN ?_ | ((with_reducible refine Qset ?_ ?_); exact (by ((try simp only [World.size_alloc, World.size_setCell, World.size_drew, size_drewN]); (try dsimp only); omega))) | ((with_reducible refine Qalloc ?_ ?_); exact (by ((try simp only [World.size_alloc, World.size_setCell, World.size_drew, size_drewN]); (try dsimp only); omega))) | refine Qtrans (by assumption) (by ((try simp only [World.size_alloc, World.size_setCell, World.size_drew, size_drewN]); (try dsimp only); omega)) ?_))⟩
  · rw [hW] at hO hO2
    cases hN : inB n 1 60
    · have hL : Hid (chL a b c d n = []) := by show _ = _; simp [chL, hN]
      go_enter Try.func41, Try.ntmps41
      go_wp2_with (first | (go_at_call 86; refine (hO2 _).mono ?_; rintro e w1 ⟨rfl, hb1⟩; have hz1 := hb1.size; (try simp at hz1); obtain ⟨hc1, hf1⟩ := bcellK (w := w) 2 hb1 (by ((try simp only [World.size_alloc, World.size_setCell, World.size_drew, size_drewN]); (try dsimp only); omega)); have hl1 := ltK (n := w.heap.size) (p := 2) (w1 := w1) (by omega); (try (have tk1 := trackAlloc hb1 (by ((try simp only [World.size_alloc, World.size_setCell, World.size_drew, size_drewN]); (try dsimp only); omega)); try simp only [World.size_alloc, World.size_drew] at tk1)); (try (have tk2 := trackAllocD hb1 (by ((try simp only [World.size_alloc, World.size_setCell, World.size_drew, size_drewN]); (try dsimp only); omega)); try simp only [World.size_alloc, World.size_drew] at tk2)); (try have tk3 := trackNext hb1 (by assumption) (by ((try simp only [World.size_alloc, World.size_setCell, World.size_drew, size_drewN]); (try dsimp only); omega)))) | (go_at_call 54; refine (l01In_any _ _ _ _).mono ?_; rintro e w1 ⟨rfl, rfl⟩))
      go_ret
      exact ⟨none, 0, by rw [hL.out]; rfl, by rw [hL.out]; exact World.ownsRow_nil _ _ _ _, by (repeat (first | with_reducible exact Below.refl _ _ | assumption | with_reducible refine Qdrew ?_ | with_reducible refine QdrewN ?_ | ((with_reducible refine Qset ?_ ?_); exact (by ((try simp only [World.size_alloc, World.size_setCell, World.size_drew, size_drewN]); (try dsimp only); omega))) | ((with_reducible refine Qalloc ?_ ?_); exact (by ((try simp only [World.size_alloc, World.size_setCell, World.size_drew, size_drewN]); (try dsimp only); omega))) | refine Qtrans (by assumption) (by ((try simp only [World.size_alloc, World.size_setCell, World.size_drew, size_drewN]); (try dsimp only); omega)) ?_))⟩
    · have hb := inB_true.1 hN
      obtain ⟨m, rfl⟩ : ∃ m : Nat, n = (m : Int) := ⟨n.toNat, by omega⟩
      have hL : Hid (chL a b c d (m : Int) = (specL (a, b) (c, d)).take m) := by show _ = _; rw [chL, if_pos (by rw [hW, hN]; rfl)]; rfl
      have hc := fun w => l15Chain_any a b c d m w (win_Win hW) (by omega)
      have hl : Hid (((specL (a, b) (c, d)).take m).length = m) := by
        have hw := win_Win hW
        have h3 := (specL_asc hw).1
        obtain ⟨h4, h5⟩ := fold_gput (allI (a, b) (c, d) 400) [] List.Pairwise.nil (by
          rw [List.nil_append]
          exact List.Pairwise.imp_of_mem (fun {x y} ha hb h => key_ne_of (allI_bp hw ha) (allI_bp hw hb) h) (allI_pw (a, b) (c, d) 400))
        obtain ⟨_, q2, _⟩ := first_eq hw h4 (fun z => by rw [h5]; simp) 0 (by omega)
        show _ = _
        rw [List.length_take]; omega
      go_enter Try.func41, Try.ntmps41
      go_wp2_with (first | (first | (go_at_call 86; refine (hO2 _).mono ?_; rintro e w1 ⟨rfl, hb1⟩; have hz1 := hb1.size; (try simp at hz1); obtain ⟨hc1, hf1⟩ := bcellK (w := w) 2 hb1 (by ((try simp only [World.size_alloc, World.size_setCell, World.size_drew, size_drewN]); (try dsimp only); omega)); have hl1 := ltK (n := w.heap.size) (p := 2) (w1 := w1) (by omega); (try (have tk1 := trackAlloc hb1 (by ((try simp only [World.size_alloc, World.size_setCell, World.size_drew, size_drewN]); (try dsimp only); omega)); try simp only [World.size_alloc, World.size_drew] at tk1)); (try (have tk2 := trackAllocD hb1 (by ((try simp only [World.size_alloc, World.size_setCell, World.size_drew, size_drewN]); (try dsimp only); omega)); try simp only [World.size_alloc, World.size_drew] at tk2)); (try have tk3 := trackNext hb1 (by assumption) (by ((try simp only [World.size_alloc, World.size_setCell, World.size_drew, size_drewN]); (try dsimp only); omega)))) | (go_at_call 54; refine (l01In_any _ _ _ _).mono ?_; rintro e w1 ⟨rfl, rfl⟩)) | (go_at_call 87; refine (hc _).mono ?_; rintro e w1 ⟨g, cp, rfl, ho, hb1⟩))
      go_ret
      exact ⟨_, cp, by rw [hL.out, hl.out]; rfl, by rw [hL.out, hl.out]; exact own2_mono ho (by first | omega | (simp; omega)), by (repeat (first | with_reducible exact Below.refl _ _ | assumption | with_reducible refine Qdrew ?_ | with_reducible refine QdrewN ?_ | ((with_reducible refine Qset ?_ ?_); exact (by ((try simp only [World.size_alloc, World.size_setCell, World.size_drew, size_drewN]); (try dsimp only); omega))) | ((with_reducible refine Qalloc ?_ ?_); exact (by ((try simp only [World.size_alloc, World.size_setCell, World.size_drew, size_drewN]); (try dsimp only); omega))) | refine Qtrans (by assumption) (by ((try simp only [World.size_alloc, World.size_setCell, World.size_drew, size_drewN]); (try dsimp only); omega)) ?_))⟩
set_option maxRecDepth 20000 in
set_option maxHeartbeats 1000000 in
theorem implChainOf_any (a b c d n : Int) (w : World) :
    Calls Try.prog 43 #[.agg #[.int .i64 (a), .int .i64 (b)], .agg #[.int .i64 (c), .int .i64 (d)], .int .i64 n] w fun e w' => ∃ x cp, e = .returned (.slice x (chL a b c d n).length cp) ∧ w'.ownsRow w.heap.size 58 2 (.slice x (chL a b c d n).length cp) (chL a b c d n).length (gv (chL a b c d n)) ∧ Below w.heap.size w w' := by
  have hO : ∀ w, Calls Try.prog 88 #[.agg #[.int .i64 (a), .int .i64 (b)], .agg #[.int .i64 (c), .int .i64 (d)]] w fun e w' => e = .returned (.bool (win a b c d)) ∧ Below w.heap.size w w' := fun w => implWindowOk_any a b c d w
  have hO2 : ∀ w, Calls Try.prog 86 #[.agg #[.int .i64 (a), .int .i64 (b)], .agg #[.int .i64 (c), .int .i64 (d)]] w fun e w' => e = .returned (.bool (win a b c d)) ∧ Below w.heap.size w w' := fun w => l15Ok_any a b c d w
  cases hW : win a b c d
  · have hL : Hid (chL a b c d n = []) := by show _ = _; simp [chL, hW]
    rw [hW] at hO hO2
    go_enter Try.func43, Try.ntmps43
    go_wp2_with (first | (go_at_call 88; refine (hO _).mono ?_; rintro e w1 ⟨rfl, hb1⟩; have hz1 := hb1.size; (try simp at hz1); obtain ⟨hc1, hf1⟩ := bcellK (w := w) 2 hb1 (by ((try simp only [World.size_alloc, World.size_setCell, World.size_drew, size_drewN]); (try dsimp only); omega)); have hl1 := ltK (n := w.heap.size) (p := 2) (w1 := w1) (by omega); (try (have tk1 := trackAlloc hb1 (by ((try simp only [World.size_alloc, World.size_setCell, World.size_drew, size_drewN]); (try dsimp only); omega)); try simp only [World.size_alloc, World.size_drew] at tk1)); (try (have tk2 := trackAllocD hb1 (by ((try simp only [World.size_alloc, World.size_setCell, World.size_drew, size_drewN]); (try dsimp only); omega)); try simp only [World.size_alloc, World.size_drew] at tk2)); (try have tk3 := trackNext hb1 (by assumption) (by ((try simp only [World.size_alloc, World.size_setCell, World.size_drew, size_drewN]); (try dsimp only); omega)))) | (go_at_call 57; refine (within_any _ _ _ _).mono ?_; rintro e w1 ⟨rfl, rfl⟩))
    go_ret
    exact ⟨none, 0, by rw [hL.out]; rfl, by rw [hL.out]; exact World.ownsRow_nil _ _ _ _, by (repeat (first | with_reducible exact Below.refl _ _ | assumption | with_reducible refine Qdrew ?_ | with_reducible refine QdrewN ?_ | ((with_reducible refine Qset ?_ ?_); exact (by ((try simp only [World.size_alloc, World.size_setCell, World.size_drew, size_drewN]); (try dsimp only); omega))) | ((with_reducible refine Qalloc ?_ ?_); exact (by ((try simp only [World.size_alloc, World.size_setCell, World.size_drew, size_drewN]); (try dsimp only); omega))) | refine Qtrans (by assumption) (by ((try simp only [World.size_alloc, World.size_setCell, World.size_drew, size_drewN]); (try dsimp only); omega)) ?_))⟩
  · rw [hW] at hO hO2
    cases hN : inB n 1 60
    · have hL : Hid (chL a b c d n = []) := by show _ = _; simp [chL, hN]
      go_enter Try.func43, Try.ntmps43
      go_wp2_with (first | (go_at_call 88; refine (hO _).mono ?_; rintro e w1 ⟨rfl, hb1⟩; have hz1 := hb1.size; (try simp at hz1); obtain ⟨hc1, hf1⟩ := bcellK (w := w) 2 hb1 (by ((try simp only [World.size_alloc, World.size_setCell, World.size_drew, size_drewN]); (try dsimp only); omega)); have hl1 := ltK (n := w.heap.size) (p := 2) (w1 := w1) (by omega); (try (have tk1 := trackAlloc hb1 (by ((try simp only [World.size_alloc, World.size_setCell, World.size_drew, size_drewN]); (try dsimp only); omega)); try simp only [World.size_alloc, World.size_drew] at tk1)); (try (have tk2 := trackAllocD hb1 (by ((try simp only [World.size_alloc, World.size_setCell, World.size_drew, size_drewN]); (try dsimp only); omega)); try simp only [World.size_alloc, World.size_drew] at tk2)); (try have tk3 := trackNext hb1 (by assumption) (by ((try simp only [World.size_alloc, World.size_setCell, World.size_drew, size_drewN]); (try dsimp only); omega)))) | (go_at_call 57; refine (within_any _ _ _ _).mono ?_; rintro e w1 ⟨rfl, rfl⟩))
      go_ret
      exact ⟨none, 0, by rw [hL.out]; rfl, by rw [hL.out]; exact World.ownsRow_nil _ _ _ _, by (repeat (first | with_reducible exact Below.refl _ _ | assumption | with_reducible refine Qdrew ?_ | with_reducible refine QdrewN ?_ | ((with_reducible refine Qset ?_ ?_); exact (by ((try simp only [World.size_alloc, World.size_setCell, World.size_drew, size_drewN]); (try dsimp only); omega))) | ((with_reducible refine Qalloc ?_ ?_); exact (by ((try simp only [World.size_alloc, World.size_setCell, World.size_drew, size_drewN]); (try dsimp only); omega))) | refine Qtrans (by assumption) (by ((try simp only [World.size_alloc, World.size_setCell, World.size_drew, size_drewN]); (try dsimp only); omega)) ?_))⟩
    · have hb := inB_true.1 hN
      obtain ⟨m, rfl⟩ : ∃ m : Nat, n = (m : Int) := ⟨n.toNat, by omega⟩
      have hL : Hid (chL a b c d (m : Int) = (specL (a, b) (c, d)).take m) := by show _ = _; rw [chL, if_pos (by rw [hW, hN]; rfl)]; rfl
      have hc := fun w => chain_any a b c d m w (win_Win hW) (by omega)
      have hl : Hid (((specL (a, b) (c, d)).take m).length = m) := by
        have hw := win_Win hW
        have h3 := (specL_asc hw).1
        obtain ⟨h4, h5⟩ := fold_gput (allI (a, b) (c, d) 400) [] List.Pairwise.nil (by
          rw [List.nil_append]
          exact List.Pairwise.imp_of_mem (fun {x y} ha hb h => key_ne_of (allI_bp hw ha) (allI_bp hw hb) h) (allI_pw (a, b) (c, d) 400))
        obtain ⟨_, q2, _⟩ := first_eq hw h4 (fun z => by rw [h5]; simp) 0 (by omega)
        show _ = _
        rw [List.length_take]; omega
      go_enter Try.func43, Try.ntmps43
      go_wp2_with (first | (first | (go_at_call 88; refine (hO _).mono ?_; rintro e w1 ⟨rfl, hb1⟩; have hz1 := hb1.size; (try simp at hz1); obtain ⟨hc1, hf1⟩ := bcellK (w := w) 2 hb1 (by ((try simp only [World.size_alloc, World.size_setCell, World.size_drew, size_drewN]); (try dsimp only); omega)); have hl1 := ltK (n := w.heap.size) (p := 2) (w1 := w1) (by omega); (try (have tk1 := trackAlloc hb1 (by ((try simp only [World.size_alloc, World.size_setCell, World.size_drew, size_drewN]); (try dsimp only); omega)); try simp only [World.size_alloc, World.size_drew] at tk1)); (try (have tk2 := trackAllocD hb1 (by ((try simp only [World.size_alloc, World.size_setCell, World.size_drew, size_drewN]); (try dsimp only); omega)); try simp only [World.size_alloc, World.size_drew] at tk2)); (try have tk3 := trackNext hb1 (by assumption) (by ((try simp only [World.size_alloc, World.size_setCell, World.size_drew, size_drewN]); (try dsimp only); omega)))) | (go_at_call 57; refine (within_any _ _ _ _).mono ?_; rintro e w1 ⟨rfl, rfl⟩)) | (go_at_call 89; refine (hc _).mono ?_; rintro e w1 ⟨g, cp, rfl, ho, hb1⟩))
      go_ret
      exact ⟨_, cp, by rw [hL.out, hl.out]; rfl, by rw [hL.out, hl.out]; exact own2_mono ho (by first | omega | (simp; omega)), by (repeat (first | with_reducible exact Below.refl _ _ | assumption | with_reducible refine Qdrew ?_ | with_reducible refine QdrewN ?_ | ((with_reducible refine Qset ?_ ?_); exact (by ((try simp only [World.size_alloc, World.size_setCell, World.size_drew, size_drewN]); (try dsimp only); omega))) | ((with_reducible refine Qalloc ?_ ?_); exact (by ((try simp only [World.size_alloc, World.size_setCell, World.size_drew, size_drewN]); (try dsimp only); omega))) | refine Qtrans (by assumption) (by ((try simp only [World.size_alloc, World.size_setCell, World.size_drew, size_drewN]); (try dsimp only); omega)) ?_))⟩
set_option maxRecDepth 20000 in
set_option maxHeartbeats 4000000 in
theorem ChainOf_law (a b c d n : Int) (hn : -9223372036854775808 ≤ n ∧ n ≤ 9223372036854775807) (w : World) :
    Calls Try.prog 11 #[.agg #[.int .i64 (a), .int .i64 (b)], .agg #[.int .i64 (c), .int .i64 (d)], .int .i64 n] w fun e w' => e = .returned (.bool true) ∧ Below w.heap.size w w' := by
  have hspec := fun (w : World) => specChainOf_any a b c d n w
  have himpl := fun (w : World) => implChainOf_any a b c d n w
  have hLl := chL_len a b c d n
  obtain ⟨L, hL⟩ : ∃ L, chL a b c d n = L := ⟨_, rfl⟩
  rw [hL] at hspec himpl hLl
  obtain ⟨m, hm⟩ : ∃ m, L.length = m := ⟨_, rfl⟩
  rw [hm] at hspec himpl hLl
  clear hL hm
  go_enter Try.func11, Try.ntmps11
  go_upto_region 1 with fail
  go_cut [7] from 12 to 17 (fun s7 w3 => ∃ x cp, s7 = .slice x m cp ∧ w3.ownsRow (w.heap.size + 2) 58 2 (.slice x m cp) m (gv L) ∧ Below (w.heap.size + 2) ((w.alloc (.cells #[.int .i64 a, .int .i64 b] 55)).alloc (.cells #[.int .i64 c, .int .i64 d] 55)) w3)
  case first =>
    go_region_held3 (fun wx => (∀ bk ofs, bk < w.heap.size + 2 → wx.cell? ⟨bk, ofs, none⟩ = (((w.alloc (.cells #[.int .i64 a, .int .i64 b] 55)).alloc (.cells #[.int .i64 c, .int .i64 d] 55))).cell? ⟨bk, ofs, none⟩) ∧ Below (w.heap.size + 2) (((w.alloc (.cells #[.int .i64 a, .int .i64 b] 55)).alloc (.cells #[.int .i64 c, .int .i64 d] 55))) wx) ((refine stays ?_; ((repeat (first | with_reducible exact Below.refl _ _ | assumption | with_reducible refine Qdrew ?_ | with_reducible refine QdrewN ?_ | ((with_reducible refine Qset ?_ ?_); exact (by ((try simp only [World.size_alloc, World.size_setCell, World.size_drew, size_drewN]); (try dsimp only); omega))) | ((with_reducible refine Qalloc ?_ ?_); exact (by ((try simp only [World.size_alloc, World.size_setCell, World.size_drew, size_drewN]); (try dsimp only); omega))) | refine Qtrans (by assumption) (by ((try simp only [World.size_alloc, World.size_setCell, World.size_drew, size_drewN]); (try dsimp only); omega)) ?_)) <;> (go_split_ands; assumption)))) (first | (go_at_call 42; refine (toGold_any _ _ _).mono ?_; rintro e w1 ⟨rfl, hb1⟩; have hz1 := hb1.size; (try simp at hz1); obtain ⟨hc1, hf1⟩ := bcellK (w := w) 2 hb1 (by ((try simp only [World.size_alloc, World.size_setCell, World.size_drew, size_drewN]); (try dsimp only); omega)); have hl1 := ltK (n := w.heap.size) (p := 2) (w1 := w1) (by omega); (try (have tk1 := trackAlloc hb1 (by ((try simp only [World.size_alloc, World.size_setCell, World.size_drew, size_drewN]); (try dsimp only); omega)); try simp only [World.size_alloc, World.size_drew] at tk1)); (try (have tk2 := trackAllocD hb1 (by ((try simp only [World.size_alloc, World.size_setCell, World.size_drew, size_drewN]); (try dsimp only); omega)); try simp only [World.size_alloc, World.size_drew] at tk2)); (try have tk3 := trackNext hb1 (by assumption) (by ((try simp only [World.size_alloc, World.size_setCell, World.size_drew, size_drewN]); (try dsimp only); omega)))) | (go_at_call 41; with_reducible refine (hspec _).mono ?_; rintro e w1 ⟨x5, c5, rfl, o5, hb1⟩; have hz1 := hb1.size; (try simp at hz1); obtain ⟨hc1, hf1⟩ := bcellK (w := w) 2 hb1 (by ((try simp only [World.size_alloc, World.size_setCell, World.size_drew, size_drewN]); (try dsimp only); omega)); have hl1 := ltK (n := w.heap.size) (p := 2) (w1 := w1) (by omega); (try (have tk1 := trackAlloc hb1 (by ((try simp only [World.size_alloc, World.size_setCell, World.size_drew, size_drewN]); (try dsimp only); omega)); try simp only [World.size_alloc, World.size_drew] at tk1)); (try (have tk2 := trackAllocD hb1 (by ((try simp only [World.size_alloc, World.size_setCell, World.size_drew, size_drewN]); (try dsimp only); omega)); try simp only [World.size_alloc, World.size_drew] at tk2)); (try have tk3 := trackNext hb1 (by assumption) (by ((try simp only [World.size_alloc, World.size_setCell, World.size_drew, size_drewN]); (try dsimp only); omega)))))
    all_goals (go_wp2_with fail; go_meet; exact ⟨_, _, rfl, own2_mono o5 (by omega), by (repeat (first | with_reducible exact Below.refl _ _ | assumption | with_reducible refine Qdrew ?_ | with_reducible refine QdrewN ?_ | ((with_reducible refine Qset ?_ ?_); exact (by ((try simp only [World.size_alloc, World.size_setCell, World.size_drew, size_drewN]); (try dsimp only); omega))) | ((with_reducible refine Qalloc ?_ ?_); exact (by ((try simp only [World.size_alloc, World.size_setCell, World.size_drew, size_drewN]); (try dsimp only); omega))) | refine Qtrans (by assumption) (by ((try simp only [World.size_alloc, World.size_setCell, World.size_drew, size_drewN]); (try dsimp only); omega)) ?_))⟩)
  case rest =>
    rename World => w3
    obtain ⟨x3, c3, rfl, o3, hb3⟩ := hcut
    have z3 := hb3.size
    simp only [World.size_alloc] at z3
    have r3 := rG_own o3 (by omega)
    have k0 : w3.cell? ⟨w.heap.size, 0, none⟩ = some (.int .i64 a) := (hb3.cell (by simp)).trans (by simp [go_sem])
    have k1 : w3.cell? ⟨w.heap.size, 1, none⟩ = some (.int .i64 b) := (hb3.cell (by simp)).trans (by simp [go_sem])
    have k2 : w3.cell? ⟨w.heap.size + 1, 0, none⟩ = some (.int .i64 c) := (hb3.cell (by simp)).trans (by simp [go_sem])
    have k3 : w3.cell? ⟨w.heap.size + 1, 1, none⟩ = some (.int .i64 d) := (hb3.cell (by simp)).trans (by simp [go_sem])
    have hbw0 : w.heap.size < w3.heap.size := by omega
    have hbw1 : w.heap.size + 1 < w3.heap.size := by omega
    go_upto_region 2 with fail
    go_cut [8] from 18 to 23 (fun s8 w5 => ∃ x cp, s8 = .slice x m cp ∧ w5.ownsRow w3.heap.size 58 2 (.slice x m cp) m (gv L) ∧ Below w3.heap.size w3 w5)
    case first =>
      go_region_held3 (fun wx => (∀ bk ofs, bk < w3.heap.size → wx.cell? ⟨bk, ofs, none⟩ = (w3).cell? ⟨bk, ofs, none⟩) ∧ Below (w3.heap.size) (w3) wx) ((refine stays ?_; ((repeat (first | with_reducible exact Below.refl _ _ | assumption | with_reducible refine Qdrew ?_ | with_reducible refine QdrewN ?_ | ((with_reducible refine Qset ?_ ?_); exact (by ((try simp only [World.size_alloc, World.size_setCell, World.size_drew, size_drewN]); (try dsimp only); omega))) | ((with_reducible refine Qalloc ?_ ?_); exact (by ((try simp only [World.size_alloc, World.size_setCell, World.size_drew, size_drewN]); (try dsimp only); omega))) | refine Qtrans (by assumption) (by ((try simp only [World.size_alloc, World.size_setCell, World.size_drew, size_drewN]); (try dsimp only); omega)) ?_)) <;> (go_split_ands; assumption)))) (first | (go_at_call 42; with_reducible refine (toGold_any _ _ _).mono ?_; rintro e w6 ⟨rfl, hb6⟩; obtain ⟨hc6, hf6⟩ := bcell hb6; have hl6 := ltW hb6; have hz6 := hb6.size; (try simp only [World.size_drew] at hz6)) | (go_at_call 43; with_reducible refine (himpl _).mono ?_; rintro e w6 ⟨x5, c5, rfl, o5, hb6⟩; obtain ⟨hc6, hf6⟩ := bcell hb6; have hl6 := ltW hb6; have hz6 := hb6.size; (try simp only [World.size_drew] at hz6)))
      all_goals (go_wp2_with fail; go_meet; exact ⟨_, _, rfl, own2_mono o5 (by omega), by (repeat (first | with_reducible exact Below.refl _ _ | assumption | with_reducible refine Qdrew ?_ | with_reducible refine QdrewN ?_ | ((with_reducible refine Qset ?_ ?_); exact (by ((try simp only [World.size_alloc, World.size_setCell, World.size_drew, size_drewN]); (try dsimp only); omega))) | ((with_reducible refine Qalloc ?_ ?_); exact (by ((try simp only [World.size_alloc, World.size_setCell, World.size_drew, size_drewN]); (try dsimp only); omega))) | refine Qtrans (by assumption) (by ((try simp only [World.size_alloc, World.size_setCell, World.size_drew, size_drewN]); (try dsimp only); omega)) ?_))⟩)
    case rest =>
      rename World => w5
      obtain ⟨x5, c5, rfl, o5, hb5⟩ := hcut
      have z5 := hb5.size
      have r5 := rG_below r3 (Nat.le_refl _) hb5
      have q5 := rG_own o5 (by omega)
      have e5 : ∀ k, (Value.slice x5 m c5).ownBlock = some k → w3.heap.size ≤ k := fun k hk => (o5.lt k hk).1
      have e3 : ∀ b off, x3 = some ⟨b, off, none⟩ → b < w3.heap.size := fun b off q => by subst q; exact (o3.lt b rfl).2
      have u0 : w5.cell? ⟨w.heap.size, 0, none⟩ = some (.int .i64 a) := (hb5.cell (by show w.heap.size < _; omega)).trans k0
      have u1 : w5.cell? ⟨w.heap.size, 1, none⟩ = some (.int .i64 b) := (hb5.cell (by show w.heap.size < _; omega)).trans k1
      have u2 : w5.cell? ⟨w.heap.size + 1, 0, none⟩ = some (.int .i64 c) := (hb5.cell (by show w.heap.size + 1 < _; omega)).trans k2
      have u3 : w5.cell? ⟨w.heap.size + 1, 1, none⟩ = some (.int .i64 d) := (hb5.cell (by show w.heap.size + 1 < _; omega)).trans k3
      go_wp2_with (go_at_call 44; refine (eqGoldS_same _ _ _ _ _ _ _ q5 r5).mono ?_; rintro e w10 ⟨rfl, hb10⟩)
      have z10 := hb10.size
      have r10 := rG_below r5 (Nat.le_refl _) hb10
      have o510 := own2_below o5 hb10
      have d10 : Below w.heap.size w w10 := Qtrans hb10 (by omega) (Qtrans hb5 (by omega) (Qtrans hb3 (by omega) (((Below.refl _ w).alloc (Nat.le_refl _) _).alloc (by simp) _)))
      go_at_call 45
      refine (markGoldS_any _ _ _ 1 _ _ _ o510 (by omega)).mono ?_
      rintro e w11 ⟨rfl, o511, hg11⟩
      have z11 := hg11.size
      have r11 := rG_grownBy r10 hg11 (fun b off q q2 => by have := e3 b off q; have := e5 b q2.symm; omega)
      have q11 := rG_own o511 (by omega)
      have d11 : Below w.heap.size w w11 := d10.grown hg11 (by omega) (fun k hk => by have := e5 k hk; omega)
      have hne : ∀ i, i ≤ w.heap.size + 1 → some i ≠ (Value.slice x5 m c5).ownBlock := fun i hi q => by have := e5 i q.symm; omega
      have v0 : w11.cell? ⟨w.heap.size, 0, none⟩ = some (.int .i64 a) := (hg11.cell_far _ (by show w.heap.size < _; omega) (hne _ (by show w.heap.size ≤ _; omega))).trans ((hb10.cell (by show w.heap.size < _; omega)).trans u0)
      have v1 : w11.cell? ⟨w.heap.size, 1, none⟩ = some (.int .i64 b) := (hg11.cell_far _ (by show w.heap.size < _; omega) (hne _ (by show w.heap.size ≤ _; omega))).trans ((hb10.cell (by show w.heap.size < _; omega)).trans u1)
      have v2 : w11.cell? ⟨w.heap.size + 1, 0, none⟩ = some (.int .i64 c) := (hg11.cell_far _ (by show w.heap.size + 1 < _; omega) (hne _ (by show w.heap.size + 1 ≤ _; omega))).trans ((hb10.cell (by show w.heap.size + 1 < _; omega)).trans u2)
      have v3 : w11.cell? ⟨w.heap.size + 1, 1, none⟩ = some (.int .i64 d) := (hg11.cell_far _ (by show w.heap.size + 1 < _; omega) (hne _ (by show w.heap.size + 1 ≤ _; omega))).trans ((hb10.cell (by show w.heap.size + 1 < _; omega)).trans u3)
      have hbx0 : w.heap.size < w11.heap.size := by omega
      have hbx1 : w.heap.size + 1 < w11.heap.size := by omega
      clear u0 u1 u2 u3 k0 k1 k2 k3
      go_upto_region 13 with ((go_at_call 46; refine (heldGoldS_any _ _ _ 1 _ q11 (by omega)).mono ?_; rintro e w1 ⟨rfl, rfl⟩))
      go_cut [11] from 39 to 44 (fun s11 w13 => ∃ x cp, s11 = .slice x m cp ∧ w13.ownsRow w11.heap.size 58 2 (.slice x m cp) m (gv L) ∧ Below w11.heap.size w11 w13)
      case first =>
        go_region_held3 (fun wx => (∀ bk ofs, bk < w11.heap.size → wx.cell? ⟨bk, ofs, none⟩ = (w11).cell? ⟨bk, ofs, none⟩) ∧ Below (w11.heap.size) (w11) wx) ((refine stays ?_; ((repeat (first | with_reducible exact Below.refl _ _ | assumption | with_reducible refine Qdrew ?_ | with_reducible refine QdrewN ?_ | ((with_reducible refine Qset ?_ ?_); exact (by ((try simp only [World.size_alloc, World.size_setCell, World.size_drew, size_drewN]); (try dsimp only); omega))) | ((with_reducible refine Qalloc ?_ ?_); exact (by ((try simp only [World.size_alloc, World.size_setCell, World.size_drew, size_drewN]); (try dsimp only); omega))) | refine Qtrans (by assumption) (by ((try simp only [World.size_alloc, World.size_setCell, World.size_drew, size_drewN]); (try dsimp only); omega)) ?_)) <;> (go_split_ands; assumption)))) (first | (go_at_call 42; with_reducible refine (toGold_any _ _ _).mono ?_; rintro e w6 ⟨rfl, hb6⟩; obtain ⟨hc6, hf6⟩ := bcell hb6; have hl6 := ltW hb6; have hz6 := hb6.size; (try simp only [World.size_drew] at hz6)) | (go_at_call 43; with_reducible refine (himpl _).mono ?_; rintro e w6 ⟨x5, c5, rfl, o5, hb6⟩; obtain ⟨hc6, hf6⟩ := bcell hb6; have hl6 := ltW hb6; have hz6 := hb6.size; (try simp only [World.size_drew] at hz6)))
        all_goals (go_wp2_with fail; go_meet; exact ⟨_, _, rfl, own2_mono o5 (by omega), by (repeat (first | with_reducible exact Below.refl _ _ | assumption | with_reducible refine Qdrew ?_ | with_reducible refine QdrewN ?_ | ((with_reducible refine Qset ?_ ?_); exact (by ((try simp only [World.size_alloc, World.size_setCell, World.size_drew, size_drewN]); (try dsimp only); omega))) | ((with_reducible refine Qalloc ?_ ?_); exact (by ((try simp only [World.size_alloc, World.size_setCell, World.size_drew, size_drewN]); (try dsimp only); omega))) | refine Qtrans (by assumption) (by ((try simp only [World.size_alloc, World.size_setCell, World.size_drew, size_drewN]); (try dsimp only); omega)) ?_))⟩)
      case rest =>
        rename World => w13
        obtain ⟨x13, c13, rfl, o13, hb13⟩ := hcut
        have z13 := hb13.size
        have r13 := rG_below r11 (Nat.le_refl _) hb13
        have q13 := rG_below q11 (Nat.le_refl _) hb13
        have p13 := rG_own o13 (by omega)
        go_wp2_with (go_at_call 44; refine (eqGoldS_same _ _ _ _ _ _ _ p13 r13).mono ?_; rintro e w14 ⟨rfl, hb14⟩)
        have z14 := hb14.size
        have q14 := rG_below q13 (Nat.le_refl _) hb14
        go_wp2_with ((go_at_call 46; refine (heldGoldS_any _ _ _ 1 _ q14 (by omega)).mono ?_; rintro e w1 ⟨rfl, rfl⟩))
        go_ret
        exact ⟨rfl, Qtrans hb14 (by omega) (Qtrans hb13 (by omega) d11)⟩
end Go.Proofs.Ytfbcbfimhgaicaa
