/- Running an automaton: the reference's way. -/
import Derived.Test.YtfbcbfimhgaicaaAutoD
set_option linter.unusedSimpArgs false
set_option linter.unusedVariables false
namespace Go.Proofs.Ytfbcbfimhgaicaa
open Go.RowKit
set_option maxRecDepth 20000 in
set_option maxHeartbeats 2000000 in
theorem l18Run_any (d : Nat) (x : Option Addr) (n cap : Nat) (Z : Nat → List Int) (o : ByteArray) (hau : auP (d : Int) n Z o) (m : Nat) (hm9 : m ≤ 1000000000) (w : World) (h : IsMat w x n Z) :
    Calls Try.prog 99 #[(Value.agg #[.int .i64 d, .slice x n cap, .string o]), .int .i64 m] w fun e w' => e = .returned (.int .i64 (ed d Z m : Nat)) ∧ Below w.heap.size w w' := by
  have hm9' := Lib.hid hm9
  have hmI : (m : Int) ≤ 1000000000 := by omega
  clear hm9
  obtain ⟨i0, hi0, hz0, hz1, hz2⟩ := info_parts infoI
  have hd2 : 2 ≤ d ∧ d ≤ 4 := by have := hau.1; omega
  have hd0 : (d : Int) ≠ 0 := by omega
  have hdm : (d : Int) ≠ -1 := by omega
  have hWz : (w.alloc (Obj.cells #[.int .i64 d, .slice x n cap, .string o] 27)).heap.size = w.heap.size + 1 := by simp
  have hbW : Below w.heap.size w (w.alloc (Obj.cells #[.int .i64 d, .slice x n cap, .string o] 27)) := (Below.refl _ w).alloc (Nat.le_refl _) _
  have hW0 : (w.alloc (Obj.cells #[.int .i64 d, .slice x n cap, .string o] 27)).cell? ⟨w.heap.size, 0, none⟩ = some (.int .i64 d) := by simp [go_sem]
  have hW1 : (w.alloc (Obj.cells #[.int .i64 d, .slice x n cap, .string o] 27)).cell? ⟨w.heap.size, 1, none⟩ = some (.slice x n cap) := by simp [go_sem]
  have hfw : Hid (∀ w1, Below (w.heap.size + 1) (w.alloc (Obj.cells #[.int .i64 d, .slice x n cap, .string o] 27)) w1 → w1.cell? ⟨w.heap.size, 0, none⟩ = some (.int .i64 d)) := Lib.hid (fun w1 q => (q.cell (by show w.heap.size < w.heap.size + 1; omega)).trans hW0)
  have hM := isMat_below h (Nat.le_refl _) hbW
  have hlen9 := Lib.hid (dg_len hd2.1 m)
  have hlit := World.ownsRow_lit (base := w.heap.size + 1) (e := 3) (size := 1) (w.alloc (Obj.cells #[.int .i64 d, .slice x n cap, .string o] 27)) #[] 0 (by simp) (by decide) rfl
  simp only [World.size_alloc] at hlit
  go_enter Try.func99, Try.ntmps99
  go_wp2
  go_loopw [1, 5] (fun a ov wr => ∃ (k : Nat) (acc : List Int) (g cap' : Nat), a = .int .i64 k ∧ k ≤ m ∧ ov = .slice (some ⟨g, 0, none⟩) acc.length cap' ∧ Hid (acc ++ dg d k = dg d m) ∧ wr.ownsRow (w.heap.size + 1) 3 1 (.slice (some ⟨g, 0, none⟩) acc.length cap') acc.length (iv acc) ∧ w.heap.size + 1 ≤ wr.heap.size ∧ Below (w.heap.size + 1) (w.alloc (Obj.cells #[.int .i64 d, .slice x n cap, .string o] 27)) wr) (fun a _ _ => (intOf a).toNat)
  case atStart => exact ⟨m, [], w.heap.size + 1, 0, rfl, Nat.le_refl _, rfl, Lib.hid (by simp), hlit, by ((try simp only [World.size_alloc, World.size_setCell, World.size_drew, size_drewN]); (try dsimp only); omega), by (repeat (first | with_reducible exact Below.refl _ _ | assumption | with_reducible refine Qdrew ?_ | with_reducible refine QdrewN ?_ | ((with_reducible refine Qset ?_ ?_); exact (by ((try simp only [World.size_alloc, World.size_setCell, World.size_drew, size_drewN]); (try dsimp only); omega))) | ((with_reducible refine Qalloc ?_ ?_); exact (by ((try simp only [World.size_alloc, World.size_setCell, World.size_drew, size_drewN]); (try dsimp only); omega))) | refine Qtrans (by assumption) (by ((try simp only [World.size_alloc, World.size_setCell, World.size_drew, size_drewN]); (try dsimp only); omega)) ?_))⟩
  case round =>
    obtain ⟨k, acc, g, cap', rfl, hkm, rfl, hacc, hown, hz, hbel⟩ := hrel
    have hc0 := (hbel.cell (by show w.heap.size < w.heap.size + 1; omega)).trans hW0
    by_cases hpos : 0 < k
    · have hpos' : (0 : Int) < (k : Int) := by omega
      have hnx := Lib.hid (dg_pos hd2.1 (by omega : k ≠ 0))
      have hq1 := tdivN k d
      have hr1 := tmodN k d
      have hql : k / d < k := Nat.div_lt_self (by omega) (by omega)
      have hlen : acc.length ≤ m := by
        have := congrArg List.length hacc.out
        simp at this
        have := hlen9.out
        omega
      have hrd : k % d < d := Nat.mod_lt k (by omega)
      obtain ⟨q, hq⟩ : ∃ q, k / d = q := ⟨_, rfl⟩
      obtain ⟨r, hr⟩ : ∃ r, k % d = r := ⟨_, rfl⟩
      rw [hq] at hq1 hql hnx
      rw [hr] at hr1 hnx hrd
      have hr0 : (0 : Int) ≤ (r : Int) := by omega
      have hr4 : (r : Int) ≤ 3 := by omega
      have hq0 : (0 : Int) ≤ (q : Int) := by omega
      have hq9 : (q : Int) ≤ 1000000000 := by omega
      clear hq hr hW0 hW1 hM h hbW hlit hWz
      go_wp2_with ((at_builtin; refine wpList_append_lies _ rfl _ _ _ rfl (w.heap.size + 1) 3 i0 _ 1 8 Try.underlying45 hi0 hz0 hz1 hz2 rfl (by decide) (_) (acc.length) (iv acc) (by rfl) (hown.alloc _) ⟨(wr).heap.size, 0, none⟩ 1 1 [.int .i64 (r : Int)] (by rfl) (by rfl) (World.news_of_block (cs := #[.int .i64 (r : Int)]) (t := 3) (fr := (0, 0)) (heap_alloc_new (wr) _)) (by simp [Value.oneCell']) (by omega) (by unfold maxLen; omega) (by omega) (by simp; omega) ((wr).heap.size + 1) (by simp) ?_; intro gg cap w1 hown1 hgrow hatg hltg); have hc0' := hfw.out _ (below_app hbel hz hown hgrow))
      go_roundw
      case rel => exact ⟨q, acc ++ [(r : Int)], gg, cap, rfl, by omega, by rw [List.length_append]; rfl, Lib.hid (by rw [← hacc.out, hnx.out]; simp), by simpa [iv] using hown1, by have := size_app hgrow; omega, below_app hbel hz hown hgrow⟩
      case measure => (simp [intOf]) <;> omega
    · obtain rfl : k = 0 := by omega
      have hz0k : ¬ (0 : Int) < ((0 : Nat) : Int) := by omega
      have hacc' : Hid (acc = dg d m) := by have := hacc.out; rw [dg_zero, List.append_nil] at this; exact this
      have hlenm : acc.length ≤ m := by rw [hacc'.out]; exact hlen9.out
      have hat := Lib.hid (fun i (hi : i < acc.length) => dg_at hd2.1 m i (by rw [← hacc'.out]; exact hi))
      have hend := Lib.hid (by rw [hacc'.out]; exact dg_end hd2.1 m : m / d ^ acc.length = 0)
      have hMr := isMat_below hM (by rw [hWz]; omega) hbel
      have hc1 := (hbel.cell (by show w.heap.size < w.heap.size + 1; omega)).trans hW1
      have hL0 : (0 : Int) ≤ (acc.length : Int) := by omega
      have hL9 : (acc.length : Int) ≤ 1000000000 := by have := hm9'.out; omega
      have hcd := Lib.hid (fun j (hj : j < acc.length) => (own_cell hown j hj).trans (iv_at acc j hj))
      have hdl := Lib.hid (fun j (hj : j < acc.length) => by rw [hacc'.out] at hj ⊢; exact (dg_at hd2.1 m j hj).1 : ∀ j, j < acc.length → acc.getD j 0 = ((m / d ^ j % d : Nat) : Int))
      obtain ⟨L, hL⟩ : ∃ L, acc.length = L := ⟨_, rfl⟩
      rw [hL] at hat hend hL0 hL9 hcd hdl hown hlenm
      rw [hL]
      have hrest := Lib.hid hau
      clear hacc hacc' hlen9 hL hW0 hW1 hM h hbW hlit hWz hau
      go_wp2
      go_loopw [6, 7] (fun a i wr2 => ∃ t : Nat, t ≤ L ∧ a = .int .i64 (ed d Z (m / d ^ t) : Nat) ∧ i = .int .i64 ((t : Int) - 1) ∧ ∃ nq, wr.drewN nq = wr2) (fun _ i _ => (intOf i + 1).toNat)
      case atStart => exact ⟨L, Nat.le_refl _, by rw [hend.out, ed_zero]; rfl, by go_num, 0, rfl⟩
      case round =>
        obtain ⟨t, htL, rfl, hi, nq, rfl⟩ := hrel
        cases t with
        | zero =>
          have hi' : _ = Value.int .i64 (-1) := hi
          clear hi
          subst hi'
          have he := Lib.hid (by rw [Nat.pow_zero, Nat.div_one] : m / d ^ 0 = m)
          go_wp2
          go_ret
          exact ⟨by rw [he.out]; rfl, by (repeat (first | with_reducible exact Below.refl _ _ | assumption | with_reducible refine Qdrew ?_ | with_reducible refine QdrewN ?_ | ((with_reducible refine Qset ?_ ?_); exact (by ((try simp only [World.size_alloc, World.size_setCell, World.size_drew, size_drewN]); (try dsimp only); omega))) | ((with_reducible refine Qalloc ?_ ?_); exact (by ((try simp only [World.size_alloc, World.size_setCell, World.size_drew, size_drewN]); (try dsimp only); omega))) | refine Qtrans (by assumption) (by ((try simp only [World.size_alloc, World.size_setCell, World.size_drew, size_drewN]); (try dsimp only); omega)) ?_))⟩
        | succ j =>
          have hi' := hi.trans (show Value.int .i64 (((j + 1 : Nat) : Int) - 1) = .int .i64 (j : Int) by congr 1; omega)
          clear hi
          subst hi'
          have hne := (hat.out j (by omega)).2
          have hdig := hdl.out j (by omega)
          have hcell := hcd.out j (by omega)
          rw [hdig] at hcell
          have hpw : m / d ^ (j + 1) = m / d ^ j / d := by rw [Nat.pow_succ, Nat.div_div_eq_div_mul]
          rw [hpw]
          obtain ⟨hrl, hzz⟩ := ed_cell hrest.out hne
          have hsl := ed_lt hrest.out (m / d ^ j / d)
          have hnx : Hid (ed d Z (m / d ^ j) = ed d Z (m / d ^ j)) := Lib.hid rfl
          obtain ⟨q, hq⟩ : ∃ q, m / d ^ j = q := ⟨_, rfl⟩
          have hqh : Hid (m / d ^ j = q) := Lib.hid hq
          rw [hq] at hcell hrl hzz hsl
          rw [hq]
          obtain ⟨s, hs⟩ : ∃ s, ed d Z (q / d) = s := ⟨_, rfl⟩
          rw [hs] at hrl hzz hsl
          rw [hs]
          obtain ⟨r, hr⟩ : ∃ r, q % d = r := ⟨_, rfl⟩
          rw [hr] at hcell hrl hzz
          obtain ⟨t, ht⟩ : ∃ t, ed d Z q = t := ⟨_, rfl⟩
          rw [ht] at hzz
          have hth : Hid (ed d Z q = t) := Lib.hid ht
          obtain ⟨b, off, y, c, rfl, hb, hck, hri⟩ := isMat_row hMr hsl
          obtain ⟨b2, off2, rfl, hb2, hc2⟩ := rI_cell hri (by omega)
          have hcr := hc2 r hrl
          rw [hzz] at hcr
          obtain ⟨len, hlen⟩ : ∃ len, (Z s).length = len := ⟨_, rfl⟩
          rw [hlen] at hck hrl
          have hs0 : (0 : Int) ≤ (s : Int) := by omega
          have hs1 : (s : Int) < (n : Int) := by omega
          have hr0 : (0 : Int) ≤ (r : Int) := by omega
          have hrl1 : (r : Int) < (len : Int) := by omega
          have hj0 : (0 : Int) ≤ (j : Int) := by omega
          have hjL : (j : Int) < (L : Int) := by omega
          clear hdig hne hpw hnx hq hs hr ht hzz hri hc2 hlen hMr
          go_wp2
          go_quiet (fail)
          go_wp2
          go_roundw
          case rel => exact ⟨j, by omega, by rw [hqh.out, hth.out], by go_num, _, rfl⟩
          case measure => (simp [intOf]) <;> omega
end Go.Proofs.Ytfbcbfimhgaicaa
