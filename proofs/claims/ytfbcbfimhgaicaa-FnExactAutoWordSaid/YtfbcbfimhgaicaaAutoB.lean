/- AutoOk: the two walks, and the law. -/
import Derived.Test.YtfbcbfimhgaicaaAutoA
import Derived.Test.YtfbcbfimhgaicaaWordsA
set_option linter.unusedSimpArgs false
set_option linter.unusedVariables false
namespace Go.Proofs.Ytfbcbfimhgaicaa
open Go.RowKit
def rowOk (b : Int) (n : Nat) (l : List Int) : Prop := (l.length : Int) = b ∧ ∀ j, j < l.length → 0 ≤ l.getD j 0 ∧ l.getD j 0 ≤ (n : Int) - 1
def auP (b : Int) (n : Nat) (Z : Nat → List Int) (o : ByteArray) : Prop := (2 ≤ b ∧ b ≤ 4) ∧ (1 ≤ n ∧ n ≤ 8) ∧ o.size = n ∧ isWP o ∧ ∀ r, r < n → rowOk b n (Z r)
open Classical in
noncomputable def auB (b : Int) (n : Nat) (Z : Nat → List Int) (o : ByteArray) : Bool := decide (auP b n Z o)
theorem au_no {b : Int} {n : Nat} {Z : Nat → List Int} {o : ByteArray} (h : ¬ auP b n Z o) : auB b n Z o = false := by simp [auB, h]
theorem au_yes {b : Int} {n : Nat} {Z : Nat → List Int} {o : ByteArray} (h : auP b n Z o) : auB b n Z o = true := by simp [auB, h]
theorem au_of {b : Int} {n : Nat} {Z : Nat → List Int} {o : ByteArray} (h : auB b n Z o = true) : auP b n Z o := by simpa [auB] using h
set_option maxHeartbeats 2000000 in
theorem specAutoOk_any (b : Int) (x : Option Addr) (n cap : Nat) (Z : Nat → List Int) (o : ByteArray) (w : World) (h : IsMat w x n Z) (hn : n ≤ 1048576) (ho : o.size ≤ 1048576) (hZ : ∀ r, r < n → (Z r).length ≤ 1048576) :
    Calls Try.prog 16 #[(Value.agg #[.int .i64 b, .slice x n cap, .string o])] w fun e w' => e = .returned (.bool (auB b n Z o)) ∧ Below w.heap.size w w' := by
  have ho63 : o.size ≤ 9223372036854775807 := by omega
  cases hb0 : inB b 2 4
  · have hf := Lib.hid (au_no (b := b) (n := n) (Z := Z) (o := o) (fun q => inB_false.1 hb0 q.1))
    go_enter Try.func16, Try.ntmps16
    go_wp2_with (first | (go_at_call 54; refine (l01In_any _ _ _ _).mono ?_; rintro e w1 ⟨rfl, rfl⟩) | (go_at_call 55; refine (specWordOk_any _ _ ho63).mono ?_; rintro e w1 ⟨rfl, rfl⟩))
    (go_ret; exact ⟨by rw [hf.out]; rfl, by (repeat (first | with_reducible exact Below.refl _ _ | assumption | with_reducible refine Qdrew ?_ | with_reducible refine QdrewN ?_ | ((with_reducible refine Qset ?_ ?_); exact (by ((try simp only [World.size_alloc, World.size_setCell, World.size_drew, size_drewN]); (try dsimp only); omega))) | ((with_reducible refine Qalloc ?_ ?_); exact (by ((try simp only [World.size_alloc, World.size_setCell, World.size_drew, size_drewN]); (try dsimp only); omega))) | refine Qtrans (by assumption) (by ((try simp only [World.size_alloc, World.size_setCell, World.size_drew, size_drewN]); (try dsimp only); omega)) ?_))⟩)
  cases hn0 : inB (n : Int) 1 8
  · have hf := Lib.hid (au_no (b := b) (n := n) (Z := Z) (o := o) (fun q => inB_false.1 hn0 (by have := q.2.1; omega)))
    go_enter Try.func16, Try.ntmps16
    go_wp2_with (first | (go_at_call 54; refine (l01In_any _ _ _ _).mono ?_; rintro e w1 ⟨rfl, rfl⟩) | (go_at_call 55; refine (specWordOk_any _ _ ho63).mono ?_; rintro e w1 ⟨rfl, rfl⟩))
    (go_ret; exact ⟨by rw [hf.out]; rfl, by (repeat (first | with_reducible exact Below.refl _ _ | assumption | with_reducible refine Qdrew ?_ | with_reducible refine QdrewN ?_ | ((with_reducible refine Qset ?_ ?_); exact (by ((try simp only [World.size_alloc, World.size_setCell, World.size_drew, size_drewN]); (try dsimp only); omega))) | ((with_reducible refine Qalloc ?_ ?_); exact (by ((try simp only [World.size_alloc, World.size_setCell, World.size_drew, size_drewN]); (try dsimp only); omega))) | refine Qtrans (by assumption) (by ((try simp only [World.size_alloc, World.size_setCell, World.size_drew, size_drewN]); (try dsimp only); omega)) ?_))⟩)
  by_cases hon : (o.size : Int) = (n : Int)
  rotate_left
  · have hf := Lib.hid (au_no (b := b) (n := n) (Z := Z) (o := o) (fun q => hon (by have := q.2.2.1; omega)))
    go_enter Try.func16, Try.ntmps16
    go_wp2_with (first | (go_at_call 54; refine (l01In_any _ _ _ _).mono ?_; rintro e w1 ⟨rfl, rfl⟩) | (go_at_call 55; refine (specWordOk_any _ _ ho63).mono ?_; rintro e w1 ⟨rfl, rfl⟩))
    (go_ret; exact ⟨by rw [hf.out]; rfl, by (repeat (first | with_reducible exact Below.refl _ _ | assumption | with_reducible refine Qdrew ?_ | with_reducible refine QdrewN ?_ | ((with_reducible refine Qset ?_ ?_); exact (by ((try simp only [World.size_alloc, World.size_setCell, World.size_drew, size_drewN]); (try dsimp only); omega))) | ((with_reducible refine Qalloc ?_ ?_); exact (by ((try simp only [World.size_alloc, World.size_setCell, World.size_drew, size_drewN]); (try dsimp only); omega))) | refine Qtrans (by assumption) (by ((try simp only [World.size_alloc, World.size_setCell, World.size_drew, size_drewN]); (try dsimp only); omega)) ?_))⟩)
  cases hw0 : isWB o
  · have hf := Lib.hid (au_no (b := b) (n := n) (Z := Z) (o := o) (fun q => isW_not hw0 q.2.2.2.1))
    go_enter Try.func16, Try.ntmps16
    go_wp2_with (first | (go_at_call 54; refine (l01In_any _ _ _ _).mono ?_; rintro e w1 ⟨rfl, rfl⟩) | (go_at_call 55; refine (specWordOk_any _ _ ho63).mono ?_; rintro e w1 ⟨rfl, rfl⟩))
    (go_ret; exact ⟨by rw [hf.out]; rfl, by (repeat (first | with_reducible exact Below.refl _ _ | assumption | with_reducible refine Qdrew ?_ | with_reducible refine QdrewN ?_ | ((with_reducible refine Qset ?_ ?_); exact (by ((try simp only [World.size_alloc, World.size_setCell, World.size_drew, size_drewN]); (try dsimp only); omega))) | ((with_reducible refine Qalloc ?_ ?_); exact (by ((try simp only [World.size_alloc, World.size_setCell, World.size_drew, size_drewN]); (try dsimp only); omega))) | refine Qtrans (by assumption) (by ((try simp only [World.size_alloc, World.size_setCell, World.size_drew, size_drewN]); (try dsimp only); omega)) ?_))⟩)
  have hpre := Lib.hid (And.intro (inB_true.1 hb0) (And.intro (inB_true.1 hn0) (isW_of hw0)))
  have hn8 := (inB_true.1 hn0).2
  go_enter Try.func16, Try.ntmps16
  go_wp2_with (first | (go_at_call 54; refine (l01In_any _ _ _ _).mono ?_; rintro e w1 ⟨rfl, rfl⟩) | (go_at_call 55; refine (specWordOk_any _ _ ho63).mono ?_; rintro e w1 ⟨rfl, rfl⟩))
  go_loopw [36] (fun i wr => ∃ k : Nat, k ≤ n ∧ i = .int .i64 k ∧ Hid (∀ r, r < k → rowOk b n (Z r)) ∧ wr = w.alloc (Obj.cells #[.int .i64 b, .slice x n cap, .string o] 27)) (fun i _ => n - (intOf i).toNat)
  case atStart => exact ⟨0, by omega, rfl, Lib.hid (fun _ h => absurd h (by omega)), by first | rfl | trivial⟩
  case round =>
    obtain ⟨k, hk, rfl, hall, rfl⟩ := hrel
    by_cases hlt : k < n
    · obtain ⟨bb, off, y, c, rfl, hbb, hck, hri⟩ := isMat_row h hlt
      have hzl := hZ k hlt
      have hk0 : (0 : Int) ≤ (k : Int) := by omega
      have hk1 : (k : Int) < (n : Int) := by omega
      have hnot := Lib.hid (fun (q : ¬ rowOk b n (Z k)) => au_no (b := b) (n := n) (Z := Z) (o := o) (fun p => q (p.2.2.2.2 k hlt)))
      have hnx := Lib.hid (fun (q : rowOk b n (Z k)) => (fun j (hj : j < k + 1) => by
        by_cases e : j = k
        · subst e; exact q
        · exact hall.out j (by omega) : ∀ j, j < k + 1 → rowOk b n (Z j)))
      obtain ⟨l, hl⟩ : ∃ l, Z k = l := ⟨_, rfl⟩
      rw [hl] at hck hri hzl hnot hnx
      obtain ⟨m, hm⟩ : ∃ m, l.length = m := ⟨_, rfl⟩
      rw [hm] at hck hri hzl
      have hm' := Lib.hid hm
      clear hl h hZ hm
      by_cases hmb : (m : Int) = b
      rotate_left
      · have hf := Lib.hid (hnot.out (fun q => by have := q.1; rw [hm'.out] at this; exact hmb this))
        clear hnot hnx
        go_wp2
        (go_ret; exact ⟨by rw [hf.out]; rfl, by (repeat (first | with_reducible exact Below.refl _ _ | assumption | with_reducible refine Qdrew ?_ | with_reducible refine QdrewN ?_ | ((with_reducible refine Qset ?_ ?_); exact (by ((try simp only [World.size_alloc, World.size_setCell, World.size_drew, size_drewN]); (try dsimp only); omega))) | ((with_reducible refine Qalloc ?_ ?_); exact (by ((try simp only [World.size_alloc, World.size_setCell, World.size_drew, size_drewN]); (try dsimp only); omega))) | refine Qtrans (by assumption) (by ((try simp only [World.size_alloc, World.size_setCell, World.size_drew, size_drewN]); (try dsimp only); omega)) ?_))⟩)
      · go_wp2
        go_loopw [47] (fun i wr => ∃ j : Nat, j ≤ m ∧ i = .int .i64 j ∧ Hid (∀ q, q < j → 0 ≤ l.getD q 0 ∧ l.getD q 0 ≤ (n : Int) - 1) ∧ wr = w.alloc (Obj.cells #[.int .i64 b, .slice (some ⟨bb, off, none⟩) n cap, .string o] 27)) (fun i _ => m - (intOf i).toNat)
        case atStart => exact ⟨0, by omega, rfl, Lib.hid (fun _ h => absurd h (by omega)), by first | rfl | trivial⟩
        case round =>
          obtain ⟨j, hj, rfl, hrow, rfl⟩ := hrel
          by_cases hlt2 : j < m
          · obtain ⟨b2, off2, rfl, hb2, hc2⟩ := rI_cell hri (by omega)
            have hcj := hc2 j hlt2
            have hj0 : (0 : Int) ≤ (j : Int) := by omega
            have hj1 : (j : Int) < (m : Int) := by omega
            have hbad := Lib.hid (fun (q : ¬ (0 ≤ l.getD j 0 ∧ l.getD j 0 ≤ (n : Int) - 1)) => hnot.out (fun p => q (p.2 j (by have := hm'.out; omega))))
            have hgo := Lib.hid (fun (q : 0 ≤ l.getD j 0 ∧ l.getD j 0 ≤ (n : Int) - 1) => (fun i (hi : i < j + 1) => by
              by_cases e : i = j
              · subst e; exact q
              · exact hrow.out i (by omega) : ∀ i, i < j + 1 → 0 ≤ l.getD i 0 ∧ l.getD i 0 ≤ (n : Int) - 1))
            obtain ⟨z, hz⟩ : ∃ z, l.getD j 0 = z := ⟨_, rfl⟩
            rw [hz] at hcj hbad hgo
            clear hc2 hz hri
            cases hin : inB z 0 ((n : Int) - 1)
            · have hf := Lib.hid (hbad.out (inB_false.1 hin))
              clear hnot hnx hbad hgo
              go_wp2_with (first | (go_at_call 54; refine (l01In_any _ _ _ _).mono ?_; rintro e w1 ⟨rfl, rfl⟩) | (go_at_call 55; refine (specWordOk_any _ _ ho63).mono ?_; rintro e w1 ⟨rfl, rfl⟩))
              (go_ret; exact ⟨by rw [hf.out]; rfl, by (repeat (first | with_reducible exact Below.refl _ _ | assumption | with_reducible refine Qdrew ?_ | with_reducible refine QdrewN ?_ | ((with_reducible refine Qset ?_ ?_); exact (by ((try simp only [World.size_alloc, World.size_setCell, World.size_drew, size_drewN]); (try dsimp only); omega))) | ((with_reducible refine Qalloc ?_ ?_); exact (by ((try simp only [World.size_alloc, World.size_setCell, World.size_drew, size_drewN]); (try dsimp only); omega))) | refine Qtrans (by assumption) (by ((try simp only [World.size_alloc, World.size_setCell, World.size_drew, size_drewN]); (try dsimp only); omega)) ?_))⟩)
            · have hok := Lib.hid (hgo.out (inB_true.1 hin))
              clear hnot hnx hbad hgo
              go_wp2_with (first | (go_at_call 54; refine (l01In_any _ _ _ _).mono ?_; rintro e w1 ⟨rfl, rfl⟩) | (go_at_call 55; refine (specWordOk_any _ _ ho63).mono ?_; rintro e w1 ⟨rfl, rfl⟩))
              go_roundw
              case rel => exact ⟨j + 1, by omega, by go_num, hok, by first | rfl | trivial⟩
              case measure => (simp [intOf]) <;> omega
          · obtain rfl : m = j := by omega
            have hok := Lib.hid (hnx.out ⟨by rw [hm'.out]; exact hmb, fun q hq => hrow.out q (by have := hm'.out; omega)⟩)
            clear hnot hnx
            go_wp2
            go_roundw
            case rel => exact ⟨k + 1, by omega, by go_num, hok, by first | rfl | trivial⟩
            case measure => (simp [intOf]) <;> omega
    · obtain rfl : n = k := by omega
      have hf := Lib.hid (au_yes (b := b) (n := n) (Z := Z) (o := o) ⟨hpre.out.1, ⟨by have := hpre.out.2.1; omega, by omega⟩, by omega, hpre.out.2.2, hall.out⟩)
      go_wp2
      (go_ret; exact ⟨by rw [hf.out]; rfl, by (repeat (first | with_reducible exact Below.refl _ _ | assumption | with_reducible refine Qdrew ?_ | with_reducible refine QdrewN ?_ | ((with_reducible refine Qset ?_ ?_); exact (by ((try simp only [World.size_alloc, World.size_setCell, World.size_drew, size_drewN]); (try dsimp only); omega))) | ((with_reducible refine Qalloc ?_ ?_); exact (by ((try simp only [World.size_alloc, World.size_setCell, World.size_drew, size_drewN]); (try dsimp only); omega))) | refine Qtrans (by assumption) (by ((try simp only [World.size_alloc, World.size_setCell, World.size_drew, size_drewN]); (try dsimp only); omega)) ?_))⟩)
set_option maxHeartbeats 2000000 in
theorem implAutoOk_any (b : Int) (x : Option Addr) (n cap : Nat) (Z : Nat → List Int) (o : ByteArray) (w : World) (h : IsMat w x n Z) (hn : n ≤ 1048576) (ho : o.size ≤ 1048576) (hZ : ∀ r, r < n → (Z r).length ≤ 1048576) :
    Calls Try.prog 18 #[(Value.agg #[.int .i64 b, .slice x n cap, .string o])] w fun e w' => e = .returned (.bool (auB b n Z o)) ∧ Below w.heap.size w w' := by
  have ho63 : o.size ≤ 9223372036854775807 := by omega
  cases hb0 : inB b 2 4
  · have hf := Lib.hid (au_no (b := b) (n := n) (Z := Z) (o := o) (fun q => inB_false.1 hb0 q.1))
    go_enter Try.func18, Try.ntmps18
    go_wp2_with (first | (go_at_call 57; refine (within_any _ _ _ _).mono ?_; rintro e w1 ⟨rfl, rfl⟩) | (go_at_call 58; refine (isWord_any _ _ ho63).mono ?_; rintro e w1 ⟨rfl, rfl⟩))
    (go_ret; exact ⟨by rw [hf.out]; rfl, by (repeat (first | with_reducible exact Below.refl _ _ | assumption | with_reducible refine Qdrew ?_ | with_reducible refine QdrewN ?_ | ((with_reducible refine Qset ?_ ?_); exact (by ((try simp only [World.size_alloc, World.size_setCell, World.size_drew, size_drewN]); (try dsimp only); omega))) | ((with_reducible refine Qalloc ?_ ?_); exact (by ((try simp only [World.size_alloc, World.size_setCell, World.size_drew, size_drewN]); (try dsimp only); omega))) | refine Qtrans (by assumption) (by ((try simp only [World.size_alloc, World.size_setCell, World.size_drew, size_drewN]); (try dsimp only); omega)) ?_))⟩)
  cases hn0 : inB (n : Int) 1 8
  · have hf := Lib.hid (au_no (b := b) (n := n) (Z := Z) (o := o) (fun q => inB_false.1 hn0 (by have := q.2.1; omega)))
    go_enter Try.func18, Try.ntmps18
    go_wp2_with (first | (go_at_call 57; refine (within_any _ _ _ _).mono ?_; rintro e w1 ⟨rfl, rfl⟩) | (go_at_call 58; refine (isWord_any _ _ ho63).mono ?_; rintro e w1 ⟨rfl, rfl⟩))
    (go_ret; exact ⟨by rw [hf.out]; rfl, by (repeat (first | with_reducible exact Below.refl _ _ | assumption | with_reducible refine Qdrew ?_ | with_reducible refine QdrewN ?_ | ((with_reducible refine Qset ?_ ?_); exact (by ((try simp only [World.size_alloc, World.size_setCell, World.size_drew, size_drewN]); (try dsimp only); omega))) | ((with_reducible refine Qalloc ?_ ?_); exact (by ((try simp only [World.size_alloc, World.size_setCell, World.size_drew, size_drewN]); (try dsimp only); omega))) | refine Qtrans (by assumption) (by ((try simp only [World.size_alloc, World.size_setCell, World.size_drew, size_drewN]); (try dsimp only); omega)) ?_))⟩)
  by_cases hon : (o.size : Int) = (n : Int)
  rotate_left
  · have hf := Lib.hid (au_no (b := b) (n := n) (Z := Z) (o := o) (fun q => hon (by have := q.2.2.1; omega)))
    go_enter Try.func18, Try.ntmps18
    go_wp2_with (first | (go_at_call 57; refine (within_any _ _ _ _).mono ?_; rintro e w1 ⟨rfl, rfl⟩) | (go_at_call 58; refine (isWord_any _ _ ho63).mono ?_; rintro e w1 ⟨rfl, rfl⟩))
    (go_ret; exact ⟨by rw [hf.out]; rfl, by (repeat (first | with_reducible exact Below.refl _ _ | assumption | with_reducible refine Qdrew ?_ | with_reducible refine QdrewN ?_ | ((with_reducible refine Qset ?_ ?_); exact (by ((try simp only [World.size_alloc, World.size_setCell, World.size_drew, size_drewN]); (try dsimp only); omega))) | ((with_reducible refine Qalloc ?_ ?_); exact (by ((try simp only [World.size_alloc, World.size_setCell, World.size_drew, size_drewN]); (try dsimp only); omega))) | refine Qtrans (by assumption) (by ((try simp only [World.size_alloc, World.size_setCell, World.size_drew, size_drewN]); (try dsimp only); omega)) ?_))⟩)
  cases hw0 : isWB o
  · have hf := Lib.hid (au_no (b := b) (n := n) (Z := Z) (o := o) (fun q => isW_not hw0 q.2.2.2.1))
    go_enter Try.func18, Try.ntmps18
    go_wp2_with (first | (go_at_call 57; refine (within_any _ _ _ _).mono ?_; rintro e w1 ⟨rfl, rfl⟩) | (go_at_call 58; refine (isWord_any _ _ ho63).mono ?_; rintro e w1 ⟨rfl, rfl⟩))
    (go_ret; exact ⟨by rw [hf.out]; rfl, by (repeat (first | with_reducible exact Below.refl _ _ | assumption | with_reducible refine Qdrew ?_ | with_reducible refine QdrewN ?_ | ((with_reducible refine Qset ?_ ?_); exact (by ((try simp only [World.size_alloc, World.size_setCell, World.size_drew, size_drewN]); (try dsimp only); omega))) | ((with_reducible refine Qalloc ?_ ?_); exact (by ((try simp only [World.size_alloc, World.size_setCell, World.size_drew, size_drewN]); (try dsimp only); omega))) | refine Qtrans (by assumption) (by ((try simp only [World.size_alloc, World.size_setCell, World.size_drew, size_drewN]); (try dsimp only); omega)) ?_))⟩)
  have hpre := Lib.hid (And.intro (inB_true.1 hb0) (And.intro (inB_true.1 hn0) (isW_of hw0)))
  have hn8 := (inB_true.1 hn0).2
  go_enter Try.func18, Try.ntmps18
  go_wp2_with (first | (go_at_call 57; refine (within_any _ _ _ _).mono ?_; rintro e w1 ⟨rfl, rfl⟩) | (go_at_call 58; refine (isWord_any _ _ ho63).mono ?_; rintro e w1 ⟨rfl, rfl⟩))
  go_loopw [36] (fun i wr => ∃ k : Nat, k ≤ n ∧ i = .int .i64 k ∧ Hid (∀ r, r < k → rowOk b n (Z r)) ∧ wr = w.alloc (Obj.cells #[.int .i64 b, .slice x n cap, .string o] 27)) (fun i _ => n - (intOf i).toNat)
  case atStart => exact ⟨0, by omega, rfl, Lib.hid (fun _ h => absurd h (by omega)), by first | rfl | trivial⟩
  case round =>
    obtain ⟨k, hk, rfl, hall, rfl⟩ := hrel
    by_cases hlt : k < n
    · obtain ⟨bb, off, y, c, rfl, hbb, hck, hri⟩ := isMat_row h hlt
      have hzl := hZ k hlt
      have hk0 : (0 : Int) ≤ (k : Int) := by omega
      have hk1 : (k : Int) < (n : Int) := by omega
      have hnot := Lib.hid (fun (q : ¬ rowOk b n (Z k)) => au_no (b := b) (n := n) (Z := Z) (o := o) (fun p => q (p.2.2.2.2 k hlt)))
      have hnx := Lib.hid (fun (q : rowOk b n (Z k)) => (fun j (hj : j < k + 1) => by
        by_cases e : j = k
        · subst e; exact q
        · exact hall.out j (by omega) : ∀ j, j < k + 1 → rowOk b n (Z j)))
      obtain ⟨l, hl⟩ : ∃ l, Z k = l := ⟨_, rfl⟩
      rw [hl] at hck hri hzl hnot hnx
      obtain ⟨m, hm⟩ : ∃ m, l.length = m := ⟨_, rfl⟩
      rw [hm] at hck hri hzl
      have hm' := Lib.hid hm
      clear hl h hZ hm
      by_cases hmb : (m : Int) = b
      rotate_left
      · have hf := Lib.hid (hnot.out (fun q => by have := q.1; rw [hm'.out] at this; exact hmb this))
        clear hnot hnx
        go_wp2
        (go_ret; exact ⟨by rw [hf.out]; rfl, by (repeat (first | with_reducible exact Below.refl _ _ | assumption | with_reducible refine Qdrew ?_ | with_reducible refine QdrewN ?_ | ((with_reducible refine Qset ?_ ?_); exact (by ((try simp only [World.size_alloc, World.size_setCell, World.size_drew, size_drewN]); (try dsimp only); omega))) | ((with_reducible refine Qalloc ?_ ?_); exact (by ((try simp only [World.size_alloc, World.size_setCell, World.size_drew, size_drewN]); (try dsimp only); omega))) | refine Qtrans (by assumption) (by ((try simp only [World.size_alloc, World.size_setCell, World.size_drew, size_drewN]); (try dsimp only); omega)) ?_))⟩)
      · go_wp2
        go_loopw [47] (fun i wr => ∃ j : Nat, j ≤ m ∧ i = .int .i64 j ∧ Hid (∀ q, q < j → 0 ≤ l.getD q 0 ∧ l.getD q 0 ≤ (n : Int) - 1) ∧ wr = w.alloc (Obj.cells #[.int .i64 b, .slice (some ⟨bb, off, none⟩) n cap, .string o] 27)) (fun i _ => m - (intOf i).toNat)
        case atStart => exact ⟨0, by omega, rfl, Lib.hid (fun _ h => absurd h (by omega)), by first | rfl | trivial⟩
        case round =>
          obtain ⟨j, hj, rfl, hrow, rfl⟩ := hrel
          by_cases hlt2 : j < m
          · obtain ⟨b2, off2, rfl, hb2, hc2⟩ := rI_cell hri (by omega)
            have hcj := hc2 j hlt2
            have hj0 : (0 : Int) ≤ (j : Int) := by omega
            have hj1 : (j : Int) < (m : Int) := by omega
            have hbad := Lib.hid (fun (q : ¬ (0 ≤ l.getD j 0 ∧ l.getD j 0 ≤ (n : Int) - 1)) => hnot.out (fun p => q (p.2 j (by have := hm'.out; omega))))
            have hgo := Lib.hid (fun (q : 0 ≤ l.getD j 0 ∧ l.getD j 0 ≤ (n : Int) - 1) => (fun i (hi : i < j + 1) => by
              by_cases e : i = j
              · subst e; exact q
              · exact hrow.out i (by omega) : ∀ i, i < j + 1 → 0 ≤ l.getD i 0 ∧ l.getD i 0 ≤ (n : Int) - 1))
            obtain ⟨z, hz⟩ : ∃ z, l.getD j 0 = z := ⟨_, rfl⟩
            rw [hz] at hcj hbad hgo
            clear hc2 hz hri
            cases hin : inB z 0 ((n : Int) - 1)
            · have hf := Lib.hid (hbad.out (inB_false.1 hin))
              clear hnot hnx hbad hgo
              go_wp2_with (first | (go_at_call 57; refine (within_any _ _ _ _).mono ?_; rintro e w1 ⟨rfl, rfl⟩) | (go_at_call 58; refine (isWord_any _ _ ho63).mono ?_; rintro e w1 ⟨rfl, rfl⟩))
              (go_ret; exact ⟨by rw [hf.out]; rfl, by (repeat (first | with_reducible exact Below.refl _ _ | assumption | with_reducible refine Qdrew ?_ | with_reducible refine QdrewN ?_ | ((with_reducible refine Qset ?_ ?_); exact (by ((try simp only [World.size_alloc, World.size_setCell, World.size_drew, size_drewN]); (try dsimp only); omega))) | ((with_reducible refine Qalloc ?_ ?_); exact (by ((try simp only [World.size_alloc, World.size_setCell, World.size_drew, size_drewN]); (try dsimp only); omega))) | refine Qtrans (by assumption) (by ((try simp only [World.size_alloc, World.size_setCell, World.size_drew, size_drewN]); (try dsimp only); omega)) ?_))⟩)
            · have hok := Lib.hid (hgo.out (inB_true.1 hin))
              clear hnot hnx hbad hgo
              go_wp2_with (first | (go_at_call 57; refine (within_any _ _ _ _).mono ?_; rintro e w1 ⟨rfl, rfl⟩) | (go_at_call 58; refine (isWord_any _ _ ho63).mono ?_; rintro e w1 ⟨rfl, rfl⟩))
              go_roundw
              case rel => exact ⟨j + 1, by omega, by go_num, hok, by first | rfl | trivial⟩
              case measure => (simp [intOf]) <;> omega
          · obtain rfl : m = j := by omega
            have hok := Lib.hid (hnx.out ⟨by rw [hm'.out]; exact hmb, fun q hq => hrow.out q (by have := hm'.out; omega)⟩)
            clear hnot hnx
            go_wp2
            go_roundw
            case rel => exact ⟨k + 1, by omega, by go_num, hok, by first | rfl | trivial⟩
            case measure => (simp [intOf]) <;> omega
    · obtain rfl : n = k := by omega
      have hf := Lib.hid (au_yes (b := b) (n := n) (Z := Z) (o := o) ⟨hpre.out.1, ⟨by have := hpre.out.2.1; omega, by omega⟩, by omega, hpre.out.2.2, hall.out⟩)
      go_wp2
      (go_ret; exact ⟨by rw [hf.out]; rfl, by (repeat (first | with_reducible exact Below.refl _ _ | assumption | with_reducible refine Qdrew ?_ | with_reducible refine QdrewN ?_ | ((with_reducible refine Qset ?_ ?_); exact (by ((try simp only [World.size_alloc, World.size_setCell, World.size_drew, size_drewN]); (try dsimp only); omega))) | ((with_reducible refine Qalloc ?_ ?_); exact (by ((try simp only [World.size_alloc, World.size_setCell, World.size_drew, size_drewN]); (try dsimp only); omega))) | refine Qtrans (by assumption) (by ((try simp only [World.size_alloc, World.size_setCell, World.size_drew, size_drewN]); (try dsimp only); omega)) ?_))⟩)
end Go.Proofs.Ytfbcbfimhgaicaa
