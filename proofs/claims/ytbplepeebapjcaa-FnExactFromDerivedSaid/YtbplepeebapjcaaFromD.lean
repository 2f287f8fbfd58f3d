/- FromDerived: the walks and the law. -/
import Derived.Test.YtbplepeebapjcaaWordsA
import Derived.Test.YtbplepeebapjcaaLawS
set_option linter.unusedSimpArgs false
set_option linter.unusedVariables false
namespace Go.Proofs.Ytbplepeebapjcaa
open Go.RowKit
/-- The words of a list that a word's first letters name, one after the other. -/
def cc (d : ByteArray) (zs : List ByteArray) : Nat → ByteArray
  | 0 => ⟨#[]⟩
  | k + 1 => cc d zs k ++ zs.getD (lt d k) ByteArray.empty
theorem cc_succ (d : ByteArray) (zs : List ByteArray) (k : Nat) : cc d zs (k + 1) = cc d zs k ++ zs.getD (lt d k) ByteArray.empty := rfl
theorem word_size {zs : List ByteArray} (h : ∀ j, j < zs.length → isWP (zs.getD j ByteArray.empty)) (j : Nat) : (zs.getD j ByteArray.empty).size ≤ 400 := by
  by_cases hj : j < zs.length
  · exact (h j hj).1
  · rw [List.getD_eq_getElem?_getD, List.getElem?_eq_none (by omega)]; exact Nat.zero_le _
theorem cc_size {d : ByteArray} {zs : List ByteArray} (h : ∀ j, j < zs.length → isWP (zs.getD j ByteArray.empty)) : ∀ k, (cc d zs k).size ≤ 400 * k
  | 0 => Nat.zero_le _
  | k + 1 => by have := cc_size (d := d) h k; have := word_size h (lt d k); rw [cc_succ, ByteArray.size_append]; omega
theorem cc_mono (d : ByteArray) (zs : List ByteArray) {k m : Nat} (h : k ≤ m) : (cc d zs k).size ≤ (cc d zs m).size := by
  induction h with
  | refl => exact Nat.le_refl _
  | step _ ih => rw [cc_succ, ByteArray.size_append]; omega
def FDok (d : ByteArray) (zs : List ByteArray) : Prop :=
  isWP d ∧ zs.length ≤ 4 ∧ (∀ j, j < d.size → lt d j < zs.length) ∧ (∀ j, j < zs.length → isWP (zs.getD j ByteArray.empty)) ∧ isWP (cc d zs d.size)
open Classical in
noncomputable def fdV (d : ByteArray) (zs : List ByteArray) : Value := if FDok d zs then .tuple #[.string (cc d zs d.size), .bool true] else .tuple #[.string ⟨#[]⟩, .bool false]
theorem fd_yes {d : ByteArray} {zs : List ByteArray} (h : FDok d zs) : fdV d zs = .tuple #[.string (cc d zs d.size), .bool true] := by simp [fdV, h]
theorem fd_no {d : ByteArray} {zs : List ByteArray} (h : ¬ FDok d zs) : fdV d zs = .tuple #[.string ⟨#[]⟩, .bool false] := by simp [fdV, h]
theorem add_run (a b : ByteArray) (h : a.size + b.size ≤ 9223372036854775807) (w : World) : (Op.stringOp .add a b).run Try.prog w = .ok (.string (a ++ b)) w := run_string_add_sum w a b h
set_option maxHeartbeats 2000000 in
theorem specFromDerived_any (d : ByteArray) (x : Option Addr) (n cap : Nat) (zs : List ByteArray) (w : World) (hd : d.size ≤ 9223372036854775807) (h : IsStrs w x n cap zs) (hn : n ≤ 1048576) :
    Calls Try.prog 16 #[.string d, .slice x n cap] w fun e w' => e = .returned (fdV d zs) ∧ Below w.heap.size w w' := by
  have hlen := h.1
  cases hd1 : isWB d
  · have hf := Lib.hid (fd_no (d := d) (zs := zs) (fun q => isW_not hd1 q.1))
    go_enter Try.func16, Try.ntmps16
    go_wp2_with (first | (go_at_call 55; refine (specWordOk_any _ _ (by assumption)).mono ?_; rintro e w1 ⟨rfl, rfl⟩))
    (refine bodyPost_ret (v := fdV d zs) (by rw [hf.out]; simp [results, Try.results16, go_sem, *]) rfl ⟨rfl, by (repeat (first | with_reducible exact Below.refl _ _ | assumption | with_reducible refine Qdrew ?_ | with_reducible refine QdrewN ?_ | ((with_reducible refine Qset ?_ ?_); exact (by ((try simp only [World.size_alloc, World.size_setCell, World.size_drew, size_drewN]); (try dsimp only); omega))) | ((with_reducible refine Qalloc ?_ ?_); exact (by ((try simp only [World.size_alloc, World.size_setCell, World.size_drew, size_drewN]); (try dsimp only); omega))) | refine Qtrans (by assumption) (by ((try simp only [World.size_alloc, World.size_setCell, World.size_drew, size_drewN]); (try dsimp only); omega)) ?_))⟩)
  have hdw := isW_of hd1
  by_cases hn4 : 4 < n
  · have hf := Lib.hid (fd_no (d := d) (zs := zs) (fun q => by have := q.2.1; omega))
    have hn4' : (4 : Int) < (n : Int) := by omega
    go_enter Try.func16, Try.ntmps16
    go_wp2_with (first | (go_at_call 55; refine (specWordOk_any _ _ (by assumption)).mono ?_; rintro e w1 ⟨rfl, rfl⟩))
    (refine bodyPost_ret (v := fdV d zs) (by rw [hf.out]; simp [results, Try.results16, go_sem, *]) rfl ⟨rfl, by (repeat (first | with_reducible exact Below.refl _ _ | assumption | with_reducible refine Qdrew ?_ | with_reducible refine QdrewN ?_ | ((with_reducible refine Qset ?_ ?_); exact (by ((try simp only [World.size_alloc, World.size_setCell, World.size_drew, size_drewN]); (try dsimp only); omega))) | ((with_reducible refine Qalloc ?_ ?_); exact (by ((try simp only [World.size_alloc, World.size_setCell, World.size_drew, size_drewN]); (try dsimp only); omega))) | refine Qtrans (by assumption) (by ((try simp only [World.size_alloc, World.size_setCell, World.size_drew, size_drewN]); (try dsimp only); omega)) ?_))⟩)
  have hn4' : ¬ (4 : Int) < (n : Int) := by omega
  cases hwi : wiB n d
  · have hf := Lib.hid (fd_no (d := d) (zs := zs) (fun q => wi_not hwi (by have := q.2.2.1; rw [hlen] at this; exact this)))
    go_enter Try.func16, Try.ntmps16
    go_wp2_with (first | (go_at_call 55; refine (specWordOk_any _ _ (by assumption)).mono ?_; rintro e w1 ⟨rfl, rfl⟩) | (go_at_call 56; refine (l03Within_any _ _ _ hdw (by omega)).mono ?_; rintro e w1 ⟨rfl, rfl⟩))
    (refine bodyPost_ret (v := fdV d zs) (by rw [hf.out]; simp [results, Try.results16, go_sem, *]) rfl ⟨rfl, by (repeat (first | with_reducible exact Below.refl _ _ | assumption | with_reducible refine Qdrew ?_ | with_reducible refine QdrewN ?_ | ((with_reducible refine Qset ?_ ?_); exact (by ((try simp only [World.size_alloc, World.size_setCell, World.size_drew, size_drewN]); (try dsimp only); omega))) | ((with_reducible refine Qalloc ?_ ?_); exact (by ((try simp only [World.size_alloc, World.size_setCell, World.size_drew, size_drewN]); (try dsimp only); omega))) | refine Qtrans (by assumption) (by ((try simp only [World.size_alloc, World.size_setCell, World.size_drew, size_drewN]); (try dsimp only); omega)) ?_))⟩)
  have hwi' := Lib.hid (wi_of hwi)
  have hb : ∀ j (h : j < d.size), ((d[j]'h).toNat : Int) = bt d j := fun j h => bt_eq d j h
  go_enter Try.func16, Try.ntmps16
  go_wp2_with (first | (go_at_call 55; refine (specWordOk_any _ _ (by assumption)).mono ?_; rintro e w1 ⟨rfl, rfl⟩) | (go_at_call 56; refine (l03Within_any _ _ _ hdw (by omega)).mono ?_; rintro e w1 ⟨rfl, rfl⟩))
  go_loopw [27] (fun i wr => ∃ k : Nat, k ≤ n ∧ i = .int .i64 k ∧ Hid (∀ j, j < k → isWP (zs.getD j ByteArray.empty)) ∧ Below w.heap.size w wr) (fun i _ => n - (intOf i).toNat)
  case atStart => exact ⟨0, by omega, rfl, Lib.hid (fun _ h => absurd h (by omega)), Below.refl _ _⟩
  case round =>
    obtain ⟨k, hk, rfl, hall, hbel⟩ := hrel
    by_cases hlt : k < n
    · obtain ⟨b, off, rfl, hbl, hc⟩ := isStrs_cell h (by omega)
      have hck := (hbel.cell (by exact hbl)).trans (hc k hlt)
      have hsz := size_le h.2.2.2.1 k
      obtain ⟨s, hs⟩ : ∃ s, zs.getD k ByteArray.empty = s := ⟨_, rfl⟩
      rw [hs] at hck hsz
      have hs' := Lib.hid hs
      have hsz' : s.size ≤ 9223372036854775807 := hsz
      have hk0 : (0 : Int) ≤ (k : Int) := by omega
      have hk1 : (k : Int) < (n : Int) := by omega
      clear hs hc hsz
      cases hsw : isWB s
      · have hf := Lib.hid (fd_no (d := d) (zs := zs) (fun q => isW_not hsw (by have := q.2.2.2.1 k (by omega); rw [hs'.out] at this; exact this)))
        go_wp2_with (first | (go_at_call 55; refine (specWordOk_any _ _ hsz').mono ?_; rintro e w1 ⟨rfl, rfl⟩))
        (refine bodyPost_ret (v := fdV d zs) (by rw [hf.out]; simp [results, Try.results16, go_sem, *]) rfl ⟨rfl, by (repeat (first | with_reducible exact Below.refl _ _ | assumption | with_reducible refine Qdrew ?_ | with_reducible refine QdrewN ?_ | ((with_reducible refine Qset ?_ ?_); exact (by ((try simp only [World.size_alloc, World.size_setCell, World.size_drew, size_drewN]); (try dsimp only); omega))) | ((with_reducible refine Qalloc ?_ ?_); exact (by ((try simp only [World.size_alloc, World.size_setCell, World.size_drew, size_drewN]); (try dsimp only); omega))) | refine Qtrans (by assumption) (by ((try simp only [World.size_alloc, World.size_setCell, World.size_drew, size_drewN]); (try dsimp only); omega)) ?_))⟩)
      · go_wp2_with (first | (go_at_call 55; refine (specWordOk_any _ _ hsz').mono ?_; rintro e w1 ⟨rfl, rfl⟩))
        go_roundw
        case rel => exact ⟨k + 1, by omega, by go_num, Lib.hid (fun j hj => by
            by_cases e : j = k
            · subst e; rw [hs'.out]; exact isW_of hsw
            · exact hall.out j (by omega)), hbel⟩
        case measure => (simp [intOf]) <;> omega
    · obtain rfl : n = k := by omega
      have hall' : Hid (∀ j, j < zs.length → isWP (zs.getD j ByteArray.empty)) := by have := hall.out; rw [← hlen] at this; exact this
      go_wp2
      go_loopw [8, 9] (fun o i wr2 => ∃ m : Nat, m ≤ d.size ∧ i = .int .i64 m ∧ o = .string (cc d zs m) ∧ wr = wr2) (fun _ i _ => d.size - (intOf i).toNat)
      case atStart => exact ⟨0, by omega, rfl, rfl, by first | rfl | trivial⟩
      case round =>
        obtain ⟨m, hm, rfl, rfl, rfl⟩ := hrel
        have hcs := cc_size (d := d) hall'.out m
        have hd400 := hdw.1
        have hcs2 : (cc d zs m).size ≤ 9223372036854775807 := by omega
        by_cases hgo : m < d.size ∧ (cc d zs m).size ≤ 400
        · obtain ⟨hm1, hm2⟩ := hgo
          obtain ⟨he, hl3⟩ := lt_eq (hdw.2 m hm1)
          have hln := hwi'.out m hm1
          obtain ⟨l, hl⟩ : ∃ l, lt d m = l := ⟨_, rfl⟩
          rw [hl] at he hl3 hln
          have hu := u8_small l (by omega)
          obtain ⟨b, off, rfl, hbl, hc⟩ := isStrs_cell h (by omega)
          have hck := (hbel.cell (by exact hbl)).trans (hc l hln)
          have hzs := word_size hall'.out l
          obtain ⟨z, hz⟩ : ∃ z, zs.getD l ByteArray.empty = z := ⟨_, rfl⟩
          rw [hz] at hck hzs
          have hrun := add_run (cc d zs m) z (by omega)
          have hnext : Hid (cc d zs (m + 1) = cc d zs m ++ z) := by show _ = _; rw [cc_succ, hl, hz]
          have hm0 : (0 : Int) ≤ (m : Int) := by omega
          have hm1' : (m : Int) < (d.size : Int) := by omega
          have hl0 : (0 : Int) ≤ (l : Int) := by omega
          have hl1 : (l : Int) < (n : Int) := by omega
          clear hl hz hc
          have hm2' : ((cc d zs m).size : Int) ≤ 400 := by omega
          go_wp2
          go_roundw
          case rel => exact ⟨m + 1, by omega, by go_num, by rw [hnext.out], by first | rfl | trivial⟩
          case measure => (simp [intOf]) <;> omega
        · cases hw : isWB (cc d zs m)
          · have hf := Lib.hid (fd_no (d := d) (zs := zs) (fun q => by
              have h1 := q.2.2.2.2
              have h2 := isW_not hw
              by_cases hm1 : m < d.size
              · have := cc_mono d zs hm; have := h1.1; omega
              · have e : m = d.size := by omega
                subst e; exact h2 h1))
            by_cases hm1 : m < d.size
            · have hm1' : (m : Int) < (d.size : Int) := by omega
              have hm2' : ¬ ((cc d zs m).size : Int) ≤ 400 := by omega
              go_wp2_with (first | (go_at_call 55; refine (specWordOk_any _ _ hcs2).mono ?_; rintro e w1 ⟨rfl, rfl⟩))
              (refine bodyPost_ret (v := fdV d zs) (by rw [hf.out]; simp [results, Try.results16, go_sem, *]) rfl ⟨rfl, by (repeat (first | with_reducible exact Below.refl _ _ | assumption | with_reducible refine Qdrew ?_ | with_reducible refine QdrewN ?_ | ((with_reducible refine Qset ?_ ?_); exact (by ((try simp only [World.size_alloc, World.size_setCell, World.size_drew, size_drewN]); (try dsimp only); omega))) | ((with_reducible refine Qalloc ?_ ?_); exact (by ((try simp only [World.size_alloc, World.size_setCell, World.size_drew, size_drewN]); (try dsimp only); omega))) | refine Qtrans (by assumption) (by ((try simp only [World.size_alloc, World.size_setCell, World.size_drew, size_drewN]); (try dsimp only); omega)) ?_))⟩)
            · have hm1' : ¬ (m : Int) < (d.size : Int) := by omega
              go_wp2_with (first | (go_at_call 55; refine (specWordOk_any _ _ hcs2).mono ?_; rintro e w1 ⟨rfl, rfl⟩))
              (refine bodyPost_ret (v := fdV d zs) (by rw [hf.out]; simp [results, Try.results16, go_sem, *]) rfl ⟨rfl, by (repeat (first | with_reducible exact Below.refl _ _ | assumption | with_reducible refine Qdrew ?_ | with_reducible refine QdrewN ?_ | ((with_reducible refine Qset ?_ ?_); exact (by ((try simp only [World.size_alloc, World.size_setCell, World.size_drew, size_drewN]); (try dsimp only); omega))) | ((with_reducible refine Qalloc ?_ ?_); exact (by ((try simp only [World.size_alloc, World.size_setCell, World.size_drew, size_drewN]); (try dsimp only); omega))) | refine Qtrans (by assumption) (by ((try simp only [World.size_alloc, World.size_setCell, World.size_drew, size_drewN]); (try dsimp only); omega)) ?_))⟩)
          · have hw' := isW_of hw
            have e : m = d.size := by have := hw'.1; omega
            subst e
            have hf := Lib.hid (fd_yes (d := d) (zs := zs) ⟨hdw, by omega, by have := hwi'.out; rw [← hlen] at this; exact this, hall'.out, hw'⟩)
            go_wp2_with (first | (go_at_call 55; refine (specWordOk_any _ _ hcs2).mono ?_; rintro e w1 ⟨rfl, rfl⟩))
            (refine bodyPost_ret (v := fdV d zs) (by rw [hf.out]; simp [results, Try.results16, go_sem, *]) rfl ⟨rfl, by (repeat (first | with_reducible exact Below.refl _ _ | assumption | with_reducible refine Qdrew ?_ | with_reducible refine QdrewN ?_ | ((with_reducible refine Qset ?_ ?_); exact (by ((try simp only [World.size_alloc, World.size_setCell, World.size_drew, size_drewN]); (try dsimp only); omega))) | ((with_reducible refine Qalloc ?_ ?_); exact (by ((try simp only [World.size_alloc, World.size_setCell, World.size_drew, size_drewN]); (try dsimp only); omega))) | refine Qtrans (by assumption) (by ((try simp only [World.size_alloc, World.size_setCell, World.size_drew, size_drewN]); (try dsimp only); omega)) ?_))⟩)
set_option maxHeartbeats 2000000 in
theorem implFromDerived_any (d : ByteArray) (x : Option Addr) (n cap : Nat) (zs : List ByteArray) (w : World) (hd : d.size ≤ 9223372036854775807) (h : IsStrs w x n cap zs) (hn : n ≤ 1048576) :
    Calls Try.prog 18 #[.string d, .slice x n cap] w fun e w' => e = .returned (fdV d zs) ∧ Below w.heap.size w w' := by
  have hlen := h.1
  cases hd1 : isWB d
  · have hf := Lib.hid (fd_no (d := d) (zs := zs) (fun q => isW_not hd1 q.1))
    go_enter Try.func18, Try.ntmps18
    go_wp2_with (first | (go_at_call 57; refine (isWord_any _ _ (by assumption)).mono ?_; rintro e w1 ⟨rfl, rfl⟩))
    (refine bodyPost_ret (v := fdV d zs) (by rw [hf.out]; simp [results, Try.results18, go_sem, *]) rfl ⟨rfl, by (repeat (first | with_reducible exact Below.refl _ _ | assumption | with_reducible refine Qdrew ?_ | with_reducible refine QdrewN ?_ | ((with_reducible refine Qset ?_ ?_); exact (by ((try simp only [World.size_alloc, World.size_setCell, World.size_drew, size_drewN]); (try dsimp only); omega))) | ((with_reducible refine Qalloc ?_ ?_); exact (by ((try simp only [World.size_alloc, World.size_setCell, World.size_drew, size_drewN]); (try dsimp only); omega))) | refine Qtrans (by assumption) (by ((try simp only [World.size_alloc, World.size_setCell, World.size_drew, size_drewN]); (try dsimp only); omega)) ?_))⟩)
  have hdw := isW_of hd1
  by_cases hn4 : 4 < n
  · have hf := Lib.hid (fd_no (d := d) (zs := zs) (fun q => by have := q.2.1; omega))
    have hn4' : (4 : Int) < (n : Int) := by omega
    go_enter Try.func18, Try.ntmps18
    go_wp2_with (first | (go_at_call 57; refine (isWord_any _ _ (by assumption)).mono ?_; rintro e w1 ⟨rfl, rfl⟩))
    (refine bodyPost_ret (v := fdV d zs) (by rw [hf.out]; simp [results, Try.results18, go_sem, *]) rfl ⟨rfl, by (repeat (first | with_reducible exact Below.refl _ _ | assumption | with_reducible refine Qdrew ?_ | with_reducible refine QdrewN ?_ | ((with_reducible refine Qset ?_ ?_); exact (by ((try simp only [World.size_alloc, World.size_setCell, World.size_drew, size_drewN]); (try dsimp only); omega))) | ((with_reducible refine Qalloc ?_ ?_); exact (by ((try simp only [World.size_alloc, World.size_setCell, World.size_drew, size_drewN]); (try dsimp only); omega))) | refine Qtrans (by assumption) (by ((try simp only [World.size_alloc, World.size_setCell, World.size_drew, size_drewN]); (try dsimp only); omega)) ?_))⟩)
  have hn4' : ¬ (4 : Int) < (n : Int) := by omega
  have hb : ∀ j (h : j < d.size), ((d[j]'h).toNat : Int) = bt d j := fun j h => bt_eq d j h
  go_enter Try.func18, Try.ntmps18
  go_wp2_with (first | (go_at_call 57; refine (isWord_any _ _ (by assumption)).mono ?_; rintro e w1 ⟨rfl, rfl⟩))
  go_loopw [21] (fun i wr => ∃ k : Nat, k ≤ n ∧ i = .int .i64 k ∧ Hid (∀ j, j < k → isWP (zs.getD j ByteArray.empty)) ∧ Below w.heap.size w wr) (fun i _ => n - (intOf i).toNat)
  case atStart => exact ⟨0, by omega, rfl, Lib.hid (fun _ h => absurd h (by omega)), Below.refl _ _⟩
  case round =>
    obtain ⟨k, hk, rfl, hall, hbel⟩ := hrel
    by_cases hlt : k < n
    · obtain ⟨b, off, rfl, hbl, hc⟩ := isStrs_cell h (by omega)
      have hck := (hbel.cell (by exact hbl)).trans (hc k hlt)
      have hsz := size_le h.2.2.2.1 k
      obtain ⟨s, hs⟩ : ∃ s, zs.getD k ByteArray.empty = s := ⟨_, rfl⟩
      rw [hs] at hck hsz
      have hs' := Lib.hid hs
      have hsz' : s.size ≤ 9223372036854775807 := hsz
      have hk0 : (0 : Int) ≤ (k : Int) := by omega
      have hk1 : (k : Int) < (n : Int) := by omega
      clear hs hc hsz
      cases hsw : isWB s
      · have hf := Lib.hid (fd_no (d := d) (zs := zs) (fun q => isW_not hsw (by have := q.2.2.2.1 k (by omega); rw [hs'.out] at this; exact this)))
        go_wp2_with (first | (go_at_call 57; refine (isWord_any _ _ hsz').mono ?_; rintro e w1 ⟨rfl, rfl⟩))
        (refine bodyPost_ret (v := fdV d zs) (by rw [hf.out]; simp [results, Try.results18, go_sem, *]) rfl ⟨rfl, by (repeat (first | with_reducible exact Below.refl _ _ | assumption | with_reducible refine Qdrew ?_ | with_reducible refine QdrewN ?_ | ((with_reducible refine Qset ?_ ?_); exact (by ((try simp only [World.size_alloc, World.size_setCell, World.size_drew, size_drewN]); (try dsimp only); omega))) | ((with_reducible refine Qalloc ?_ ?_); exact (by ((try simp only [World.size_alloc, World.size_setCell, World.size_drew, size_drewN]); (try dsimp only); omega))) | refine Qtrans (by assumption) (by ((try simp only [World.size_alloc, World.size_setCell, World.size_drew, size_drewN]); (try dsimp only); omega)) ?_))⟩)
      · go_wp2_with (first | (go_at_call 57; refine (isWord_any _ _ hsz').mono ?_; rintro e w1 ⟨rfl, rfl⟩))
        go_roundw
        case rel => exact ⟨k + 1, by omega, by go_num, Lib.hid (fun j hj => by
            by_cases e : j = k
            · subst e; rw [hs'.out]; exact isW_of hsw
            · exact hall.out j (by omega)), hbel⟩
        case measure => (simp [intOf]) <;> omega
    · obtain rfl : n = k := by omega
      have hall' : Hid (∀ j, j < zs.length → isWP (zs.getD j ByteArray.empty)) := by have := hall.out; rw [← hlen] at this; exact this
      go_wp2
      go_loopw [8, 31] (fun o i wr2 => ∃ m : Nat, m ≤ d.size ∧ i = .int .i64 m ∧ o = .string (cc d zs m) ∧ Hid (∀ j, j < m → lt d j < n) ∧ wr = wr2) (fun _ i _ => d.size - (intOf i).toNat)
      case atStart => exact ⟨0, by omega, rfl, rfl, Lib.hid (fun _ h => absurd h (by omega)), by first | rfl | trivial⟩
      case round =>
        obtain ⟨m, hm, rfl, rfl, hlow, rfl⟩ := hrel
        have hcs := cc_size (d := d) hall'.out m
        have hd400 := hdw.1
        have hcs2 : (cc d zs m).size ≤ 9223372036854775807 := by omega
        by_cases hm1 : m < d.size
        · have hm0 : (0 : Int) ≤ (m : Int) := by omega
          have hm1' : (m : Int) < (d.size : Int) := by omega
          by_cases hln : lt d m < n
          · have hwi' := Lib.hid (show ∀ j, j < m + 1 → lt d j < n from fun j hj => by
              by_cases e : j = m
              · subst e; exact hln
              · exact hlow.out j (by omega))
            obtain ⟨he, hl3⟩ := lt_eq (hdw.2 m hm1)
            obtain ⟨l, hl⟩ : ∃ l, lt d m = l := ⟨_, rfl⟩
            rw [hl] at he hl3 hln
            have hu := u8_small l (by omega)
            obtain ⟨b, off, rfl, hbl, hc⟩ := isStrs_cell h (by omega)
            have hck := (hbel.cell (by exact hbl)).trans (hc l hln)
            have hzs := word_size hall'.out l
            obtain ⟨z, hz⟩ : ∃ z, zs.getD l ByteArray.empty = z := ⟨_, rfl⟩
            rw [hz] at hck hzs
            have hrun := add_run (cc d zs m) z (by omega)
            have hnext : Hid (cc d zs (m + 1) = cc d zs m ++ z) := by show _ = _; rw [cc_succ, hl, hz]
            have hl0 : (0 : Int) ≤ (l : Int) := by omega
            have hl1 : (l : Int) < (n : Int) := by omega
            clear hl hz hc
            go_wp2
            go_roundw
            case rel => exact ⟨m + 1, by omega, by go_num, by rw [hnext.out], hwi', by first | rfl | trivial⟩
            case measure => (simp [intOf]) <;> omega
          · have hf := Lib.hid (fd_no (d := d) (zs := zs) (fun q => by have := q.2.2.1 m hm1; omega))
            obtain ⟨he, hl3⟩ := lt_eq (hdw.2 m hm1)
            obtain ⟨l, hl⟩ : ∃ l, lt d m = l := ⟨_, rfl⟩
            rw [hl] at he hl3 hln
            have hu := u8_small l (by omega)
            have hl1 : (n : Int) ≤ (l : Int) := by omega
            clear hl
            go_wp2
            (refine bodyPost_ret (v := fdV d zs) (by rw [hf.out]; simp [results, Try.results18, go_sem, *]) rfl ⟨rfl, by (repeat (first | with_reducible exact Below.refl _ _ | assumption | with_reducible refine Qdrew ?_ | with_reducible refine QdrewN ?_ | ((with_reducible refine Qset ?_ ?_); exact (by ((try simp only [World.size_alloc, World.size_setCell, World.size_drew, size_drewN]); (try dsimp only); omega))) | ((with_reducible refine Qalloc ?_ ?_); exact (by ((try simp only [World.size_alloc, World.size_setCell, World.size_drew, size_drewN]); (try dsimp only); omega))) | refine Qtrans (by assumption) (by ((try simp only [World.size_alloc, World.size_setCell, World.size_drew, size_drewN]); (try dsimp only); omega)) ?_))⟩)
        · have e : d.size = m := by omega
          subst e
          have hm1' : ¬ (d.size : Int) < (d.size : Int) := by omega
          cases hw : isWB (cc d zs d.size)
          · have hf := Lib.hid (fd_no (d := d) (zs := zs) (fun q => isW_not hw q.2.2.2.2))
            go_wp2_with (first | (go_at_call 57; refine (isWord_any _ _ hcs2).mono ?_; rintro e w1 ⟨rfl, rfl⟩))
            (refine bodyPost_ret (v := fdV d zs) (by rw [hf.out]; simp [results, Try.results18, go_sem, *]) rfl ⟨rfl, by (repeat (first | with_reducible exact Below.refl _ _ | assumption | with_reducible refine Qdrew ?_ | with_reducible refine QdrewN ?_ | ((with_reducible refine Qset ?_ ?_); exact (by ((try simp only [World.size_alloc, World.size_setCell, World.size_drew, size_drewN]); (try dsimp only); omega))) | ((with_reducible refine Qalloc ?_ ?_); exact (by ((try simp only [World.size_alloc, World.size_setCell, World.size_drew, size_drewN]); (try dsimp only); omega))) | refine Qtrans (by assumption) (by ((try simp only [World.size_alloc, World.size_setCell, World.size_drew, size_drewN]); (try dsimp only); omega)) ?_))⟩)
          · have hf := Lib.hid (fd_yes (d := d) (zs := zs) ⟨hdw, by omega, by have := hlow.out; rw [← hlen] at this; exact this, hall'.out, isW_of hw⟩)
            go_wp2_with (first | (go_at_call 57; refine (isWord_any _ _ hcs2).mono ?_; rintro e w1 ⟨rfl, rfl⟩))
            (refine bodyPost_ret (v := fdV d zs) (by rw [hf.out]; simp [results, Try.results18, go_sem, *]) rfl ⟨rfl, by (repeat (first | with_reducible exact Below.refl _ _ | assumption | with_reducible refine Qdrew ?_ | with_reducible refine QdrewN ?_ | ((with_reducible refine Qset ?_ ?_); exact (by ((try simp only [World.size_alloc, World.size_setCell, World.size_drew, size_drewN]); (try dsimp only); omega))) | ((with_reducible refine Qalloc ?_ ?_); exact (by ((try simp only [World.size_alloc, World.size_setCell, World.size_drew, size_drewN]); (try dsimp only); omega))) | refine Qtrans (by assumption) (by ((try simp only [World.size_alloc, World.size_setCell, World.size_drew, size_drewN]); (try dsimp only); omega)) ?_))⟩)

/-- A copy that the law made of a list that came in, in whatever later world. -/
theorem copy_strs {w w1 w2 : World} {g n : Nat} {zs : List ByteArray} (h : w1.ownsRow w.heap.size 9 1 (.slice (some ⟨g, 0, none⟩) n n) n (sv zs)) (hz : ∀ s ∈ zs, s.size ≤ maxLen) (hb : Below w1.heap.size w1 w2) : IsStrs w2 (some ⟨g, 0, none⟩) n n zs :=
  isStrs_below (isStrs_own h hz) (Nat.le_refl _) hb
set_option maxHeartbeats 2000000 in
theorem FromDerived_law (w : World) (d : ByteArray) (hd : d.size ≤ maxLen) (x : Option Addr) (n cap : Nat) (zs : List ByteArray) (h : IsStrs w x n cap zs) :
    Calls Try.prog 3 #[.string d, .slice x n cap] w fun e w' => e = .returned (.bool true) ∧ Below w.heap.size w w' := by
  have hd' : d.size ≤ 9223372036854775807 := hd
  clear hd
  by_cases hbig : (1048576 : Int) < (d.size : Int)
  · go_enter Try.func3, Try.ntmps3
    go_wp2
    go_ret
    exact ⟨rfl, by (repeat (first | with_reducible exact Below.refl _ _ | assumption | with_reducible refine Qdrew ?_ | with_reducible refine QdrewN ?_ | ((with_reducible refine Qset ?_ ?_); exact (by ((try simp only [World.size_alloc, World.size_setCell, World.size_drew, size_drewN]); (try dsimp only); omega))) | ((with_reducible refine Qalloc ?_ ?_); exact (by ((try simp only [World.size_alloc, World.size_setCell, World.size_drew, size_drewN]); (try dsimp only); omega))) | refine Qtrans (by assumption) (by ((try simp only [World.size_alloc, World.size_setCell, World.size_drew, size_drewN]); (try dsimp only); omega)) ?_))⟩
  have hz := h.2.2.2.1
  obtain ⟨vb, hvb⟩ : ∃ q : ByteArray × Bool, fdV d zs = .tuple #[.string q.1, .bool q.2] := by
    unfold fdV; split
    · exact ⟨(_, true), rfl⟩
    · exact ⟨(_, false), rfl⟩
  obtain ⟨v, b⟩ := vb
  go_enter Try.func3, Try.ntmps3
  go_wp2_with (go_at_call 15; refine (szStringS_any _ _ _ _ _ _ h (by omega)).mono ?_; rintro e w1 ⟨r, rfl, hr, rfl⟩)
  · go_ret
    exact ⟨rfl, by (repeat (first | with_reducible exact Below.refl _ _ | assumption | with_reducible refine Qdrew ?_ | with_reducible refine QdrewN ?_ | ((with_reducible refine Qset ?_ ?_); exact (by ((try simp only [World.size_alloc, World.size_setCell, World.size_drew, size_drewN]); (try dsimp only); omega))) | ((with_reducible refine Qalloc ?_ ?_); exact (by ((try simp only [World.size_alloc, World.size_setCell, World.size_drew, size_drewN]); (try dsimp only); omega))) | refine Qtrans (by assumption) (by ((try simp only [World.size_alloc, World.size_setCell, World.size_drew, size_drewN]); (try dsimp only); omega)) ?_))⟩
  · have hn : n ≤ 1048576 := by rcases hr with hr | hr <;> omega
    have hspec : ∀ (w : World) (y : Option Addr) (c : Nat), IsStrs w y n c zs → Calls Try.prog 16 #[.string d, .slice y n c] w fun e w' => e = .returned (.tuple #[.string v, .bool b]) ∧ Below w.heap.size w w' := fun w y c q => hvb ▸ specFromDerived_any d y n c zs w hd' q hn
    have himpl : ∀ (w : World) (y : Option Addr) (c : Nat), IsStrs w y n c zs → Calls Try.prog 18 #[.string d, .slice y n c] w fun e w' => e = .returned (.tuple #[.string v, .bool b]) ∧ Below w.heap.size w w' := fun w y c q => hvb ▸ implFromDerived_any d y n c zs w hd' q hn
    clear hvb
    go_at_call 17
    refine (toStringS_any _ _ _ _ _ h hn).mono ?_
    rintro e w1 ⟨g1, rfl, hg1, hown1, hb1⟩
    have hs1 := isStrs_own hown1 hz
    have hx1 := isStrs_below h (Nat.le_refl _) hb1
    go_wp2_with (go_at_call 16; refine (hspec _ _ _ hs1).mono ?_; rintro e w2 ⟨rfl, hb2⟩)
    have hx2 := isStrs_below hx1 (Nat.le_refl _) hb2
    go_wp2_with (go_at_call 17; refine (toStringS_any _ _ _ _ _ hx2 hn).mono ?_; rintro e w3 ⟨g3, rfl, hg3, hown3, hb3⟩)
    have hs3 := isStrs_own hown3 hz
    have hx3 := isStrs_below hx2 (Nat.le_refl _) hb3
    go_wp2_with (go_at_call 18; refine (himpl _ _ _ hs3).mono ?_; rintro e w4 ⟨rfl, hb4⟩)
    have hs4 := isStrs_below hs3 (Nat.le_refl _) hb4
    have hx4 := isStrs_below hx3 (Nat.le_refl _) hb4
    go_wp2_with (go_at_call 17; refine (toStringS_any _ _ _ _ _ hx4 hn).mono ?_; rintro e w5 ⟨g5, rfl, hg5, hown5, hb5⟩)
    have hs5 := isStrs_own hown5 hz
    have hs6 := isStrs_below hs4 (Nat.le_refl _) hb5
    go_wp2_with (go_at_call 19; refine (eqStringS_same _ _ _ _ _ _ _ hs6 hs5).mono ?_; rintro e w6 ⟨rfl, hb6⟩)
    go_wp2
    go_ret
    have z1 := hb1.size
    have z2 := hb2.size
    have z3 := hb3.size
    have z4 := hb4.size
    have z5 := hb5.size
    exact ⟨rfl, by (repeat (first | with_reducible exact Below.refl _ _ | assumption | with_reducible refine Qdrew ?_ | with_reducible refine QdrewN ?_ | ((with_reducible refine Qset ?_ ?_); exact (by ((try simp only [World.size_alloc, World.size_setCell, World.size_drew, size_drewN]); (try dsimp only); omega))) | ((with_reducible refine Qalloc ?_ ?_); exact (by ((try simp only [World.size_alloc, World.size_setCell, World.size_drew, size_drewN]); (try dsimp only); omega))) | refine Qtrans (by assumption) (by ((try simp only [World.size_alloc, World.size_setCell, World.size_drew, size_drewN]); (try dsimp only); omega)) ?_))⟩
end Go.Proofs.Ytbplepeebapjcaa
