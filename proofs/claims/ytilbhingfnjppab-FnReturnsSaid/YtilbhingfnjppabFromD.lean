/- FromDerived: the walks and the law. -/
import Derived.Test.YtilbhingfnjppabWordsA
import Derived.Test.YtilbhingfnjppabLawS
set_option linter.unusedSimpArgs false
set_option linter.unusedVariables false
namespace Go.Proofs.Ytilbhingfnjppab
open Go.RowKit
/-- The words of a list that a word's first letters name, one after the other. -/
def cc (d : ByteArray) (zs : List ByteArray) : Nat → ByteArray
  | 0 => ⟨#[]⟩
  | k + 1 => cc d zs k ++ zs.getD (lt d k) ByteArray.empty
theorem cc_succ (d : ByteArray) (zs : List ByteArray) (k : Nat) : cc d zs (k + 1) = cc d zs k ++ zs.getD (lt d k) ByteArray.empty := rfl
theorem word_size {zs : List ByteArray} (h : ∀ j, j < zs.length → isWP (zs.getD j ByteArray.empty)) (j : Nat) : (zs.getD j ByteArray.empty).size ≤ 400 := by
  by_cases hj : j < zs.length
  · exact (h j hj).1
  · rw [List.getD_eq_getElem?_getD, List.getElem?_eq_none (by omega)]; exact Nat.zero_le _
theorem cc_size {d : ByteArray} {zs : List ByteArray} (h : ∀ j, j < zs.length → isWP (zs.getD j ByteArray.empty)) : ∀ k, (cc d zs k).size ≤ 400 * k
  | 0 => Nat.zero_le _
  | k + 1 => by have := cc_size (d := d) h k; have := word_size h (lt d k); rw [cc_succ, ByteArray.size_append]; omega
theorem cc_mono (d : ByteArray) (zs : List ByteArray) {k m : Nat} (h : k ≤ m) : (cc d zs k).size ≤ (cc d zs m).size := by
  induction h with
  | refl => exact Nat.le_refl _
  | step _ ih => rw [cc_succ, ByteArray.size_append]; omega
def FDok (d : ByteArray) (zs : List ByteArray) : Prop :=
  isWP d ∧ zs.length ≤ 4 ∧ (∀ j, j < d.size → lt d j < zs.length) ∧ (∀ j, j < zs.length → isWP (zs.getD j ByteArray.empty)) ∧ isWP (cc d zs d.size)
open Classical in
noncomputable def fdV (d : ByteArray) (zs : List ByteArray) : Value := if FDok d zs then .tuple #[.string (cc d zs d.size), .bool true] else .tuple #[.string ⟨#[]⟩, .bool false]
theorem fd_yes {d : ByteArray} {zs : List ByteArray} (h : FDok d zs) : fdV d zs = .tuple #[.string (cc d zs d.size), .bool true] := by simp [fdV, h]
theorem fd_no {d : ByteArray} {zs : List ByteArray} (h : ¬ FDok d zs) : fdV d zs = .tuple #[.string ⟨#[]⟩, .bool false] := by simp [fdV, h]
theorem add_run (a b : ByteArray) (h : a.size + b.size ≤ 9223372036854775807) (w : World) : (Op.stringOp .add a b).run Try.prog w = .ok (.string (a ++ b)) w := run_string_add_sum w a b h
set_option maxRecDepth 20000 in
set_option maxHeartbeats 2000000 in
theorem implFromDerived_any (d : ByteArray) (x : Option Addr) (n cap : Nat) (zs : List ByteArray) (w : World) (hd : d.size ≤ 9223372036854775807) (h : IsStrs w x n cap zs) (hn : n ≤ 1048576) :
    Calls Try.prog 27 #[.string d, .slice x n cap] w fun e w' => e = .returned (fdV d zs) ∧ Below w.heap.size w w' := by
  have hlen := h.1
  cases hd1 : isWB d
  · have hf := Lib.hid (fd_no (d := d) (zs := zs) (fun q => isW_not hd1 q.1))
    go_enter Try.func27, Try.ntmps27
    go_wp2_with (first | (go_at_call 62; refine (isWord_any _ _ (by assumption)).mono ?_; rintro e w1 ⟨rfl, rfl⟩))
    (refine bodyPost_ret (v := fdV d zs) (by rw [hf.out]; simp [results, Try.results27, go_sem, *]) rfl ⟨rfl, by (repeat (first | with_reducible exact Below.refl _ _ | assumption | with_reducible refine Qdrew ?_ | with_reducible refine QdrewN ?_ | ((with_reducible refine Qset ?_ ?_); exact (by ((try simp only [World.size_alloc, World.size_setCell, World.size_drew, size_drewN]); (try dsimp only); omega))) | ((with_reducible refine Qalloc ?_ ?_); exact (by ((try simp only [World.size_alloc, World.size_setCell, World.size_drew, size_drewN]); (try dsimp only); omega))) | refine Qtrans (by assumption) (by ((try simp only [World.size_alloc, World.size_setCell, World.size_drew, size_drewN]); (try dsimp only); omega)) ?_))⟩)
  have hdw := isW_of hd1
  by_cases hn4 : 4 < n
  · have hf := Lib.hid (fd_no (d := d) (zs := zs) (fun q => by have := q.2.1; omega))
    have hn4' : (4 : Int) < (n : Int) := by omega
    go_enter Try.func27, Try.ntmps27
    go_wp2_with (first | (go_at_call 62; refine (isWord_any _ _ (by assumption)).mono ?_; rintro e w1 ⟨rfl, rfl⟩))
    (refine bodyPost_ret (v := fdV d zs) (by rw [hf.out]; simp [results, Try.results27, go_sem, *]) rfl ⟨rfl, by (repeat (first | with_reducible exact Below.refl _ _ | assumption | with_reducible refine Qdrew ?_ | with_reducible refine QdrewN ?_ | ((with_reducible refine Qset ?_ ?_); exact (by ((try simp only [World.size_alloc, World.size_setCell, World.size_drew, size_drewN]); (try dsimp only); omega))) | ((with_reducible refine Qalloc ?_ ?_); exact (by ((try simp only [World.size_alloc, World.size_setCell, World.size_drew, size_drewN]); (try dsimp only); omega))) | refine Qtrans (by assumption) (by ((try simp only [World.size_alloc, World.size_setCell, World.size_drew, size_drewN]); (try dsimp only); omega)) ?_))⟩)
  have hn4' : ¬ (4 : Int) < (n : Int) := by omega
  have hb : ∀ j (h : j < d.size), ((d[j]'h).toNat : Int) = bt d j := fun j h => bt_eq d j h
  go_enter Try.func27, Try.ntmps27
  go_wp2_with (first | (go_at_call 62; refine (isWord_any _ _ (by assumption)).mono ?_; rintro e w1 ⟨rfl, rfl⟩))
  go_loopw [21] (fun i wr => ∃ k : Nat, k ≤ n ∧ i = .int .i64 k ∧ Hid (∀ j, j < k → isWP (zs.getD j ByteArray.empty)) ∧ Below w.heap.size w wr) (fun i _ => n - (intOf i).toNat)
  case atStart => exact ⟨0, by omega, rfl, Lib.hid (fun _ h => absurd h (by omega)), Below.refl _ _⟩
  case round =>
    obtain ⟨k, hk, rfl, hall, hbel⟩ := hrel
    by_cases hlt : k < n
    · obtain ⟨b, off, rfl, hbl, hc⟩ := isStrs_cell h (by omega)
      have hck := (hbel.cell (by exact hbl)).trans (hc k hlt)
      have hsz := size_le h.2.2.2.1 k
      obtain ⟨s, hs⟩ : ∃ s, zs.getD k ByteArray.empty = s := ⟨_, rfl⟩
      rw [hs] at hck hsz
      have hs' := Lib.hid hs
      have hsz' : s.size ≤ 9223372036854775807 := hsz
      have hk0 : (0 : Int) ≤ (k : Int) := by omega
      have hk1 : (k : Int) < (n : Int) := by omega
      clear hs hc hsz
      cases hsw : isWB s
      · have hf := Lib.hid (fd_no (d := d) (zs := zs) (fun q => isW_not hsw (by have := q.2.2.2.1 k (by omega); rw [hs'.out] at this; exact this)))
        go_wp2_with (first | (go_at_call 62; refine (isWord_any _ _ hsz').mono ?_; rintro e w1 ⟨rfl, rfl⟩))
        (refine bodyPost_ret (v := fdV d zs) (by rw [hf.out]; simp [results, Try.results27, go_sem, *]) rfl ⟨rfl, by (repeat (first | with_reducible exact Below.refl _ _ | assumption | with_reducible refine Qdrew ?_ | with_reducible refine QdrewN ?_ | ((with_reducible refine Qset ?_ ?_); exact (by ((try simp only [World.size_alloc, World.size_setCell, World.size_drew, size_drewN]); (try dsimp only); omega))) | ((with_reducible refine Qalloc ?_ ?_); exact (by ((try simp only [World.size_alloc, World.size_setCell, World.size_drew, size_drewN]); (try dsimp only); omega))) | refine Qtrans (by assumption) (by ((try simp only [World.size_alloc, World.size_setCell, World.size_drew, size_drewN]); (try dsimp only); omega)) ?_))⟩)
      · go_wp2_with (first | (go_at_call 62; refine (isWord_any _ _ hsz').mono ?_; rintro e w1 ⟨rfl, rfl⟩))
        go_roundw
        case rel => exact ⟨k + 1, by omega, by go_num, Lib.hid (fun j hj => by
            by_cases e : j = k
            · subst e; rw [hs'.out]; exact isW_of hsw
            · exact hall.out j (by omega)), hbel⟩
        case measure => (simp [intOf]) <;> omega
    · obtain rfl : n = k := by omega
      have hall' : Hid (∀ j, j < zs.length → isWP (zs.getD j ByteArray.empty)) := by have := hall.out; rw [← hlen] at this; exact this
      go_wp2
      go_loopw [8, 31] (fun o i wr2 => ∃ m : Nat, m ≤ d.size ∧ i = .int .i64 m ∧ o = .string (cc d zs m) ∧ Hid (∀ j, j < m → lt d j < n) ∧ wr = wr2) (fun _ i _ => d.size - (intOf i).toNat)
      case atStart => exact ⟨0, by omega, rfl, rfl, Lib.hid (fun _ h => absurd h (by omega)), by first | rfl | trivial⟩
      case round =>
        obtain ⟨m, hm, rfl, rfl, hlow, rfl⟩ := hrel
        have hcs := cc_size (d := d) hall'.out m
        have hd400 := hdw.1
        have hcs2 : (cc d zs m).size ≤ 9223372036854775807 := by omega
        by_cases hm1 : m < d.size
        · have hm0 : (0 : Int) ≤ (m : Int) := by omega
          have hm1' : (m : Int) < (d.size : Int) := by omega
          by_cases hln : lt d m < n
          · have hwi' := Lib.hid (show ∀ j, j < m + 1 → lt d j < n from fun j hj => by
              by_cases e : j = m
              · subst e; exact hln
              · exact hlow.out j (by omega))
            obtain ⟨he, hl3⟩ := lt_eq (hdw.2 m hm1)
            obtain ⟨l, hl⟩ : ∃ l, lt d m = l := ⟨_, rfl⟩
            rw [hl] at he hl3 hln
            have hu := u8_small l (by omega)
            obtain ⟨b, off, rfl, hbl, hc⟩ := isStrs_cell h (by omega)
            have hck := (hbel.cell (by exact hbl)).trans (hc l hln)
            have hzs := word_size hall'.out l
            obtain ⟨z, hz⟩ : ∃ z, zs.getD l ByteArray.empty = z := ⟨_, rfl⟩
            rw [hz] at hck hzs
            have hrun := add_run (cc d zs m) z (by omega)
            have hnext : Hid (cc d zs (m + 1) = cc d zs m ++ z) := by show _ = _; rw [cc_succ, hl, hz]
            have hl0 : (0 : Int) ≤ (l : Int) := by omega
            have hl1 : (l : Int) < (n : Int) := by omega
            clear hl hz hc
            go_wp2
            go_roundw
            case rel => exact ⟨m + 1, by omega, by go_num, by rw [hnext.out], hwi', by first | rfl | trivial⟩
            case measure => (simp [intOf]) <;> omega
          · have hf := Lib.hid (fd_no (d := d) (zs := zs) (fun q => by have := q.2.2.1 m hm1; omega))
            obtain ⟨he, hl3⟩ := lt_eq (hdw.2 m hm1)
            obtain ⟨l, hl⟩ : ∃ l, lt d m = l := ⟨_, rfl⟩
            rw [hl] at he hl3 hln
            have hu := u8_small l (by omega)
            have hl1 : (n : Int) ≤ (l : Int) := by omega
            clear hl
            go_wp2
            (refine bodyPost_ret (v := fdV d zs) (by rw [hf.out]; simp [results, Try.results27, go_sem, *]) rfl ⟨rfl, by (repeat (first | with_reducible exact Below.refl _ _ | assumption | with_reducible refine Qdrew ?_ | with_reducible refine QdrewN ?_ | ((with_reducible refine Qset ?_ ?_); exact (by ((try simp only [World.size_alloc, World.size_setCell, World.size_drew, size_drewN]); (try dsimp only); omega))) | ((with_reducible refine Qalloc ?_ ?_); exact (by ((try simp only [World.size_alloc, World.size_setCell, World.size_drew, size_drewN]); (try dsimp only); omega))) | refine Qtrans (by assumption) (by ((try simp only [World.size_alloc, World.size_setCell, World.size_drew, size_drewN]); (try dsimp only); omega)) ?_))⟩)
        · have e : d.size = m := by omega
          subst e
          have hm1' : ¬ (d.size : Int) < (d.size : Int) := by omega
          cases hw : isWB (cc d zs d.size)
          · have hf := Lib.hid (fd_no (d := d) (zs := zs) (fun q => isW_not hw q.2.2.2.2))
            go_wp2_with (first | (go_at_call 62; refine (isWord_any _ _ hcs2).mono ?_; rintro e w1 ⟨rfl, rfl⟩))
            (refine bodyPost_ret (v := fdV d zs) (by rw [hf.out]; simp [results, Try.results27, go_sem, *]) rfl ⟨rfl, by (repeat (first | with_reducible exact Below.refl _ _ | assumption | with_reducible refine Qdrew ?_ | with_reducible refine QdrewN ?_ | ((with_reducible refine Qset ?_ ?_); exact (by ((try simp only [World.size_alloc, World.size_setCell, World.size_drew, size_drewN]); (try dsimp only); omega))) | ((with_reducible refine Qalloc ?_ ?_); exact (by ((try simp only [World.size_alloc, World.size_setCell, World.size_drew, size_drewN]); (try dsimp only); omega))) | refine Qtrans (by assumption) (by ((try simp only [World.size_alloc, World.size_setCell, World.size_drew, size_drewN]); (try dsimp only); omega)) ?_))⟩)
          · have hf := Lib.hid (fd_yes (d := d) (zs := zs) ⟨hdw, by omega, by have := hlow.out; rw [← hlen] at this; exact this, hall'.out, isW_of hw⟩)
            go_wp2_with (first | (go_at_call 62; refine (isWord_any _ _ hcs2).mono ?_; rintro e w1 ⟨rfl, rfl⟩))
            (refine bodyPost_ret (v := fdV d zs) (by rw [hf.out]; simp [results, Try.results27, go_sem, *]) rfl ⟨rfl, by (repeat (first | with_reducible exact Below.refl _ _ | assumption | with_reducible refine Qdrew ?_ | with_reducible refine QdrewN ?_ | ((with_reducible refine Qset ?_ ?_); exact (by ((try simp only [World.size_alloc, World.size_setCell, World.size_drew, size_drewN]); (try dsimp only); omega))) | ((with_reducible refine Qalloc ?_ ?_); exact (by ((try simp only [World.size_alloc, World.size_setCell, World.size_drew, size_drewN]); (try dsimp only); omega))) | refine Qtrans (by assumption) (by ((try simp only [World.size_alloc, World.size_setCell, World.size_drew, size_drewN]); (try dsimp only); omega)) ?_))⟩)

/-- A copy that the law made of a list that came in, in whatever later world. -/
theorem copy_strs {w w1 w2 : World} {g n : Nat} {zs : List ByteArray} (h : w1.ownsRow w.heap.size 9 1 (.slice (some ⟨g, 0, none⟩) n n) n (sv zs)) (hz : ∀ s ∈ zs, s.size ≤ maxLen) (hb : Below w1.heap.size w1 w2) : IsStrs w2 (some ⟨g, 0, none⟩) n n zs :=
  isStrs_below (isStrs_own h hz) (Nat.le_refl _) hb
end Go.Proofs.Ytilbhingfnjppab
