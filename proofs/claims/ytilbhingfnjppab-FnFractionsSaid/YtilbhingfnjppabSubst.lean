/- The walks of the tests on substitutions, and the laws' own functions on them. -/
import Derived.Test.YtilbhingfnjppabWordsA
import Derived.Test.YtilbhingfnjppabLawT
import Derived.Deep.Onto
set_option linter.unusedSimpArgs false
set_option linter.unusedVariables false
namespace Go.Proofs.Ytilbhingfnjppab
open Go.RowKit
def iOk (n : Nat) (z : ByteArray) : Prop := (1 ≤ z.size ∧ z.size ≤ 8) ∧ isWP z ∧ ∀ i, i < z.size → lt z i < n
def sOk (zs : List ByteArray) : Prop := (1 ≤ zs.length ∧ zs.length ≤ 4) ∧ ∀ j, j < zs.length → iOk zs.length (zs.getD j ByteArray.empty)
open Classical in
noncomputable def sB (zs : List ByteArray) : Bool := decide (sOk zs)
theorem sB_yes {zs : List ByteArray} (h : sOk zs) : sB zs = true := by simp [sB, h]
theorem sB_no {zs : List ByteArray} (h : ¬ sOk zs) : sB zs = false := by simp [sB, h]
theorem s_of {zs : List ByteArray} (h : sB zs = true) : sOk zs := by simpa [sB] using h
theorem s_not {zs : List ByteArray} (h : sB zs = false) : ¬ sOk zs := by simpa [sB] using h
def hiP (n : Nat) (z : ByteArray) : Prop := (∀ i, i < z.size → bt z i - 97 < n) ∧ isWP z
open Classical in
noncomputable def hiB (n : Nat) (z : ByteArray) : Bool := decide (hiP n z)
theorem hiB_yes {n : Nat} {z : ByteArray} (h : hiP n z) : hiB n z = true := by simp [hiB, h]
theorem hiB_no {n : Nat} {z : ByteArray} (h : ¬ hiP n z) : hiB n z = false := by simp [hiB, h]
theorem hiB_of {n : Nat} {z : ByteArray} (h : hiB n z = true) : hiP n z := by simpa [hiB] using h
theorem hiB_not {n : Nat} {z : ByteArray} (h : hiB n z = false) : ¬ hiP n z := by simpa [hiB] using h
theorem hi_low {n : Nat} {z : ByteArray} (h : isWP z) : (∀ i, i < z.size → bt z i - 97 < n) ↔ ∀ i, i < z.size → lt z i < n := by
  constructor
  · intro q i hi
    have h1 := q i hi
    have h2 := (lt_eq (h.2 i hi)).1
    omega
  · intro q i hi
    have h1 := q i hi
    have h2 := (lt_eq (h.2 i hi)).1
    omega

set_option maxRecDepth 20000 in
set_option maxHeartbeats 2000000 in
theorem hasImages_any (x : Option Addr) (n cap : Nat) (z : ByteArray) (w : World) (hn : n ≤ 1048576) (hz : z.size ≤ 9223372036854775807) :
    Calls Try.prog 67 #[.agg #[.slice x n cap], .string z] w fun e w' => e = .returned (.bool (hiB n z)) ∧ Below w.heap.size w w' := by
  have hb : ∀ j (h : j < z.size), ((z[j]'h).toNat : Int) = bt z j := fun j h => bt_eq z j h
  go_enter Try.func67, Try.ntmps67
  go_wp2
  go_loopw [8] (fun i wr => ∃ k : Nat, k ≤ z.size ∧ i = .int .i64 k ∧ Hid (∀ j, j < k → bt z j - 97 < n) ∧ wr.cell? ⟨w.heap.size, 0, none⟩ = some (.slice x n cap) ∧ Below w.heap.size w wr) (fun i _ => z.size - (intOf i).toNat)
  case atStart => exact ⟨0, by omega, rfl, Lib.hid (fun _ h => absurd h (by omega)), by simp [go_sem], by (repeat (first | with_reducible exact Below.refl _ _ | assumption | with_reducible refine Qdrew ?_ | with_reducible refine QdrewN ?_ | ((with_reducible refine Qset ?_ ?_); exact (by ((try simp only [World.size_alloc, World.size_setCell, World.size_drew, size_drewN]); (try dsimp only); omega))) | ((with_reducible refine Qalloc ?_ ?_); exact (by ((try simp only [World.size_alloc, World.size_setCell, World.size_drew, size_drewN]); (try dsimp only); omega))) | refine Qtrans (by assumption) (by ((try simp only [World.size_alloc, World.size_setCell, World.size_drew, size_drewN]); (try dsimp only); omega)) ?_))⟩
  case round =>
    obtain ⟨k, hk, rfl, hall, hcl, hbel⟩ := hrel
    by_cases hlt : k < z.size
    · have hlt' : (k : Int) < (z.size : Int) := by omega
      have hk0 : (0 : Int) ≤ (k : Int) := by omega
      obtain ⟨hr1, hr2⟩ := bt_range z k
      by_cases hlow : bt z k - 97 < (n : Int)
      · have hok := Lib.hid hlow
        have hlow' : ¬ (n : Int) ≤ bt z k - 97 := by omega
        go_wp2_with fail
        go_quiet (fail)
        go_wp2
        go_roundw
        case rel => exact ⟨k + 1, by omega, by go_num, Lib.hid (fun j hj => by
            by_cases e : j = k
            · subst e; exact hok.out
            · exact hall.out j (by omega)), by simp [go_sem, *], by (repeat (first | with_reducible exact Below.refl _ _ | assumption | with_reducible refine Qdrew ?_ | with_reducible refine QdrewN ?_ | ((with_reducible refine Qset ?_ ?_); exact (by ((try simp only [World.size_alloc, World.size_setCell, World.size_drew, size_drewN]); (try dsimp only); omega))) | ((with_reducible refine Qalloc ?_ ?_); exact (by ((try simp only [World.size_alloc, World.size_setCell, World.size_drew, size_drewN]); (try dsimp only); omega))) | refine Qtrans (by assumption) (by ((try simp only [World.size_alloc, World.size_setCell, World.size_drew, size_drewN]); (try dsimp only); omega)) ?_))⟩
        case measure => (simp [intOf]) <;> omega
      · have hf : Hid (hiB n z = false) := hiB_no (fun q => hlow (q.1 k hlt))
        have hlow' : (n : Int) ≤ bt z k - 97 := by omega
        go_wp2_with fail
        go_quiet (fail)
        go_wp2
        go_ret
        exact ⟨by rw [hf.out]; rfl, by (repeat (first | with_reducible exact Below.refl _ _ | assumption | with_reducible refine Qdrew ?_ | with_reducible refine QdrewN ?_ | ((with_reducible refine Qset ?_ ?_); exact (by ((try simp only [World.size_alloc, World.size_setCell, World.size_drew, size_drewN]); (try dsimp only); omega))) | ((with_reducible refine Qalloc ?_ ?_); exact (by ((try simp only [World.size_alloc, World.size_setCell, World.size_drew, size_drewN]); (try dsimp only); omega))) | refine Qtrans (by assumption) (by ((try simp only [World.size_alloc, World.size_setCell, World.size_drew, size_drewN]); (try dsimp only); omega)) ?_))⟩
    · obtain rfl : k = z.size := by omega
      have hf : Hid (hiB n z = isWB z) := by
        show _ = _
        cases h : isWB z
        · exact hiB_no (fun q => isW_not h q.2)
        · exact hiB_yes ⟨hall.out, isW_of h⟩
      go_wp2_with ((go_at_call 62; refine (isWord_any _ _ hz).mono ?_; rintro e w1 ⟨rfl, rfl⟩))
      go_ret
      exact ⟨by rw [hf.out]; rfl, hbel⟩
set_option maxRecDepth 20000 in
set_option maxHeartbeats 2000000 in
theorem implSubstOk_any (x : Option Addr) (n cap : Nat) (zs : List ByteArray) (w : World) (h : IsStrs w x n cap zs) (hn : n ≤ 1048576) :
    Calls Try.prog 32 #[.agg #[.slice x n cap]] w fun e w' => e = .returned (.bool (sB zs)) ∧ Below w.heap.size w w' := by
  have hlen := h.1
  go_enter Try.func32, Try.ntmps32
  go_wp2
  go_loopw [8] (fun i wr => ∃ k : Nat, k ≤ n ∧ i = .int .i64 k ∧ Hid (∀ j, j < k → iOk n (zs.getD j ByteArray.empty)) ∧ wr.cell? ⟨w.heap.size, 0, none⟩ = some (.slice x n cap) ∧ w.heap.size + 1 ≤ wr.heap.size ∧ Below w.heap.size w wr) (fun i _ => n - (intOf i).toNat)
  case atStart => exact ⟨0, by omega, rfl, Lib.hid (fun _ h => absurd h (by omega)), by simp [go_sem], by ((try simp only [World.size_alloc, World.size_setCell, World.size_drew, size_drewN]); (try dsimp only); omega), by (repeat (first | with_reducible exact Below.refl _ _ | assumption | with_reducible refine Qdrew ?_ | with_reducible refine QdrewN ?_ | ((with_reducible refine Qset ?_ ?_); exact (by ((try simp only [World.size_alloc, World.size_setCell, World.size_drew, size_drewN]); (try dsimp only); omega))) | ((with_reducible refine Qalloc ?_ ?_); exact (by ((try simp only [World.size_alloc, World.size_setCell, World.size_drew, size_drewN]); (try dsimp only); omega))) | refine Qtrans (by assumption) (by ((try simp only [World.size_alloc, World.size_setCell, World.size_drew, size_drewN]); (try dsimp only); omega)) ?_))⟩
  case round =>
    obtain ⟨k, hk, rfl, hall, hcl, hz1, hbel⟩ := hrel
    by_cases hlt : k < n
    · obtain ⟨b, off, rfl, hb, hc⟩ := isStrs_cell h (by omega)
      have hck := (hbel.cell (by exact hb)).trans (hc k hlt)
      have hsz := size_le h.2.2.2.1 k
      obtain ⟨s, hs⟩ : ∃ s, zs.getD k ByteArray.empty = s := ⟨_, rfl⟩
      rw [hs] at hck hsz
      have hs' := Lib.hid hs
      have hsz' : s.size ≤ 9223372036854775807 := hsz
      have hk0 : (0 : Int) ≤ (k : Int) := by omega
      have hk1 : (k : Int) < (n : Int) := by omega
      have hbw : b < wr.heap.size := by omega
      clear hs hc hsz
      cases hin : inB (s.size : Int) 1 8
      · have hf := Lib.hid (sB_no (zs := zs) (fun q => by have := (q.2 k (by omega)).1; rw [hs'.out] at this; exact inB_false.1 hin (by omega)))
        go_wp2_with ((go_at_call 65; refine (within_any _ _ _ _).mono ?_; rintro e w1 ⟨rfl, rfl⟩))
        go_ret
        exact ⟨by rw [hf.out]; rfl, hbel⟩
      · have hi := inB_true.1 hin
        cases hh : hiB n s
        · have hf := Lib.hid (sB_no (zs := zs) (fun q => by
            have q1 := (q.2 k (by omega)).2
            rw [hs'.out, hlen] at q1
            exact (hiB_not hh) ⟨(hi_low q1.1).2 q1.2, q1.1⟩))
          go_wp2_with (first | (go_at_call 65; refine (within_any _ _ _ _).mono ?_; rintro e w1 ⟨rfl, rfl⟩) | (go_at_call 67; refine (hasImages_any _ _ _ _ _ hn hsz').mono ?_; rintro e w1 ⟨rfl, hb1⟩))
          go_ret
          exact ⟨by rw [hf.out]; rfl, by (repeat (first | with_reducible exact Below.refl _ _ | assumption | with_reducible refine Qdrew ?_ | with_reducible refine QdrewN ?_ | ((with_reducible refine Qset ?_ ?_); exact (by ((try simp only [World.size_alloc, World.size_setCell, World.size_drew, size_drewN]); (try dsimp only); omega))) | ((with_reducible refine Qalloc ?_ ?_); exact (by ((try simp only [World.size_alloc, World.size_setCell, World.size_drew, size_drewN]); (try dsimp only); omega))) | refine Qtrans (by assumption) (by ((try simp only [World.size_alloc, World.size_setCell, World.size_drew, size_drewN]); (try dsimp only); omega)) ?_))⟩
        · have hP : hiP n s := hiB_of hh
          have hok := Lib.hid (show iOk n s from ⟨by omega, hP.2, (hi_low hP.2).1 hP.1⟩)
          clear hP
          go_wp2_with (first | (go_at_call 65; refine (within_any _ _ _ _).mono ?_; rintro e w1 ⟨rfl, rfl⟩) | (go_at_call 67; refine (hasImages_any _ _ _ _ _ hn hsz').mono ?_; rintro e w1 ⟨rfl, hb1⟩))
          have hcl1 : w1.cell? ⟨w.heap.size, 0, none⟩ = some (.slice (some ⟨b, off, none⟩) n cap) := (hb1.cell (by show w.heap.size < _; omega)).trans hcl
          have hz2 := hb1.size
          go_roundw
          case rel => exact ⟨k + 1, by omega, by go_num, Lib.hid (fun j hj => by
              by_cases e : j = k
              · subst e; rw [hs'.out]; exact hok.out
              · exact hall.out j (by omega)), hcl1, by omega, by (repeat (first | with_reducible exact Below.refl _ _ | assumption | with_reducible refine Qdrew ?_ | with_reducible refine QdrewN ?_ | ((with_reducible refine Qset ?_ ?_); exact (by ((try simp only [World.size_alloc, World.size_setCell, World.size_drew, size_drewN]); (try dsimp only); omega))) | ((with_reducible refine Qalloc ?_ ?_); exact (by ((try simp only [World.size_alloc, World.size_setCell, World.size_drew, size_drewN]); (try dsimp only); omega))) | refine Qtrans (by assumption) (by ((try simp only [World.size_alloc, World.size_setCell, World.size_drew, size_drewN]); (try dsimp only); omega)) ?_))⟩
          case measure => (simp [intOf]) <;> omega
    · obtain rfl : n = k := by omega
      have hf : Hid (sB zs = inB (n : Int) 1 4) := by
        show _ = _
        cases hin : inB (n : Int) 1 4
        · exact sB_no (fun q => inB_false.1 hin (by have := q.1; omega))
        · have hi := inB_true.1 hin
          exact sB_yes ⟨by omega, by rw [hlen]; exact hall.out⟩
      go_wp2_with ((go_at_call 65; refine (within_any _ _ _ _).mono ?_; rintro e w1 ⟨rfl, rfl⟩))
      go_ret
      exact ⟨by rw [hf.out]; rfl, hbel⟩
set_option maxRecDepth 20000 in
set_option maxHeartbeats 2000000 in
theorem specSubstOk_any (x : Option Addr) (n cap : Nat) (zs : List ByteArray) (w : World) (h : IsStrs w x n cap zs) (hn : n ≤ 1048576) :
    Calls Try.prog 134 #[.agg #[.slice x n cap]] w fun e w' => e = .returned (.bool (sB zs)) ∧ Below w.heap.size w w' := by
  have hlen := h.1
  cases hin : inB (n : Int) 1 4
  · have hf := Lib.hid (sB_no (zs := zs) (fun q => inB_false.1 hin (by have := q.1; omega)))
    go_enter Try.func134, Try.ntmps134
    go_wp2_with ((go_at_call 155; refine (l01In_any _ _ _ _).mono ?_; rintro e w1 ⟨rfl, rfl⟩))
    go_ret
    exact ⟨by rw [hf.out]; rfl, by (repeat (first | with_reducible exact Below.refl _ _ | assumption | with_reducible refine Qdrew ?_ | with_reducible refine QdrewN ?_ | ((with_reducible refine Qset ?_ ?_); exact (by ((try simp only [World.size_alloc, World.size_setCell, World.size_drew, size_drewN]); (try dsimp only); omega))) | ((with_reducible refine Qalloc ?_ ?_); exact (by ((try simp only [World.size_alloc, World.size_setCell, World.size_drew, size_drewN]); (try dsimp only); omega))) | refine Qtrans (by assumption) (by ((try simp only [World.size_alloc, World.size_setCell, World.size_drew, size_drewN]); (try dsimp only); omega)) ?_))⟩
  have hi := inB_true.1 hin
  go_enter Try.func134, Try.ntmps134
  go_wp2_with ((go_at_call 155; refine (l01In_any _ _ _ _).mono ?_; rintro e w1 ⟨rfl, rfl⟩))
  go_loopw [15] (fun i wr => ∃ k : Nat, k ≤ n ∧ i = .int .i64 k ∧ Hid (∀ j, j < k → iOk n (zs.getD j ByteArray.empty)) ∧ Below w.heap.size w wr) (fun i _ => n - (intOf i).toNat)
  case atStart => exact ⟨0, by omega, rfl, Lib.hid (fun _ h => absurd h (by omega)), by (repeat (first | with_reducible exact Below.refl _ _ | assumption | with_reducible refine Qdrew ?_ | with_reducible refine QdrewN ?_ | ((with_reducible refine Qset ?_ ?_); exact (by ((try simp only [World.size_alloc, World.size_setCell, World.size_drew, size_drewN]); (try dsimp only); omega))) | ((with_reducible refine Qalloc ?_ ?_); exact (by ((try simp only [World.size_alloc, World.size_setCell, World.size_drew, size_drewN]); (try dsimp only); omega))) | refine Qtrans (by assumption) (by ((try simp only [World.size_alloc, World.size_setCell, World.size_drew, size_drewN]); (try dsimp only); omega)) ?_))⟩
  case round =>
    obtain ⟨k, hk, rfl, hall, hbel⟩ := hrel
    by_cases hlt : k < n
    · obtain ⟨b, off, rfl, hb, hc⟩ := isStrs_cell h (by omega)
      have hck := (hbel.cell (by exact hb)).trans (hc k hlt)
      have hsz := size_le h.2.2.2.1 k
      obtain ⟨s, hs⟩ : ∃ s, zs.getD k ByteArray.empty = s := ⟨_, rfl⟩
      rw [hs] at hck hsz
      have hs' := Lib.hid hs
      have hsz' : s.size ≤ 9223372036854775807 := hsz
      have hk0 : (0 : Int) ≤ (k : Int) := by omega
      have hk1 : (k : Int) < (n : Int) := by omega
      clear hs hc hsz
      cases hin8 : inB (s.size : Int) 1 8
      · have hf := Lib.hid (sB_no (zs := zs) (fun q => by have := (q.2 k (by omega)).1; rw [hs'.out] at this; exact inB_false.1 hin8 (by omega)))
        go_wp2_with ((go_at_call 155; refine (l01In_any _ _ _ _).mono ?_; rintro e w1 ⟨rfl, rfl⟩))
        go_ret
        exact ⟨by rw [hf.out]; rfl, hbel⟩
      · have hi8 := inB_true.1 hin8
        cases hw : isWB s
        · have hf := Lib.hid (sB_no (zs := zs) (fun q => by have q1 := (q.2 k (by omega)).2.1; rw [hs'.out] at q1; exact isW_not hw q1))
          go_wp2_with (first | (go_at_call 155; refine (l01In_any _ _ _ _).mono ?_; rintro e w1 ⟨rfl, rfl⟩) | (go_at_call 116; refine (specWordOk_any _ _ hsz').mono ?_; rintro e w1 ⟨rfl, rfl⟩))
          go_ret
          exact ⟨by rw [hf.out]; rfl, hbel⟩
        · have hww := isW_of hw
          cases hwi : wiB n s
          · have hf := Lib.hid (sB_no (zs := zs) (fun q => by have q1 := (q.2 k (by omega)).2.2; rw [hs'.out, hlen] at q1; exact wi_not hwi q1))
            go_wp2_with (first | (go_at_call 155; refine (l01In_any _ _ _ _).mono ?_; rintro e w1 ⟨rfl, rfl⟩) | (go_at_call 116; refine (specWordOk_any _ _ hsz').mono ?_; rintro e w1 ⟨rfl, rfl⟩) | (go_at_call 117; refine (l03Within_any _ _ _ hww hn).mono ?_; rintro e w1 ⟨rfl, rfl⟩))
            go_ret
            exact ⟨by rw [hf.out]; rfl, hbel⟩
          · have hok := Lib.hid (show iOk n s from ⟨by omega, hww, wi_of hwi⟩)
            go_wp2_with (first | (go_at_call 155; refine (l01In_any _ _ _ _).mono ?_; rintro e w1 ⟨rfl, rfl⟩) | (go_at_call 116; refine (specWordOk_any _ _ hsz').mono ?_; rintro e w1 ⟨rfl, rfl⟩) | (go_at_call 117; refine (l03Within_any _ _ _ hww hn).mono ?_; rintro e w1 ⟨rfl, rfl⟩))
            go_roundw
            case rel => exact ⟨k + 1, by omega, by go_num, Lib.hid (fun j hj => by
                by_cases e : j = k
                · subst e; rw [hs'.out]; exact hok.out
                · exact hall.out j (by omega)), hbel⟩
            case measure => (simp [intOf]) <;> omega
    · obtain rfl : n = k := by omega
      have hf := Lib.hid (sB_yes (zs := zs) ⟨by omega, by rw [hlen]; exact hall.out⟩)
      go_wp2
      go_ret
      exact ⟨by rw [hf.out]; rfl, hbel⟩
/-! ### The laws' own functions -/
/-- A substitution that the law made, in whatever later world. -/
theorem subst_strs {w1 w2 : World} {B g n cap : Nat} {zs : List ByteArray} (h : w1.ownsRow B 9 1 (.slice (some ⟨g, 0, none⟩) n cap) n (sv zs)) (hz : ∀ s ∈ zs, s.size ≤ maxLen) (hb : Below w1.heap.size w1 w2) : IsStrs w2 (some ⟨g, 0, none⟩) n cap zs :=
  isStrs_below (isStrs_own h hz) (Nat.le_refl _) hb
end Go.Proofs.Ytilbhingfnjppab
