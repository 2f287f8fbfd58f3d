/- Central words. -/
import Derived.Test.YtilbhingfnjppabCenA
import Derived.Test.YtilbhingfnjppabGcd
set_option linter.unusedSimpArgs false
set_option linter.unusedVariables false
namespace Go.Proofs.Ytilbhingfnjppab
open Go.RowKit
open Classical in
noncomputable def perB (s : ByteArray) (p : Nat) : Bool := decide (∀ j, j + p < s.size → bt s j = bt s (j + p))
open Classical in
theorem perB_big {s : ByteArray} {p : Nat} (h : s.size ≤ p) : perB s p = true := decide_eq_true (fun j hj => by omega)
open Classical in
theorem perB_all {s : ByteArray} {p : Nat} (h : ∀ j, j + p < s.size → bt s j = bt s (j + p)) : perB s p = true := decide_eq_true h
open Classical in
theorem perB_no {s : ByteArray} {p k : Nat} (hk : k + p < s.size) (h : bt s k ≠ bt s (k + p)) : perB s p = false := decide_eq_false (fun q => h (q k hk))
open Classical in
theorem per_ext (s : ByteArray) (p m : Nat) (hm : m + p = s.size) : ((s.extract 0 m).toList == (s.extract p s.size).toList) = perB s p := by
  have e1 : (s.extract 0 m).toList = s.data.toList.take m := by
    rw [Lib.extract_toList]; simp
  have e2 : (s.extract p s.size).toList = s.data.toList.drop p := by
    rw [Lib.extract_toList, List.take_of_length_le]
    simp
  rw [e1, e2]
  by_cases hall : ∀ j, j + p < s.size → bt s j = bt s (j + p)
  · rw [perB_all hall, beq_iff_eq]
    apply List.ext_getElem?
    intro j
    by_cases hj : j < m
    · rw [List.getElem?_take, if_pos hj, List.getElem?_drop, list_at s j (by omega), list_at s (p + j) (by omega)]
      have := hall j (by omega)
      rw [byteAt_bt s j (by omega), byteAt_bt s (j + p) (by omega)] at this
      rw [Nat.add_comm p j]
      congr 1
      exact UInt8.toNat_inj.1 (by omega)
    · rw [List.getElem?_eq_none (by simp; omega), List.getElem?_eq_none (by simp; omega)]
  · have : perB s p = false := decide_eq_false hall
    rw [this]
    apply Bool.eq_false_iff.2
    intro he
    rw [beq_iff_eq] at he
    apply hall
    intro j hj
    have h1 : (s.data.toList.take m)[j]? = (s.data.toList.drop p)[j]? := by rw [he]
    rw [List.getElem?_take, if_pos (by omega), List.getElem?_drop, list_at s j (by omega), list_at s (p + j) (by omega)] at h1
    rw [byteAt_bt s j (by omega), byteAt_bt s (j + p) hj, Nat.add_comm j p]
    have := Option.some.inj h1
    rw [this]
set_option maxRecDepth 20000 in
set_option maxHeartbeats 1000000 in
theorem isPower_any (s : ByteArray) (p : Nat) (w : World) (hs : s.size ≤ 400) (hp0 : 1 ≤ p) (hp : p ≤ 1000) :
    Calls Try.prog 85 #[.string s, .int .i64 0, .int .i64 s.size, .int .i64 p] w fun e w' => e = .returned (.bool (perB s p)) ∧ Below w.heap.size w w' := by
  have hb : ∀ j (h : j < s.size), ((s[j]'h).toNat : Int) = bt s j := fun j h => bt_eq s j h
  go_enter Try.func85, Try.ntmps85
  go_wp2
  go_loopw [9] (fun i wr => ∃ k : Nat, k ≤ s.size ∧ i = .int .i64 k ∧ Hid (∀ j, j < k → j + p < s.size → bt s j = bt s (j + p)) ∧ Below w.heap.size w wr) (fun i _ => s.size - (intOf i).toNat)
  case atStart => exact ⟨0, by omega, rfl, Lib.hid (fun _ h => absurd h (by omega)), Below.refl _ _⟩
  case round =>
    obtain ⟨k, hk, rfl, hall, hbel⟩ := hrel
    by_cases hlt : k + p < s.size
    · have hlt' : (k : Int) + (p : Int) < (s.size : Int) := by omega
      have hk0 : (0 : Int) ≤ (k : Int) := by omega
      have hk1 : (k : Int) < (s.size : Int) := by omega
      have hkp : (0 : Int) ≤ (k : Int) + (p : Int) := by omega
      by_cases heq : bt s k = bt s (k + p)
      · have hall' := Lib.hid (fun j (h1 : j < k + 1) (h2 : j + p < s.size) => by
          by_cases e : j = k
          · subst e; exact heq
          · exact hall.out j (by omega) h2 : ∀ j, j < k + 1 → j + p < s.size → bt s j = bt s (j + p))
        go_wp2
        go_region
        go_wp2
        go_roundw
        case rel => exact ⟨k + 1, by omega, by go_num, hall', by (repeat (first | with_reducible exact Below.refl _ _ | assumption | with_reducible refine Qdrew ?_ | with_reducible refine QdrewN ?_ | ((with_reducible refine Qset ?_ ?_); exact (by ((try simp only [World.size_alloc, World.size_setCell, World.size_drew, size_drewN]); (try dsimp only); omega))) | ((with_reducible refine Qalloc ?_ ?_); exact (by ((try simp only [World.size_alloc, World.size_setCell, World.size_drew, size_drewN]); (try dsimp only); omega))) | refine Qtrans (by assumption) (by ((try simp only [World.size_alloc, World.size_setCell, World.size_drew, size_drewN]); (try dsimp only); omega)) ?_))⟩
        case measure => (simp [intOf]) <;> omega
      · have hf := Lib.hid (perB_no hlt heq)
        go_wp2
        go_region
        go_wp2
        go_ret
        exact ⟨by rw [hf.out]; rfl, by (repeat (first | with_reducible exact Below.refl _ _ | assumption | with_reducible refine Qdrew ?_ | with_reducible refine QdrewN ?_ | ((with_reducible refine Qset ?_ ?_); exact (by ((try simp only [World.size_alloc, World.size_setCell, World.size_drew, size_drewN]); (try dsimp only); omega))) | ((with_reducible refine Qalloc ?_ ?_); exact (by ((try simp only [World.size_alloc, World.size_setCell, World.size_drew, size_drewN]); (try dsimp only); omega))) | refine Qtrans (by assumption) (by ((try simp only [World.size_alloc, World.size_setCell, World.size_drew, size_drewN]); (try dsimp only); omega)) ?_))⟩
    · have hf := Lib.hid (perB_all (s := s) (p := p) (fun j hj => hall.out j (by omega) hj))
      have hlt' : ¬ (k : Int) + (p : Int) < (s.size : Int) := by omega
      go_wp2
      go_ret
      exact ⟨by rw [hf.out]; rfl, hbel⟩
set_option maxRecDepth 20000 in
set_option maxHeartbeats 1000000 in
theorem fits_any (s : ByteArray) (p bn bw : Nat) (w : World) (hs : s.size ≤ 400) (hp0 : 1 ≤ p) (hp : p ≤ s.size + 1) (hcn : w.cell? ⟨bn, 0, none⟩ = some (.int .i64 s.size)) (hcw : w.cell? ⟨bw, 0, none⟩ = some (.string s)) :
    Calls Try.prog 84 #[.int .i64 p, .pointer (some ⟨bn, 0, none⟩), .pointer (some ⟨bw, 0, none⟩)] w fun e w' => e = .returned (.bool (perB s p)) ∧ Below w.heap.size w w' := by
  by_cases h1 : p = s.size + 1
  · have hf := Lib.hid (perB_big (s := s) (p := p) (by omega))
    have h1' : (p : Int) = (s.size : Int) + 1 := by omega
    clear h1
    rw [h1']
    go_enter Try.func84, Try.ntmps84
    go_wp2
    go_ret
    exact ⟨by rw [hf.out]; rfl, by (repeat (first | with_reducible exact Below.refl _ _ | assumption | with_reducible refine Qdrew ?_ | with_reducible refine QdrewN ?_ | ((with_reducible refine Qset ?_ ?_); exact (by ((try simp only [World.size_alloc, World.size_setCell, World.size_drew, size_drewN]); (try dsimp only); omega))) | ((with_reducible refine Qalloc ?_ ?_); exact (by ((try simp only [World.size_alloc, World.size_setCell, World.size_drew, size_drewN]); (try dsimp only); omega))) | refine Qtrans (by assumption) (by ((try simp only [World.size_alloc, World.size_setCell, World.size_drew, size_drewN]); (try dsimp only); omega)) ?_))⟩
  · have h1' : ¬ (p : Int) = (s.size : Int) + 1 := by omega
    have h2' : ¬ (p : Int) = (s.size : Int) + 2 := by omega
    have h3' : inB (p : Int) 1 (s.size : Int) = true := inB_true.2 (by omega)
    go_enter Try.func84, Try.ntmps84
    go_wp2_with (first | (go_at_call 65; refine (within_any _ _ _ _).mono ?_; rintro e w1 ⟨rfl, rfl⟩) | (go_at_call 85; refine (isPower_any s p _ hs hp0 (by omega)).mono ?_; rintro e w1 ⟨rfl, hb1⟩; have hz1 := hb1.size))
    go_ret
    exact ⟨ret_bool (by rw [beq_false_of_ne h1', beq_false_of_ne h2']; rfl), by (repeat (first | with_reducible exact Below.refl _ _ | assumption | with_reducible refine Qdrew ?_ | with_reducible refine QdrewN ?_ | ((with_reducible refine Qset ?_ ?_); exact (by ((try simp only [World.size_alloc, World.size_setCell, World.size_drew, size_drewN]); (try dsimp only); omega))) | ((with_reducible refine Qalloc ?_ ?_); exact (by ((try simp only [World.size_alloc, World.size_setCell, World.size_drew, size_drewN]); (try dsimp only); omega))) | refine Qtrans (by assumption) (by ((try simp only [World.size_alloc, World.size_setCell, World.size_drew, size_drewN]); (try dsimp only); omega)) ?_))⟩
def cenP (s : ByteArray) (p : Nat) : Prop := Nat.gcd p (s.size + 2 - p) = 1 ∧ perB s p = true ∧ perB s (s.size + 2 - p) = true
def cenQ (s : ByteArray) : Prop := binB s = true ∧ palB s = true ∧ ∃ p, 1 ≤ p ∧ p ≤ s.size + 1 ∧ cenP s p
open Classical in
noncomputable def cenB (s : ByteArray) : Bool := decide (cenQ s)
theorem cen_no {s : ByteArray} (h : ¬ cenQ s) : cenB s = false := by simp [cenB, h]
theorem cen_yes {s : ByteArray} (h : cenQ s) : cenB s = true := by simp [cenB, h]
set_option maxRecDepth 20000 in
set_option maxHeartbeats 2000000 in
theorem implCen_any (s : ByteArray) (w : World) (hs : s.size ≤ 9223372036854775807) :
    Calls Try.prog 42 #[.string s] w fun e w' => e = .returned (.bool (cenB s)) ∧ Below w.heap.size w w' := by
  skip
  cases hB : binB s
  · have hf := Lib.hid (cen_no (s := s) (fun q => by have := q.1; rw [hB] at this; cases this))
    go_enter Try.func42, Try.ntmps42
    go_wp2_with ((go_at_call 57; refine (implBin_any _ _ hs).mono ?_; rintro e w1 ⟨rfl, hb1⟩; have hz1 := hb1.size; simp only [World.size_alloc] at hz1; obtain ⟨hc1, hf1⟩ := bcell hb1; have hl1 := ltW hb1))
    go_ret
    exact ⟨by rw [hf.out]; rfl, by (repeat (first | with_reducible exact Below.refl _ _ | assumption | with_reducible refine Qdrew ?_ | with_reducible refine QdrewN ?_ | ((with_reducible refine Qset ?_ ?_); exact (by ((try simp only [World.size_alloc, World.size_setCell, World.size_drew, size_drewN]); (try dsimp only); omega))) | ((with_reducible refine Qalloc ?_ ?_); exact (by ((try simp only [World.size_alloc, World.size_setCell, World.size_drew, size_drewN]); (try dsimp only); omega))) | refine Qtrans (by assumption) (by ((try simp only [World.size_alloc, World.size_setCell, World.size_drew, size_drewN]); (try dsimp only); omega)) ?_))⟩
  have h400 : s.size ≤ 400 := by
    have : isWB s = true := ((Bool.and_eq_true _ _).mp hB).1
    exact (isW_of this).1
  cases hP : palB s
  · have hf := Lib.hid (cen_no (s := s) (fun q => by have := q.2.1; rw [hP] at this; cases this))
    go_enter Try.func42, Try.ntmps42
    go_wp2_with (first | (go_at_call 57; refine (implBin_any _ _ hs).mono ?_; rintro e w1 ⟨rfl, hb1⟩; have hz1 := hb1.size; simp only [World.size_alloc] at hz1; obtain ⟨hc1, hf1⟩ := bcell hb1; have hl1 := ltW hb1) | (go_at_call 83; refine (isTurned_any _ _ h400).mono ?_; rintro e w2 ⟨rfl, hb2⟩; have hz2 := hb2.size; obtain ⟨hc2, hf2⟩ := bcell hb2; have hl2 := ltW hb2))
    go_ret
    exact ⟨by rw [hf.out]; rfl, by (repeat (first | with_reducible exact Below.refl _ _ | assumption | with_reducible refine Qdrew ?_ | with_reducible refine QdrewN ?_ | ((with_reducible refine Qset ?_ ?_); exact (by ((try simp only [World.size_alloc, World.size_setCell, World.size_drew, size_drewN]); (try dsimp only); omega))) | ((with_reducible refine Qalloc ?_ ?_); exact (by ((try simp only [World.size_alloc, World.size_setCell, World.size_drew, size_drewN]); (try dsimp only); omega))) | refine Qtrans (by assumption) (by ((try simp only [World.size_alloc, World.size_setCell, World.size_drew, size_drewN]); (try dsimp only); omega)) ?_))⟩
  go_enter Try.func42, Try.ntmps42
  go_wp2_with (first | (go_at_call 57; refine (implBin_any _ _ hs).mono ?_; rintro e w1 ⟨rfl, hb1⟩; have hz1 := hb1.size; simp only [World.size_alloc] at hz1; obtain ⟨hc1, hf1⟩ := bcell hb1; have hl1 := ltW hb1) | (go_at_call 83; refine (isTurned_any _ _ h400).mono ?_; rintro e w2 ⟨rfl, hb2⟩; have hz2 := hb2.size; obtain ⟨hc2, hf2⟩ := bcell hb2; have hl2 := ltW hb2))
  have hcw1 : w1.cell? ⟨w.heap.size, 0, none⟩ = some (.string s) := (hc1 _ _ (by simp)).trans (World.cell?_alloc_at _ _ _ _ rfl)
  have hcw2 : w2.cell? ⟨w.heap.size, 0, none⟩ = some (.string s) := (hc2 _ _ (by omega)).trans hcw1
  have hcw0 : (w2.alloc (.cells #[.int .i64 s.size] 3)).cell? ⟨w.heap.size, 0, none⟩ = some (.string s) := (calloc (by omega)).trans hcw2
  have hcn0 : (w2.alloc (.cells #[.int .i64 s.size] 3)).cell? ⟨w2.heap.size, 0, none⟩ = some (.int .i64 s.size) := by simp [go_sem]
  go_loopw [5] (fun i wr => ∃ p : Nat, 1 ≤ p ∧ p ≤ s.size + 2 ∧ i = .int .i64 p ∧ Hid (∀ j, 1 ≤ j → j < p → ¬ cenP s j) ∧ Below w.heap.size w wr ∧ wr.cell? ⟨w.heap.size, 0, none⟩ = some (.string s) ∧ wr.cell? ⟨w2.heap.size, 0, none⟩ = some (.int .i64 s.size) ∧ w.heap.size < wr.heap.size ∧ w2.heap.size < wr.heap.size) (fun i _ => s.size + 2 - (intOf i).toNat)
  case atStart => exact ⟨1, by omega, by omega, rfl, Lib.hid (fun _ h1 h2 => absurd h2 (by omega)), by (repeat (first | with_reducible exact Below.refl _ _ | assumption | with_reducible refine Qdrew ?_ | with_reducible refine QdrewN ?_ | ((with_reducible refine Qset ?_ ?_); exact (by ((try simp only [World.size_alloc, World.size_setCell, World.size_drew, size_drewN]); (try dsimp only); omega))) | ((with_reducible refine Qalloc ?_ ?_); exact (by ((try simp only [World.size_alloc, World.size_setCell, World.size_drew, size_drewN]); (try dsimp only); omega))) | refine Qtrans (by assumption) (by ((try simp only [World.size_alloc, World.size_setCell, World.size_drew, size_drewN]); (try dsimp only); omega)) ?_)), hcw0, hcn0, by ((try simp only [World.size_alloc, World.size_setCell, World.size_drew, size_drewN]); (try dsimp only); omega), by ((try simp only [World.size_alloc, World.size_setCell, World.size_drew, size_drewN]); (try dsimp only); omega)⟩
  case round =>
    obtain ⟨p, hp1, hp2, rfl, hall, hbel, hcw, hcn, hwl, hnl⟩ := hrel
    have hzb := hbel.size
    by_cases hlt : p ≤ s.size + 1
    · have hlt' : (p : Int) ≤ (s.size : Int) + 1 := by omega
      obtain ⟨q, hq⟩ : ∃ q, q + p = s.size + 2 := ⟨s.size + 2 - p, by omega⟩
      have hqi : (s.size : Int) + 2 - (p : Int) = (q : Int) := by omega
      have hqd : s.size + 2 - p = q := by omega
      have hcp : Hid (cenP s p ↔ Nat.gcd p q = 1 ∧ perB s p = true ∧ perB s q = true) := by
        show _ ↔ _; unfold cenP; rw [hqd]
      have hnext := Lib.hid (fun (hn : ¬ cenP s p) => (fun j (h1 : 1 ≤ j) (h2 : j < p + 1) => by
        by_cases e : j = p
        · subst e; exact hn
        · exact hall.out j h1 (by omega) : ∀ j, 1 ≤ j → j < p + 1 → ¬ cenP s j))
      have hyes := Lib.hid (fun (hy : cenP s p) => cen_yes (s := s) ⟨hB, hP, p, hp1, hlt, hy⟩)
      have hpq : p ≤ 1000 ∧ q ≤ 1000 ∧ 1 ≤ q ∧ q ≤ s.size + 1 := by omega
      obtain ⟨hp1000, hq1000, hq1, hqn⟩ := hpq
      clear hqd hq
      by_cases hg : Nat.gcd p q = 1
      · have hg' : ((Nat.gcd p q : Nat) : Int) = 1 := by omega
        cases hpp : perB s p
        · have hall' := Lib.hid (hnext.out (fun c => by have := (hcp.out.1 c).2.1; rw [hpp] at this; cases this))
          clear hcp hnext hyes hg
          go_wp2_with (first | (go_at_call 86; refine (divisor_any _ _ _ (by assumption) (by assumption)).mono ?_; rintro e w3 ⟨rfl, hb3⟩; have hz3 := hb3.size; have hcn3 := (hb3.cell hnl).trans hcn; have hcw3 := (hb3.cell hwl).trans hcw; have hnl3 := Nat.lt_of_lt_of_le hnl hz3; have hwl3 := Nat.lt_of_lt_of_le hwl hz3) | first | (go_at_call 84; refine (fits_any s _ _ _ _ h400 (by assumption) (by assumption) hcn3 hcw3).mono ?_; rintro e w4 ⟨rfl, hb4⟩; have hz4 := hb4.size; have hcn4 := (hb4.cell hnl3).trans hcn3; have hcw4 := (hb4.cell hwl3).trans hcw3) | (go_at_call 84; refine (fits_any s _ _ _ _ h400 (by assumption) (by assumption) hcn4 hcw4).mono ?_; rintro e w5 ⟨rfl, hb5⟩; have hz5 := hb5.size; have hcn5 := (hb5.cell (Nat.lt_of_lt_of_le hnl3 hz4)).trans hcn4; have hcw5 := (hb5.cell (Nat.lt_of_lt_of_le hwl3 hz4)).trans hcw4))
          go_roundw
          case rel => exact ⟨p + 1, by omega, by omega, by go_num, hall', by (repeat (first | with_reducible exact Below.refl _ _ | assumption | with_reducible refine Qdrew ?_ | with_reducible refine QdrewN ?_ | ((with_reducible refine Qset ?_ ?_); exact (by ((try simp only [World.size_alloc, World.size_setCell, World.size_drew, size_drewN]); (try dsimp only); omega))) | ((with_reducible refine Qalloc ?_ ?_); exact (by ((try simp only [World.size_alloc, World.size_setCell, World.size_drew, size_drewN]); (try dsimp only); omega))) | refine Qtrans (by assumption) (by ((try simp only [World.size_alloc, World.size_setCell, World.size_drew, size_drewN]); (try dsimp only); omega)) ?_)), hcw4, hcn4, by omega, by omega⟩
          case measure => (simp [intOf]) <;> omega
        · cases hpq : perB s q
          · have hall' := Lib.hid (hnext.out (fun c => by have := (hcp.out.1 c).2.2; rw [hpq] at this; cases this))
            clear hcp hnext hyes hg
            go_wp2_with (first | (go_at_call 86; refine (divisor_any _ _ _ (by assumption) (by assumption)).mono ?_; rintro e w3 ⟨rfl, hb3⟩; have hz3 := hb3.size; have hcn3 := (hb3.cell hnl).trans hcn; have hcw3 := (hb3.cell hwl).trans hcw; have hnl3 := Nat.lt_of_lt_of_le hnl hz3; have hwl3 := Nat.lt_of_lt_of_le hwl hz3) | first | (go_at_call 84; refine (fits_any s _ _ _ _ h400 (by assumption) (by assumption) hcn3 hcw3).mono ?_; rintro e w4 ⟨rfl, hb4⟩; have hz4 := hb4.size; have hcn4 := (hb4.cell hnl3).trans hcn3; have hcw4 := (hb4.cell hwl3).trans hcw3) | (go_at_call 84; refine (fits_any s _ _ _ _ h400 (by assumption) (by assumption) hcn4 hcw4).mono ?_; rintro e w5 ⟨rfl, hb5⟩; have hz5 := hb5.size; have hcn5 := (hb5.cell (Nat.lt_of_lt_of_le hnl3 hz4)).trans hcn4; have hcw5 := (hb5.cell (Nat.lt_of_lt_of_le hwl3 hz4)).trans hcw4))
            go_roundw
            case rel => exact ⟨p + 1, by omega, by omega, by go_num, hall', by (repeat (first | with_reducible exact Below.refl _ _ | assumption | with_reducible refine Qdrew ?_ | with_reducible refine QdrewN ?_ | ((with_reducible refine Qset ?_ ?_); exact (by ((try simp only [World.size_alloc, World.size_setCell, World.size_drew, size_drewN]); (try dsimp only); omega))) | ((with_reducible refine Qalloc ?_ ?_); exact (by ((try simp only [World.size_alloc, World.size_setCell, World.size_drew, size_drewN]); (try dsimp only); omega))) | refine Qtrans (by assumption) (by ((try simp only [World.size_alloc, World.size_setCell, World.size_drew, size_drewN]); (try dsimp only); omega)) ?_)), hcw5, hcn5, by omega, by omega⟩
            case measure => (simp [intOf]) <;> omega
          · have hf := Lib.hid (hyes.out (hcp.out.2 ⟨hg, hpp, hpq⟩))
            clear hcp hnext hyes hg
            go_wp2_with (first | (go_at_call 86; refine (divisor_any _ _ _ (by assumption) (by assumption)).mono ?_; rintro e w3 ⟨rfl, hb3⟩; have hz3 := hb3.size; have hcn3 := (hb3.cell hnl).trans hcn; have hcw3 := (hb3.cell hwl).trans hcw; have hnl3 := Nat.lt_of_lt_of_le hnl hz3; have hwl3 := Nat.lt_of_lt_of_le hwl hz3) | first | (go_at_call 84; refine (fits_any s _ _ _ _ h400 (by assumption) (by assumption) hcn3 hcw3).mono ?_; rintro e w4 ⟨rfl, hb4⟩; have hz4 := hb4.size; have hcn4 := (hb4.cell hnl3).trans hcn3; have hcw4 := (hb4.cell hwl3).trans hcw3) | (go_at_call 84; refine (fits_any s _ _ _ _ h400 (by assumption) (by assumption) hcn4 hcw4).mono ?_; rintro e w5 ⟨rfl, hb5⟩; have hz5 := hb5.size; have hcn5 := (hb5.cell (Nat.lt_of_lt_of_le hnl3 hz4)).trans hcn4; have hcw5 := (hb5.cell (Nat.lt_of_lt_of_le hwl3 hz4)).trans hcw4))
            go_ret
            exact ⟨by rw [hf.out]; rfl, by (repeat (first | with_reducible exact Below.refl _ _ | assumption | with_reducible refine Qdrew ?_ | with_reducible refine QdrewN ?_ | ((with_reducible refine Qset ?_ ?_); exact (by ((try simp only [World.size_alloc, World.size_setCell, World.size_drew, size_drewN]); (try dsimp only); omega))) | ((with_reducible refine Qalloc ?_ ?_); exact (by ((try simp only [World.size_alloc, World.size_setCell, World.size_drew, size_drewN]); (try dsimp only); omega))) | refine Qtrans (by assumption) (by ((try simp only [World.size_alloc, World.size_setCell, World.size_drew, size_drewN]); (try dsimp only); omega)) ?_))⟩
      · have hg' : ¬ ((Nat.gcd p q : Nat) : Int) = 1 := by omega
        have hall' := Lib.hid (hnext.out (fun c => hg (hcp.out.1 c).1))
        clear hcp hnext hyes hg
        go_wp2_with (first | (go_at_call 86; refine (divisor_any _ _ _ (by assumption) (by assumption)).mono ?_; rintro e w3 ⟨rfl, hb3⟩; have hz3 := hb3.size; have hcn3 := (hb3.cell hnl).trans hcn; have hcw3 := (hb3.cell hwl).trans hcw; have hnl3 := Nat.lt_of_lt_of_le hnl hz3; have hwl3 := Nat.lt_of_lt_of_le hwl hz3) | first | (go_at_call 84; refine (fits_any s _ _ _ _ h400 (by assumption) (by assumption) hcn3 hcw3).mono ?_; rintro e w4 ⟨rfl, hb4⟩; have hz4 := hb4.size; have hcn4 := (hb4.cell hnl3).trans hcn3; have hcw4 := (hb4.cell hwl3).trans hcw3) | (go_at_call 84; refine (fits_any s _ _ _ _ h400 (by assumption) (by assumption) hcn4 hcw4).mono ?_; rintro e w5 ⟨rfl, hb5⟩; have hz5 := hb5.size; have hcn5 := (hb5.cell (Nat.lt_of_lt_of_le hnl3 hz4)).trans hcn4; have hcw5 := (hb5.cell (Nat.lt_of_lt_of_le hwl3 hz4)).trans hcw4))
        go_roundw
        case rel => exact ⟨p + 1, by omega, by omega, by go_num, hall', by (repeat (first | with_reducible exact Below.refl _ _ | assumption | with_reducible refine Qdrew ?_ | with_reducible refine QdrewN ?_ | ((with_reducible refine Qset ?_ ?_); exact (by ((try simp only [World.size_alloc, World.size_setCell, World.size_drew, size_drewN]); (try dsimp only); omega))) | ((with_reducible refine Qalloc ?_ ?_); exact (by ((try simp only [World.size_alloc, World.size_setCell, World.size_drew, size_drewN]); (try dsimp only); omega))) | refine Qtrans (by assumption) (by ((try simp only [World.size_alloc, World.size_setCell, World.size_drew, size_drewN]); (try dsimp only); omega)) ?_)), hcw3, hcn3, by omega, by omega⟩
        case measure => (simp [intOf]) <;> omega
    · have hf := Lib.hid (cen_no (s := s) (fun q => by obtain ⟨_, _, j, h1, h2, h3⟩ := q; exact hall.out j h1 (by omega) h3))
      have hlt' : ¬ (p : Int) ≤ (s.size : Int) + 1 := by omega
      go_wp2
      go_ret
      exact ⟨by rw [hf.out]; rfl, by (repeat (first | with_reducible exact Below.refl _ _ | assumption | with_reducible refine Qdrew ?_ | with_reducible refine QdrewN ?_ | ((with_reducible refine Qset ?_ ?_); exact (by ((try simp only [World.size_alloc, World.size_setCell, World.size_drew, size_drewN]); (try dsimp only); omega))) | ((with_reducible refine Qalloc ?_ ?_); exact (by ((try simp only [World.size_alloc, World.size_setCell, World.size_drew, size_drewN]); (try dsimp only); omega))) | refine Qtrans (by assumption) (by ((try simp only [World.size_alloc, World.size_setCell, World.size_drew, size_drewN]); (try dsimp only); omega)) ?_))⟩
end Go.Proofs.Ytilbhingfnjppab
