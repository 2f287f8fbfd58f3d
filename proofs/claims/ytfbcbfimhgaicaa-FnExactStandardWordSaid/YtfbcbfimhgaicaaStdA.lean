/- Standard words: the walks of one step, and the law. -/
import Derived.Test.YtfbcbfimhgaicaaWordsA
import Derived.Test.YtfbcbfimhgaicaaAutosShelf
set_option linter.unusedSimpArgs false
set_option linter.unusedVariables false
namespace Go.Proofs.Ytfbcbfimhgaicaa
open Go.RowKit
/-- A word, so many times. -/
def rpt (v : ByteArray) : Nat → ByteArray
  | 0 => ⟨#[]⟩
  | k + 1 => rpt v k ++ v
theorem rpt_size (v : ByteArray) : ∀ k, (rpt v k).size = k * v.size
  | 0 => by rw [Nat.zero_mul]; rfl
  | k + 1 => by rw [rpt, ByteArray.size_append, rpt_size v k, Nat.succ_mul]
theorem rep_snoc (l : List UInt8) : ∀ k, Lib.repeatL l (k + 1) = Lib.repeatL l k ++ l
  | 0 => by simp [Lib.repeatL]
  | k + 1 => by
    have h := rep_snoc l k
    show l ++ Lib.repeatL l (k + 1) = (l ++ Lib.repeatL l k) ++ l
    rw [h, List.append_assoc]
theorem rpt_rep (v : ByteArray) : ∀ k, (⟨(Lib.repeatL v.data.toList k).toArray⟩ : ByteArray) = rpt v k
  | 0 => rfl
  | k + 1 => by
    rw [rpt, ← rpt_rep v k, rep_snoc]
    apply ByteArray.ext; simp
def nsP (u v : ByteArray) (k : Int) : Prop := (0 ≤ k ∧ k ≤ 100) ∧ isWP u ∧ isWP v ∧ isWP (rpt v k.toNat ++ u)
open Classical in
noncomputable def nsS (u v : ByteArray) (k : Int) : ByteArray := if nsP u v k then rpt v k.toNat ++ u else ⟨#[]⟩
open Classical in
noncomputable def nsB (u v : ByteArray) (k : Int) : Bool := decide (nsP u v k)
noncomputable def nsV (u v : ByteArray) (k : Int) : Value := .tuple #[.string (nsS u v k), .bool (nsB u v k)]
theorem ns_yes {u v : ByteArray} {k : Int} (h : nsP u v k) : nsV u v k = .tuple #[.string (rpt v k.toNat ++ u), .bool true] := by simp [nsV, nsS, nsB, h]
theorem ns_no {u v : ByteArray} {k : Int} (h : ¬ nsP u v k) : nsV u v k = .tuple #[.string ⟨#[]⟩, .bool false] := by simp [nsV, nsS, nsB, h]
/-- What the reference makes: it stops where the word has grown too long. -/
def stopAt (v : ByteArray) (k : Nat) : Nat → Prop := fun m => m ≤ k ∧ (m = k ∨ 400 < (rpt v m).size) ∧ ∀ j, j < m → (rpt v j).size ≤ 400
set_option maxHeartbeats 1000000 in
theorem l12Repeat_any (u v : ByteArray) (k : Nat) (w : World) (hk : k ≤ 100) (hv : v.size ≤ 400) (hu : u.size ≤ 400) :
    Calls Try.prog 71 #[.string u, .string v, .int .i64 k] w fun e w' => ∃ m, e = .returned (.string (rpt v m ++ u)) ∧ m ≤ k ∧ (m = k ∨ 400 < (rpt v m).size) ∧ w = w' := by
  go_enter Try.func71, Try.ntmps71
  go_wp2
  go_loopw [7, 8] (fun o i wr => ∃ m : Nat, m ≤ k ∧ i = .int .i64 m ∧ o = .string (rpt v m) ∧ w = wr) (fun _ i _ => k - (intOf i).toNat)
  case atStart => exact ⟨0, by omega, rfl, rfl, by first | rfl | trivial⟩
  case round =>
    obtain ⟨m, hm, rfl, rfl, rfl⟩ := hrel
    have hsz := rpt_size v m
    have hb : m * v.size ≤ 100 * 400 := Nat.mul_le_mul (by omega) hv
    have hm0 : (0 : Int) ≤ (m : Int) := by omega
    by_cases hgo : m < k ∧ (rpt v m).size ≤ 400
    · obtain ⟨h1, h2⟩ := hgo
      have h1' : (m : Int) < (k : Int) := by omega
      have h2' : ((rpt v m).size : Int) ≤ 400 := by omega
      have hrun := fun w => run_string_add_sum (P := Try.prog) w (rpt v m) v (by omega)
      have hnx : Hid (rpt v (m + 1) = rpt v m ++ v) := rfl
      go_wp2
      go_roundw
      case rel => exact ⟨m + 1, by omega, by go_num, by rw [hnx.out], by first | rfl | trivial⟩
      case measure => (simp [intOf]) <;> omega
    · have hrun := fun w => run_string_add_sum (P := Try.prog) w (rpt v m) u (by omega)
      have hor : Hid (m = k ∨ 400 < (rpt v m).size) := by show _ ∨ _; omega
      by_cases h1 : m < k
      · have h1' : (m : Int) < (k : Int) := by omega
        have h2' : ¬ ((rpt v m).size : Int) ≤ 400 := by omega
        go_wp2
        go_ret
        exact ⟨m, rfl, hm, hor.out, rfl⟩
      · have h1' : ¬ (m : Int) < (k : Int) := by omega
        go_wp2
        go_ret
        exact ⟨m, rfl, hm, hor.out, rfl⟩
theorem rpt_mono (v : ByteArray) {m k : Nat} (h : m ≤ k) : (rpt v m).size ≤ (rpt v k).size := by rw [rpt_size, rpt_size]; exact Nat.mul_le_mul_right _ h
set_option maxHeartbeats 1000000 in
theorem specNext_any (u v : ByteArray) (k : Int) (w : World) (hu : u.size ≤ 9223372036854775807) (hv : v.size ≤ 9223372036854775807) :
    Calls Try.prog 29 #[.string u, .string v, .int .i64 k] w fun e w' => e = .returned (nsV u v k) ∧ Below w.heap.size w w' := by
  cases hin : inB k 0 100
  · have hf := Lib.hid (ns_no (u := u) (v := v) (k := k) (fun q => inB_false.1 hin q.1))
    go_enter Try.func29, Try.ntmps29
    go_wp2_with ((go_at_call 54; refine (l01In_any _ _ _ _).mono ?_; rintro e w1 ⟨rfl, rfl⟩))
    (refine bodyPost_ret (v := nsV u v k) (by rw [hf.out]; simp [results, Try.results29, go_sem, *]) rfl ⟨rfl, by (repeat (first | with_reducible exact Below.refl _ _ | assumption | with_reducible refine Qdrew ?_ | with_reducible refine QdrewN ?_ | ((with_reducible refine Qset ?_ ?_); exact (by ((try simp only [World.size_alloc, World.size_setCell, World.size_drew, size_drewN]); (try dsimp only); omega))) | ((with_reducible refine Qalloc ?_ ?_); exact (by ((try simp only [World.size_alloc, World.size_setCell, World.size_drew, size_drewN]); (try dsimp only); omega))) | refine Qtrans (by assumption) (by ((try simp only [World.size_alloc, World.size_setCell, World.size_drew, size_drewN]); (try dsimp only); omega)) ?_))⟩)
  cases huw : isWB u
  · have hf := Lib.hid (ns_no (u := u) (v := v) (k := k) (fun q => isW_not huw q.2.1))
    go_enter Try.func29, Try.ntmps29
    go_wp2_with (first | (go_at_call 54; refine (l01In_any _ _ _ _).mono ?_; rintro e w1 ⟨rfl, rfl⟩) | (go_at_call 55; refine (specWordOk_any _ _ (by assumption)).mono ?_; rintro e w1 ⟨rfl, rfl⟩))
    (refine bodyPost_ret (v := nsV u v k) (by rw [hf.out]; simp [results, Try.results29, go_sem, *]) rfl ⟨rfl, by (repeat (first | with_reducible exact Below.refl _ _ | assumption | with_reducible refine Qdrew ?_ | with_reducible refine QdrewN ?_ | ((with_reducible refine Qset ?_ ?_); exact (by ((try simp only [World.size_alloc, World.size_setCell, World.size_drew, size_drewN]); (try dsimp only); omega))) | ((with_reducible refine Qalloc ?_ ?_); exact (by ((try simp only [World.size_alloc, World.size_setCell, World.size_drew, size_drewN]); (try dsimp only); omega))) | refine Qtrans (by assumption) (by ((try simp only [World.size_alloc, World.size_setCell, World.size_drew, size_drewN]); (try dsimp only); omega)) ?_))⟩)
  cases hvw : isWB v
  · have hf := Lib.hid (ns_no (u := u) (v := v) (k := k) (fun q => isW_not hvw q.2.2.1))
    go_enter Try.func29, Try.ntmps29
    go_wp2_with (first | (go_at_call 54; refine (l01In_any _ _ _ _).mono ?_; rintro e w1 ⟨rfl, rfl⟩) | (go_at_call 55; refine (specWordOk_any _ _ (by assumption)).mono ?_; rintro e w1 ⟨rfl, rfl⟩))
    (refine bodyPost_ret (v := nsV u v k) (by rw [hf.out]; simp [results, Try.results29, go_sem, *]) rfl ⟨rfl, by (repeat (first | with_reducible exact Below.refl _ _ | assumption | with_reducible refine Qdrew ?_ | with_reducible refine QdrewN ?_ | ((with_reducible refine Qset ?_ ?_); exact (by ((try simp only [World.size_alloc, World.size_setCell, World.size_drew, size_drewN]); (try dsimp only); omega))) | ((with_reducible refine Qalloc ?_ ?_); exact (by ((try simp only [World.size_alloc, World.size_setCell, World.size_drew, size_drewN]); (try dsimp only); omega))) | refine Qtrans (by assumption) (by ((try simp only [World.size_alloc, World.size_setCell, World.size_drew, size_drewN]); (try dsimp only); omega)) ?_))⟩)
  have hi := inB_true.1 hin
  obtain ⟨n, rfl⟩ : ∃ n : Nat, k = (n : Int) := ⟨k.toNat, by omega⟩
  have hu4 := isW_of huw
  have hv4 := isW_of hvw
  have hu40 := hu4.1
  have hv40 := hv4.1
  have hn100 : n ≤ 100 := by omega
  have hjoin : ∀ w, Calls Try.prog 71 #[.string u, .string v, .int .i64 n] w fun e w' => ∃ q, e = .returned (.string q) ∧ q.size ≤ 9223372036854775807 ∧ (isWB q = true → nsV u v (n : Int) = .tuple #[.string q, .bool true]) ∧ (isWB q = false → nsV u v (n : Int) = .tuple #[.string ⟨#[]⟩, .bool false]) ∧ w = w' := by
    intro w
    refine (l12Repeat_any u v n w hn100 hv40 hu40).mono ?_
    rintro e w' ⟨m, he, hm, hor, hw⟩
    have s1 := rpt_size v m
    have hbb : m * v.size ≤ 100 * 400 := Nat.mul_le_mul (by omega) hv40
    refine ⟨_, he, by rw [ByteArray.size_append]; omega, fun hq => ?_, fun hq => ?_, hw⟩
    · have h4 := (isW_of hq).1
      rw [ByteArray.size_append] at h4
      have : m = n := by omega
      subst this
      have := ns_yes (u := u) (v := v) (k := (m : Int)) ⟨hi, hu4, hv4, by simpa using isW_of hq⟩
      simpa using this
    · refine ns_no (fun q => ?_)
      have q4 := q.2.2.2
      simp only [Int.toNat_natCast] at q4
      rcases hor with rfl | hor
      · exact isW_not hq q4
      · have := rpt_mono v hm
        have q5 := q4.1
        rw [ByteArray.size_append] at q5
        omega
  have hn0 : (0 : Int) ≤ (n : Int) := by omega
  go_enter Try.func29, Try.ntmps29
  go_wp2_with (first | (go_at_call 54; refine (l01In_any _ _ _ _).mono ?_; rintro e w1 ⟨rfl, rfl⟩) | (go_at_call 55; refine (specWordOk_any _ _ (by assumption)).mono ?_; rintro e w1 ⟨rfl, rfl⟩) | (go_at_call 71; refine (hjoin _).mono ?_; rintro e w1 ⟨q, rfl, hqs, hq1, hq2, rfl⟩; have hq1' := Lib.hid hq1; have hq2' := Lib.hid hq2; clear hq1 hq2))
  all_goals first
    | (refine bodyPost_ret (v := nsV u v (n : Int)) (by rw [hq1'.out (by simpa using (by assumption : (!isWB _) = false))]; simp [results, Try.results29, go_sem, *]) rfl ⟨rfl, by (repeat (first | with_reducible exact Below.refl _ _ | assumption | with_reducible refine Qdrew ?_ | with_reducible refine QdrewN ?_ | ((with_reducible refine Qset ?_ ?_); exact (by ((try simp only [World.size_alloc, World.size_setCell, World.size_drew, size_drewN]); (try dsimp only); omega))) | ((with_reducible refine Qalloc ?_ ?_); exact (by ((try simp only [World.size_alloc, World.size_setCell, World.size_drew, size_drewN]); (try dsimp only); omega))) | refine Qtrans (by assumption) (by ((try simp only [World.size_alloc, World.size_setCell, World.size_drew, size_drewN]); (try dsimp only); omega)) ?_))⟩)
    | (refine bodyPost_ret (v := nsV u v (n : Int)) (by rw [hq2'.out (by simpa using (by assumption : (!isWB _) = true))]; simp [results, Try.results29, go_sem, *]) rfl ⟨rfl, by (repeat (first | with_reducible exact Below.refl _ _ | assumption | with_reducible refine Qdrew ?_ | with_reducible refine QdrewN ?_ | ((with_reducible refine Qset ?_ ?_); exact (by ((try simp only [World.size_alloc, World.size_setCell, World.size_drew, size_drewN]); (try dsimp only); omega))) | ((with_reducible refine Qalloc ?_ ?_); exact (by ((try simp only [World.size_alloc, World.size_setCell, World.size_drew, size_drewN]); (try dsimp only); omega))) | refine Qtrans (by assumption) (by ((try simp only [World.size_alloc, World.size_setCell, World.size_drew, size_drewN]); (try dsimp only); omega)) ?_))⟩)
set_option maxHeartbeats 1000000 in
theorem implNext_any (u v : ByteArray) (k : Int) (w : World) (hu : u.size ≤ 9223372036854775807) (hv : v.size ≤ 9223372036854775807) :
    Calls Try.prog 30 #[.string u, .string v, .int .i64 k] w fun e w' => e = .returned (nsV u v k) ∧ Below w.heap.size w w' := by
  cases hin : inB k 0 100
  · have hf := Lib.hid (ns_no (u := u) (v := v) (k := k) (fun q => inB_false.1 hin q.1))
    go_enter Try.func30, Try.ntmps30
    go_wp2_with ((go_at_call 57; refine (within_any _ _ _ _).mono ?_; rintro e w1 ⟨rfl, rfl⟩))
    (refine bodyPost_ret (v := nsV u v k) (by rw [hf.out]; simp [results, Try.results30, go_sem, *]) rfl ⟨rfl, by (repeat (first | with_reducible exact Below.refl _ _ | assumption | with_reducible refine Qdrew ?_ | with_reducible refine QdrewN ?_ | ((with_reducible refine Qset ?_ ?_); exact (by ((try simp only [World.size_alloc, World.size_setCell, World.size_drew, size_drewN]); (try dsimp only); omega))) | ((with_reducible refine Qalloc ?_ ?_); exact (by ((try simp only [World.size_alloc, World.size_setCell, World.size_drew, size_drewN]); (try dsimp only); omega))) | refine Qtrans (by assumption) (by ((try simp only [World.size_alloc, World.size_setCell, World.size_drew, size_drewN]); (try dsimp only); omega)) ?_))⟩)
  cases huw : isWB u
  · have hf := Lib.hid (ns_no (u := u) (v := v) (k := k) (fun q => isW_not huw q.2.1))
    go_enter Try.func30, Try.ntmps30
    go_wp2_with (first | (go_at_call 57; refine (within_any _ _ _ _).mono ?_; rintro e w1 ⟨rfl, rfl⟩) | (go_at_call 58; refine (isWord_any _ _ (by assumption)).mono ?_; rintro e w1 ⟨rfl, rfl⟩))
    (refine bodyPost_ret (v := nsV u v k) (by rw [hf.out]; simp [results, Try.results30, go_sem, *]) rfl ⟨rfl, by (repeat (first | with_reducible exact Below.refl _ _ | assumption | with_reducible refine Qdrew ?_ | with_reducible refine QdrewN ?_ | ((with_reducible refine Qset ?_ ?_); exact (by ((try simp only [World.size_alloc, World.size_setCell, World.size_drew, size_drewN]); (try dsimp only); omega))) | ((with_reducible refine Qalloc ?_ ?_); exact (by ((try simp only [World.size_alloc, World.size_setCell, World.size_drew, size_drewN]); (try dsimp only); omega))) | refine Qtrans (by assumption) (by ((try simp only [World.size_alloc, World.size_setCell, World.size_drew, size_drewN]); (try dsimp only); omega)) ?_))⟩)
  cases hvw : isWB v
  · have hf := Lib.hid (ns_no (u := u) (v := v) (k := k) (fun q => isW_not hvw q.2.2.1))
    go_enter Try.func30, Try.ntmps30
    go_wp2_with (first | (go_at_call 57; refine (within_any _ _ _ _).mono ?_; rintro e w1 ⟨rfl, rfl⟩) | (go_at_call 58; refine (isWord_any _ _ (by assumption)).mono ?_; rintro e w1 ⟨rfl, rfl⟩))
    (refine bodyPost_ret (v := nsV u v k) (by rw [hf.out]; simp [results, Try.results30, go_sem, *]) rfl ⟨rfl, by (repeat (first | with_reducible exact Below.refl _ _ | assumption | with_reducible refine Qdrew ?_ | with_reducible refine QdrewN ?_ | ((with_reducible refine Qset ?_ ?_); exact (by ((try simp only [World.size_alloc, World.size_setCell, World.size_drew, size_drewN]); (try dsimp only); omega))) | ((with_reducible refine Qalloc ?_ ?_); exact (by ((try simp only [World.size_alloc, World.size_setCell, World.size_drew, size_drewN]); (try dsimp only); omega))) | refine Qtrans (by assumption) (by ((try simp only [World.size_alloc, World.size_setCell, World.size_drew, size_drewN]); (try dsimp only); omega)) ?_))⟩)
  have hi := inB_true.1 hin
  obtain ⟨n, rfl⟩ : ∃ n : Nat, k = (n : Int) := ⟨k.toNat, by omega⟩
  have hu4 := isW_of huw
  have hv4 := isW_of hvw
  have hu40 := hu4.1
  have hv40 := hv4.1
  have hn100 : n ≤ 100 := by omega
  have hq1' : Hid (isWB (rpt v n ++ u) = true → nsV u v (n : Int) = .tuple #[.string (rpt v n ++ u), .bool true]) := fun hq => by
    have := ns_yes (u := u) (v := v) (k := (n : Int)) ⟨hi, hu4, hv4, by simpa using isW_of hq⟩
    simpa using this
  have hq2' : Hid (isWB (rpt v n ++ u) = false → nsV u v (n : Int) = .tuple #[.string ⟨#[]⟩, .bool false]) := fun hq => by
    refine ns_no (fun q => ?_)
    have q4 := q.2.2.2
    simp only [Int.toNat_natCast] at q4
    exact isW_not hq q4
  have s1 := rpt_size v n
  have hbb : n * v.size ≤ 100 * 400 := Nat.mul_le_mul (by omega) hv40
  have hcr : ∀ w, Calls Try.prog 72 #[.string v, .int .i64 n] w fun e w' => e = .returned (.string (rpt v n)) ∧ Below w.heap.size w w' := fun w =>
    (Try.strings_Repeat v n w (by omega) (by rw [Nat.mul_comm]; omega)).mono fun e w' q => ⟨q.1.trans (by rw [rpt_rep]), q.2⟩
  have hrun := fun w => run_string_add_sum (P := Try.prog) w (rpt v n) u (by omega)
  have hqs : (rpt v n ++ u).size ≤ 9223372036854775807 := by rw [ByteArray.size_append]; omega
  have hn0 : (0 : Int) ≤ (n : Int) := by omega
  obtain ⟨q, hq⟩ : ∃ q, rpt v n ++ u = q := ⟨_, rfl⟩
  rw [hq] at hq1' hq2' hrun hqs
  clear hu4 hv4 hi hq s1
  go_enter Try.func30, Try.ntmps30
  go_wp2_with (first | (go_at_call 57; refine (within_any _ _ _ _).mono ?_; rintro e w1 ⟨rfl, rfl⟩) | (go_at_call 58; refine (isWord_any _ _ (by assumption)).mono ?_; rintro e w1 ⟨rfl, rfl⟩) | (go_at_call 72; refine (hcr _).mono ?_; rintro e w1 ⟨rfl, hb1⟩))
  all_goals first
    | (refine bodyPost_ret (v := nsV u v (n : Int)) (by rw [hq1'.out (by simpa using (by assumption : (!isWB _) = false))]; simp [results, Try.results30, go_sem, *]) rfl ⟨rfl, by (repeat (first | with_reducible exact Below.refl _ _ | assumption | with_reducible refine Qdrew ?_ | with_reducible refine QdrewN ?_ | ((with_reducible refine Qset ?_ ?_); exact (by ((try simp only [World.size_alloc, World.size_setCell, World.size_drew, size_drewN]); (try dsimp only); omega))) | ((with_reducible refine Qalloc ?_ ?_); exact (by ((try simp only [World.size_alloc, World.size_setCell, World.size_drew, size_drewN]); (try dsimp only); omega))) | refine Qtrans (by assumption) (by ((try simp only [World.size_alloc, World.size_setCell, World.size_drew, size_drewN]); (try dsimp only); omega)) ?_))⟩)
    | (refine bodyPost_ret (v := nsV u v (n : Int)) (by rw [hq2'.out (by simpa using (by assumption : (!isWB _) = true))]; simp [results, Try.results30, go_sem, *]) rfl ⟨rfl, by (repeat (first | with_reducible exact Below.refl _ _ | assumption | with_reducible refine Qdrew ?_ | with_reducible refine QdrewN ?_ | ((with_reducible refine Qset ?_ ?_); exact (by ((try simp only [World.size_alloc, World.size_setCell, World.size_drew, size_drewN]); (try dsimp only); omega))) | ((with_reducible refine Qalloc ?_ ?_); exact (by ((try simp only [World.size_alloc, World.size_setCell, World.size_drew, size_drewN]); (try dsimp only); omega))) | refine Qtrans (by assumption) (by ((try simp only [World.size_alloc, World.size_setCell, World.size_drew, size_drewN]); (try dsimp only); omega)) ?_))⟩)
set_option maxHeartbeats 1000000 in
theorem NextStandard_law (u : ByteArray) (hu0 : u.size ≤ maxLen) (v : ByteArray) (hv0 : v.size ≤ maxLen) (k : Int) (hk0 : -9223372036854775808 ≤ k ∧ k ≤ 9223372036854775807) (w : World) :
    Calls Try.prog 7 #[.string u, .string v, .int .i64 k] w fun e w' => e = .returned (.bool true) ∧ Below w.heap.size w w' := by
  have hu : u.size ≤ 9223372036854775807 := hu0
  have hv : v.size ≤ 9223372036854775807 := hv0
  clear hu0 hv0 hk0
  by_cases hbig : (1048576 : Int) < (u.size : Int)
  · go_enter Try.func7, Try.ntmps7
    go_wp2
    go_ret
    exact ⟨rfl, by (repeat (first | with_reducible exact Below.refl _ _ | assumption | with_reducible refine Qdrew ?_ | with_reducible refine QdrewN ?_ | ((with_reducible refine Qset ?_ ?_); exact (by ((try simp only [World.size_alloc, World.size_setCell, World.size_drew, size_drewN]); (try dsimp only); omega))) | ((with_reducible refine Qalloc ?_ ?_); exact (by ((try simp only [World.size_alloc, World.size_setCell, World.size_drew, size_drewN]); (try dsimp only); omega))) | refine Qtrans (by assumption) (by ((try simp only [World.size_alloc, World.size_setCell, World.size_drew, size_drewN]); (try dsimp only); omega)) ?_))⟩
  by_cases hbig2 : (1048576 : Int) < (v.size : Int)
  · go_enter Try.func7, Try.ntmps7
    go_wp2
    go_ret
    exact ⟨rfl, by (repeat (first | with_reducible exact Below.refl _ _ | assumption | with_reducible refine Qdrew ?_ | with_reducible refine QdrewN ?_ | ((with_reducible refine Qset ?_ ?_); exact (by ((try simp only [World.size_alloc, World.size_setCell, World.size_drew, size_drewN]); (try dsimp only); omega))) | ((with_reducible refine Qalloc ?_ ?_); exact (by ((try simp only [World.size_alloc, World.size_setCell, World.size_drew, size_drewN]); (try dsimp only); omega))) | refine Qtrans (by assumption) (by ((try simp only [World.size_alloc, World.size_setCell, World.size_drew, size_drewN]); (try dsimp only); omega)) ?_))⟩
  have hspec : ∀ w, Calls Try.prog 29 #[.string u, .string v, .int .i64 k] w fun e w' => e = .returned (.tuple #[.string (nsS u v k), .bool (nsB u v k)]) ∧ Below w.heap.size w w' := fun w => specNext_any u v k w hu hv
  have himpl : ∀ w, Calls Try.prog 30 #[.string u, .string v, .int .i64 k] w fun e w' => e = .returned (.tuple #[.string (nsS u v k), .bool (nsB u v k)]) ∧ Below w.heap.size w w' := fun w => implNext_any u v k w hu hv
  obtain ⟨a, ha⟩ : ∃ a, nsS u v k = a := ⟨_, rfl⟩
  obtain ⟨b, hb⟩ : ∃ b, nsB u v k = b := ⟨_, rfl⟩
  rw [ha, hb] at hspec himpl
  go_enter Try.func7, Try.ntmps7
  go_wp2_with (first | (go_at_call 29; refine (hspec _).mono ?_; rintro e w1 ⟨rfl, hb1⟩; have hz1 := hb1.size) | (go_at_call 30; refine (himpl _).mono ?_; rintro e w2 ⟨rfl, hb2⟩))
  go_ret
  exact ⟨rfl, Qtrans hb2 hz1 hb1⟩
end Go.Proofs.Ytfbcbfimhgaicaa
