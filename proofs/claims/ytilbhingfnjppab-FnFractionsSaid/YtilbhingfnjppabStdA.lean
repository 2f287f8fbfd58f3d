/- Standard words: the walks of one step, and the law. -/
import Derived.Test.YtilbhingfnjppabWordsA
import Derived.Test.YtilbhingfnjppabAutosShelf
set_option linter.unusedSimpArgs false
set_option linter.unusedVariables false
namespace Go.Proofs.Ytilbhingfnjppab
open Go.RowKit
/-- A word, so many times. -/
def rpt (v : ByteArray) : Nat → ByteArray
  | 0 => ⟨#[]⟩
  | k + 1 => rpt v k ++ v
theorem rpt_size (v : ByteArray) : ∀ k, (rpt v k).size = k * v.size
  | 0 => by rw [Nat.zero_mul]; rfl
  | k + 1 => by rw [rpt, ByteArray.size_append, rpt_size v k, Nat.succ_mul]
theorem rep_snoc (l : List UInt8) : ∀ k, Lib.repeatL l (k + 1) = Lib.repeatL l k ++ l
  | 0 => by simp [Lib.repeatL]
  | k + 1 => by
    have h := rep_snoc l k
    show l ++ Lib.repeatL l (k + 1) = (l ++ Lib.repeatL l k) ++ l
    rw [h, List.append_assoc]
theorem rpt_rep (v : ByteArray) : ∀ k, (⟨(Lib.repeatL v.data.toList k).toArray⟩ : ByteArray) = rpt v k
  | 0 => rfl
  | k + 1 => by
    rw [rpt, ← rpt_rep v k, rep_snoc]
    apply ByteArray.ext; simp
def nsP (u v : ByteArray) (k : Int) : Prop := (0 ≤ k ∧ k ≤ 100) ∧ isWP u ∧ isWP v ∧ isWP (rpt v k.toNat ++ u)
open Classical in
noncomputable def nsS (u v : ByteArray) (k : Int) : ByteArray := if nsP u v k then rpt v k.toNat ++ u else ⟨#[]⟩
open Classical in
noncomputable def nsB (u v : ByteArray) (k : Int) : Bool := decide (nsP u v k)
noncomputable def nsV (u v : ByteArray) (k : Int) : Value := .tuple #[.string (nsS u v k), .bool (nsB u v k)]
theorem ns_yes {u v : ByteArray} {k : Int} (h : nsP u v k) : nsV u v k = .tuple #[.string (rpt v k.toNat ++ u), .bool true] := by simp [nsV, nsS, nsB, h]
theorem ns_no {u v : ByteArray} {k : Int} (h : ¬ nsP u v k) : nsV u v k = .tuple #[.string ⟨#[]⟩, .bool false] := by simp [nsV, nsS, nsB, h]
/-- What the reference makes: it stops where the word has grown too long. -/
def stopAt (v : ByteArray) (k : Nat) : Nat → Prop := fun m => m ≤ k ∧ (m = k ∨ 400 < (rpt v m).size) ∧ ∀ j, j < m → (rpt v j).size ≤ 400
theorem rpt_mono (v : ByteArray) {m k : Nat} (h : m ≤ k) : (rpt v m).size ≤ (rpt v k).size := by rw [rpt_size, rpt_size]; exact Nat.mul_le_mul_right _ h
set_option maxRecDepth 20000 in
set_option maxHeartbeats 1000000 in
theorem implNext_any (u v : ByteArray) (k : Int) (w : World) (hu : u.size ≤ 9223372036854775807) (hv : v.size ≤ 9223372036854775807) :
    Calls Try.prog 46 #[.string u, .string v, .int .i64 k] w fun e w' => e = .returned (nsV u v k) ∧ Below w.heap.size w w' := by
  cases hin : inB k 0 100
  · have hf := Lib.hid (ns_no (u := u) (v := v) (k := k) (fun q => inB_false.1 hin q.1))
    go_enter Try.func46, Try.ntmps46
    go_wp2_with ((go_at_call 65; refine (within_any _ _ _ _).mono ?_; rintro e w1 ⟨rfl, rfl⟩))
    (refine bodyPost_ret (v := nsV u v k) (by rw [hf.out]; simp [results, Try.results46, go_sem, *]) rfl ⟨rfl, by (repeat (first | with_reducible exact Below.refl _ _ | assumption | with_reducible refine Qdrew ?_ | with_reducible refine QdrewN ?_ | ((with_reducible refine Qset ?_ ?_); exact (by ((try simp only [World.size_alloc, World.size_setCell, World.size_drew, size_drewN]); (try dsimp only); omega))) | ((with_reducible refine Qalloc ?_ ?_); exact (by ((try simp only [World.size_alloc, World.size_setCell, World.size_drew, size_drewN]); (try dsimp only); omega))) | refine Qtrans (by assumption) (by ((try simp only [World.size_alloc, World.size_setCell, World.size_drew, size_drewN]); (try dsimp only); omega)) ?_))⟩)
  cases huw : isWB u
  · have hf := Lib.hid (ns_no (u := u) (v := v) (k := k) (fun q => isW_not huw q.2.1))
    go_enter Try.func46, Try.ntmps46
    go_wp2_with (first | (go_at_call 65; refine (within_any _ _ _ _).mono ?_; rintro e w1 ⟨rfl, rfl⟩) | (go_at_call 62; refine (isWord_any _ _ (by assumption)).mono ?_; rintro e w1 ⟨rfl, rfl⟩))
    (refine bodyPost_ret (v := nsV u v k) (by rw [hf.out]; simp [results, Try.results46, go_sem, *]) rfl ⟨rfl, by (repeat (first | with_reducible exact Below.refl _ _ | assumption | with_reducible refine Qdrew ?_ | with_reducible refine QdrewN ?_ | ((with_reducible refine Qset ?_ ?_); exact (by ((try simp only [World.size_alloc, World.size_setCell, World.size_drew, size_drewN]); (try dsimp only); omega))) | ((with_reducible refine Qalloc ?_ ?_); exact (by ((try simp only [World.size_alloc, World.size_setCell, World.size_drew, size_drewN]); (try dsimp only); omega))) | refine Qtrans (by assumption) (by ((try simp only [World.size_alloc, World.size_setCell, World.size_drew, size_drewN]); (try dsimp only); omega)) ?_))⟩)
  cases hvw : isWB v
  · have hf := Lib.hid (ns_no (u := u) (v := v) (k := k) (fun q => isW_not hvw q.2.2.1))
    go_enter Try.func46, Try.ntmps46
    go_wp2_with (first | (go_at_call 65; refine (within_any _ _ _ _).mono ?_; rintro e w1 ⟨rfl, rfl⟩) | (go_at_call 62; refine (isWord_any _ _ (by assumption)).mono ?_; rintro e w1 ⟨rfl, rfl⟩))
    (refine bodyPost_ret (v := nsV u v k) (by rw [hf.out]; simp [results, Try.results46, go_sem, *]) rfl ⟨rfl, by (repeat (first | with_reducible exact Below.refl _ _ | assumption | with_reducible refine Qdrew ?_ | with_reducible refine QdrewN ?_ | ((with_reducible refine Qset ?_ ?_); exact (by ((try simp only [World.size_alloc, World.size_setCell, World.size_drew, size_drewN]); (try dsimp only); omega))) | ((with_reducible refine Qalloc ?_ ?_); exact (by ((try simp only [World.size_alloc, World.size_setCell, World.size_drew, size_drewN]); (try dsimp only); omega))) | refine Qtrans (by assumption) (by ((try simp only [World.size_alloc, World.size_setCell, World.size_drew, size_drewN]); (try dsimp only); omega)) ?_))⟩)
  have hi := inB_true.1 hin
  obtain ⟨n, rfl⟩ : ∃ n : Nat, k = (n : Int) := ⟨k.toNat, by omega⟩
  have hu4 := isW_of huw
  have hv4 := isW_of hvw
  have hu40 := hu4.1
  have hv40 := hv4.1
  have hn100 : n ≤ 100 := by omega
  have hq1' : Hid (isWB (rpt v n ++ u) = true → nsV u v (n : Int) = .tuple #[.string (rpt v n ++ u), .bool true]) := fun hq => by
    have := ns_yes (u := u) (v := v) (k := (n : Int)) ⟨hi, hu4, hv4, by simpa using isW_of hq⟩
    simpa using this
  have hq2' : Hid (isWB (rpt v n ++ u) = false → nsV u v (n : Int) = .tuple #[.string ⟨#[]⟩, .bool false]) := fun hq => by
    refine ns_no (fun q => ?_)
    have q4 := q.2.2.2
    simp only [Int.toNat_natCast] at q4
    exact isW_not hq q4
  have s1 := rpt_size v n
  have hbb : n * v.size ≤ 100 * 400 := Nat.mul_le_mul (by omega) hv40
  have hcr : ∀ w, Calls Try.prog 87 #[.string v, .int .i64 n] w fun e w' => e = .returned (.string (rpt v n)) ∧ Below w.heap.size w w' := fun w =>
    (Try.strings_Repeat v n w (by omega) (by rw [Nat.mul_comm]; omega)).mono fun e w' q => ⟨q.1.trans (by rw [rpt_rep]), q.2⟩
  have hrun := fun w => run_string_add_sum (P := Try.prog) w (rpt v n) u (by omega)
  have hqs : (rpt v n ++ u).size ≤ 9223372036854775807 := by rw [ByteArray.size_append]; omega
  have hn0 : (0 : Int) ≤ (n : Int) := by omega
  obtain ⟨q, hq⟩ : ∃ q, rpt v n ++ u = q := ⟨_, rfl⟩
  rw [hq] at hq1' hq2' hrun hqs
  clear hu4 hv4 hi hq s1
  go_enter Try.func46, Try.ntmps46
  go_wp2_with (first | (go_at_call 65; refine (within_any _ _ _ _).mono ?_; rintro e w1 ⟨rfl, rfl⟩) | (go_at_call 62; refine (isWord_any _ _ (by assumption)).mono ?_; rintro e w1 ⟨rfl, rfl⟩) | (go_at_call 87; refine (hcr _).mono ?_; rintro e w1 ⟨rfl, hb1⟩))
  all_goals first
    | (refine bodyPost_ret (v := nsV u v (n : Int)) (by rw [hq1'.out (by simpa using (by assumption : (!isWB _) = false))]; simp [results, Try.results46, go_sem, *]) rfl ⟨rfl, by (repeat (first | with_reducible exact Below.refl _ _ | assumption | with_reducible refine Qdrew ?_ | with_reducible refine QdrewN ?_ | ((with_reducible refine Qset ?_ ?_); exact (by ((try simp only [World.size_alloc, World.size_setCell, World.size_drew, size_drewN]); (try dsimp only); omega))) | ((with_reducible refine Qalloc ?_ ?_); exact (by ((try simp only [World.size_alloc, World.size_setCell, World.size_drew, size_drewN]); (try dsimp only); omega))) | refine Qtrans (by assumption) (by ((try simp only [World.size_alloc, World.size_setCell, World.size_drew, size_drewN]); (try dsimp only); omega)) ?_))⟩)
    | (refine bodyPost_ret (v := nsV u v (n : Int)) (by rw [hq2'.out (by simpa using (by assumption : (!isWB _) = true))]; simp [results, Try.results46, go_sem, *]) rfl ⟨rfl, by (repeat (first | with_reducible exact Below.refl _ _ | assumption | with_reducible refine Qdrew ?_ | with_reducible refine QdrewN ?_ | ((with_reducible refine Qset ?_ ?_); exact (by ((try simp only [World.size_alloc, World.size_setCell, World.size_drew, size_drewN]); (try dsimp only); omega))) | ((with_reducible refine Qalloc ?_ ?_); exact (by ((try simp only [World.size_alloc, World.size_setCell, World.size_drew, size_drewN]); (try dsimp only); omega))) | refine Qtrans (by assumption) (by ((try simp only [World.size_alloc, World.size_setCell, World.size_drew, size_drewN]); (try dsimp only); omega)) ?_))⟩)
end Go.Proofs.Ytilbhingfnjppab
