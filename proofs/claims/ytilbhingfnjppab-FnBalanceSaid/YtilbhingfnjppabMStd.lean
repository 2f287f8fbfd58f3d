/- Several texts in one, in their order: StdA StdB FrQ. -/
import Derived.Test.YtilbhingfnjppabWordsA
import Derived.Test.YtilbhingfnjppabAutosShelf
import Derived.Test.YtilbhingfnjppabMFra
import Derived.Test.YtilbhingfnjppabBal
import Derived.Test.YtilbhingfnjppabMFre
set_option linter.unusedSimpArgs false
set_option linter.unusedVariables false
namespace Go.Proofs.Ytilbhingfnjppab
open Go.RowKit
/-- A word, so many times. -/
def rpt (v : ByteArray) : Nat → ByteArray
  | 0 => ⟨#[]⟩
  | k + 1 => rpt v k ++ v
theorem rpt_size (v : ByteArray) : ∀ k, (rpt v k).size = k * v.size
  | 0 => by rw [Nat.zero_mul]; rfl
  | k + 1 => by rw [rpt, ByteArray.size_append, rpt_size v k, Nat.succ_mul]
theorem rep_snoc (l : List UInt8) : ∀ k, Lib.repeatL l (k + 1) = Lib.repeatL l k ++ l
  | 0 => by simp [Lib.repeatL]
  | k + 1 => by
    have h := rep_snoc l k
    show l ++ Lib.repeatL l (k + 1) = (l ++ Lib.repeatL l k) ++ l
    rw [h, List.append_assoc]
theorem rpt_rep (v : ByteArray) : ∀ k, (⟨(Lib.repeatL v.data.toList k).toArray⟩ : ByteArray) = rpt v k
  | 0 => rfl
  | k + 1 => by
    rw [rpt, ← rpt_rep v k, rep_snoc]
    apply ByteArray.ext; simp
def nsP (u v : ByteArray) (k : Int) : Prop := (0 ≤ k ∧ k ≤ 100) ∧ isWP u ∧ isWP v ∧ isWP (rpt v k.toNat ++ u)
open Classical in
noncomputable def nsS (u v : ByteArray) (k : Int) : ByteArray := if nsP u v k then rpt v k.toNat ++ u else ⟨#[]⟩
open Classical in
noncomputable def nsB (u v : ByteArray) (k : Int) : Bool := decide (nsP u v k)
noncomputable def nsV (u v : ByteArray) (k : Int) : Value := .tuple #[.string (nsS u v k), .bool (nsB u v k)]
theorem ns_yes {u v : ByteArray} {k : Int} (h : nsP u v k) : nsV u v k = .tuple #[.string (rpt v k.toNat ++ u), .bool true] := by simp [nsV, nsS, nsB, h]
theorem ns_no {u v : ByteArray} {k : Int} (h : ¬ nsP u v k) : nsV u v k = .tuple #[.string ⟨#[]⟩, .bool false] := by simp [nsV, nsS, nsB, h]
/-- What the reference makes: it stops where the word has grown too long. -/
def stopAt (v : ByteArray) (k : Nat) : Nat → Prop := fun m => m ≤ k ∧ (m = k ∨ 400 < (rpt v m).size) ∧ ∀ j, j < m → (rpt v j).size ≤ 400
theorem rpt_mono (v : ByteArray) {m k : Nat} (h : m ≤ k) : (rpt v m).size ≤ (rpt v k).size := by rw [rpt_size, rpt_size]; exact Nat.mul_le_mul_right _ h
set_option maxRecDepth 20000 in
set_option maxHeartbeats 1000000 in
theorem implNext_any (u v : ByteArray) (k : Int) (w : World) (hu : u.size ≤ 9223372036854775807) (hv : v.size ≤ 9223372036854775807) :
    Calls Try.prog 46 #[.string u, .string v, .int .i64 k] w fun e w' => e = .returned (nsV u v k) ∧ Below w.heap.size w w' := by
  cases hin : inB k 0 100
  · have hf := Lib.hid (ns_no (u := u) (v := v) (k := k) (fun q => inB_false.1 hin q.1))
    go_enter Try.func46, Try.ntmps46
    go_wp2_with ((go_at_call 65; refine (within_any _ _ _ _).mono ?_; rintro e w1 ⟨rfl, rfl⟩))
    (refine bodyPost_ret (v := nsV u v k) (by rw [hf.out]; simp [results, Try.results46, go_sem, *]) rfl ⟨rfl, by (repeat (first | with_reducible exact Below.refl _ _ | assumption | with_reducible refine Qdrew ?_ | with_reducible refine QdrewN ?_ | ((with_reducible refine Qset ?_ ?_); exact (by ((try simp only [World.size_alloc, World.size_setCell, World.size_drew, size_drewN]); (try dsimp only); omega))) | ((with_reducible refine Qalloc ?_ ?_); exact (by ((try simp only [World.size_alloc, World.size_setCell, World.size_drew, size_drewN]); (try dsimp only); omega))) | refine Qtrans (by assumption) (by ((try simp only [World.size_alloc, World.size_setCell, World.size_drew, size_drewN]); (try dsimp only); omega)) ?_))⟩)
  cases huw : isWB u
  · have hf := Lib.hid (ns_no (u := u) (v := v) (k := k) (fun q => isW_not huw q.2.1))
    go_enter Try.func46, Try.ntmps46
    go_wp2_with (first | (go_at_call 65; refine (within_any _ _ _ _).mono ?_; rintro e w1 ⟨rfl, rfl⟩) | (go_at_call 62; refine (isWord_any _ _ (by assumption)).mono ?_; rintro e w1 ⟨rfl, rfl⟩))
    (refine bodyPost_ret (v := nsV u v k) (by rw [hf.out]; simp [results, Try.results46, go_sem, *]) rfl ⟨rfl, by (repeat (first | with_reducible exact Below.refl _ _ | assumption | with_reducible refine Qdrew ?_ | with_reducible refine QdrewN ?_ | ((with_reducible refine Qset ?_ ?_); exact (by ((try simp only [World.size_alloc, World.size_setCell, World.size_drew, size_drewN]); (try dsimp only); omega))) | ((with_reducible refine Qalloc ?_ ?_); exact (by ((try simp only [World.size_alloc, World.size_setCell, World.size_drew, size_drewN]); (try dsimp only); omega))) | refine Qtrans (by assumption) (by ((try simp only [World.size_alloc, World.size_setCell, World.size_drew, size_drewN]); (try dsimp only); omega)) ?_))⟩)
  cases hvw : isWB v
  · have hf := Lib.hid (ns_no (u := u) (v := v) (k := k) (fun q => isW_not hvw q.2.2.1))
    go_enter Try.func46, Try.ntmps46
    go_wp2_with (first | (go_at_call 65; refine (within_any _ _ _ _).mono ?_; rintro e w1 ⟨rfl, rfl⟩) | (go_at_call 62; refine (isWord_any _ _ (by assumption)).mono ?_; rintro e w1 ⟨rfl, rfl⟩))
    (refine bodyPost_ret (v := nsV u v k) (by rw [hf.out]; simp [results, Try.results46, go_sem, *]) rfl ⟨rfl, by (repeat (first | with_reducible exact Below.refl _ _ | assumption | with_reducible refine Qdrew ?_ | with_reducible refine QdrewN ?_ | ((with_reducible refine Qset ?_ ?_); exact (by ((try simp only [World.size_alloc, World.size_setCell, World.size_drew, size_drewN]); (try dsimp only); omega))) | ((with_reducible refine Qalloc ?_ ?_); exact (by ((try simp only [World.size_alloc, World.size_setCell, World.size_drew, size_drewN]); (try dsimp only); omega))) | refine Qtrans (by assumption) (by ((try simp only [World.size_alloc, World.size_setCell, World.size_drew, size_drewN]); (try dsimp only); omega)) ?_))⟩)
  have hi := inB_true.1 hin
  obtain ⟨n, rfl⟩ : ∃ n : Nat, k = (n : Int) := ⟨k.toNat, by omega⟩
  have hu4 := isW_of huw
  have hv4 := isW_of hvw
  have hu40 := hu4.1
  have hv40 := hv4.1
  have hn100 : n ≤ 100 := by omega
  have hq1' : Hid (isWB (rpt v n ++ u) = true → nsV u v (n : Int) = .tuple #[.string (rpt v n ++ u), .bool true]) := fun hq => by
    have := ns_yes (u := u) (v := v) (k := (n : Int)) ⟨hi, hu4, hv4, by simpa using isW_of hq⟩
    simpa using this
  have hq2' : Hid (isWB (rpt v n ++ u) = false → nsV u v (n : Int) = .tuple #[.string ⟨#[]⟩, .bool false]) := fun hq => by
    refine ns_no (fun q => ?_)
    have q4 := q.2.2.2
    simp only [Int.toNat_natCast] at q4
    exact isW_not hq q4
  have s1 := rpt_size v n
  have hbb : n * v.size ≤ 100 * 400 := Nat.mul_le_mul (by omega) hv40
  have hcr : ∀ w, Calls Try.prog 87 #[.string v, .int .i64 n] w fun e w' => e = .returned (.string (rpt v n)) ∧ Below w.heap.size w w' := fun w =>
    (Try.strings_Repeat v n w (by omega) (by rw [Nat.mul_comm]; omega)).mono fun e w' q => ⟨q.1.trans (by rw [rpt_rep]), q.2⟩
  have hrun := fun w => run_string_add_sum (P := Try.prog) w (rpt v n) u (by omega)
  have hqs : (rpt v n ++ u).size ≤ 9223372036854775807 := by rw [ByteArray.size_append]; omega
  have hn0 : (0 : Int) ≤ (n : Int) := by omega
  obtain ⟨q, hq⟩ : ∃ q, rpt v n ++ u = q := ⟨_, rfl⟩
  rw [hq] at hq1' hq2' hrun hqs
  clear hu4 hv4 hi hq s1
  go_enter Try.func46, Try.ntmps46
  go_wp2_with (first | (go_at_call 65; refine (within_any _ _ _ _).mono ?_; rintro e w1 ⟨rfl, rfl⟩) | (go_at_call 62; refine (isWord_any _ _ (by assumption)).mono ?_; rintro e w1 ⟨rfl, rfl⟩) | (go_at_call 87; refine (hcr _).mono ?_; rintro e w1 ⟨rfl, hb1⟩))
  all_goals first
    | (refine bodyPost_ret (v := nsV u v (n : Int)) (by rw [hq1'.out (by simpa using (by assumption : (!isWB _) = false))]; simp [results, Try.results46, go_sem, *]) rfl ⟨rfl, by (repeat (first | with_reducible exact Below.refl _ _ | assumption | with_reducible refine Qdrew ?_ | with_reducible refine QdrewN ?_ | ((with_reducible refine Qset ?_ ?_); exact (by ((try simp only [World.size_alloc, World.size_setCell, World.size_drew, size_drewN]); (try dsimp only); omega))) | ((with_reducible refine Qalloc ?_ ?_); exact (by ((try simp only [World.size_alloc, World.size_setCell, World.size_drew, size_drewN]); (try dsimp only); omega))) | refine Qtrans (by assumption) (by ((try simp only [World.size_alloc, World.size_setCell, World.size_drew, size_drewN]); (try dsimp only); omega)) ?_))⟩)
    | (refine bodyPost_ret (v := nsV u v (n : Int)) (by rw [hq2'.out (by simpa using (by assumption : (!isWB _) = true))]; simp [results, Try.results46, go_sem, *]) rfl ⟨rfl, by (repeat (first | with_reducible exact Below.refl _ _ | assumption | with_reducible refine Qdrew ?_ | with_reducible refine QdrewN ?_ | ((with_reducible refine Qset ?_ ?_); exact (by ((try simp only [World.size_alloc, World.size_setCell, World.size_drew, size_drewN]); (try dsimp only); omega))) | ((with_reducible refine Qalloc ?_ ?_); exact (by ((try simp only [World.size_alloc, World.size_setCell, World.size_drew, size_drewN]); (try dsimp only); omega))) | refine Qtrans (by assumption) (by ((try simp only [World.size_alloc, World.size_setCell, World.size_drew, size_drewN]); (try dsimp only); omega)) ?_))⟩)
end Go.Proofs.Ytilbhingfnjppab

namespace Go.Proofs.Ytilbhingfnjppab
open Go.RowKit
def okQ (zs : List Int) (j : Nat) : Prop := min (j : Int) 1 ≤ zs.getD j 0 ∧ zs.getD j 0 ≤ 100
/-- The last two words behind k quotients. -/
noncomputable def sws (zs : List Int) : Nat → Option (ByteArray × ByteArray)
  | 0 => some (⟨#[98]⟩, ⟨#[97]⟩)
  | k + 1 => match sws zs k with
    | some (u, v) => if nsB u v (zs.getD k 0) = true then some (v, nsS u v (zs.getD k 0)) else none
    | none => none
theorem sws_yes {zs : List Int} {k : Nat} {u v : ByteArray} (h : sws zs k = some (u, v)) (hb : nsB u v (zs.getD k 0) = true) : sws zs (k + 1) = some (v, nsS u v (zs.getD k 0)) := by
  rw [sws]; simp only [h]; rw [if_pos hb]
theorem sws_no {zs : List Int} {k : Nat} {u v : ByteArray} (h : sws zs k = some (u, v)) (hb : nsB u v (zs.getD k 0) = false) : sws zs (k + 1) = none := by
  rw [sws]; simp only [h]; rw [if_neg (by rw [hb]; decide)]
theorem sws_none {zs : List Int} {k : Nat} (h : sws zs k = none) : ∀ m, sws zs (k + m) = none
  | 0 => h
  | m + 1 => by rw [show k + (m + 1) = (k + m) + 1 by omega, sws, sws_none h m]
def swP (zs : List Int) : Prop := (1 ≤ zs.length ∧ zs.length ≤ 12) ∧ ∀ j, j < zs.length → okQ zs j
open Classical in
noncomputable def swO (zs : List Int) : Option (ByteArray × ByteArray) := if swP zs then sws zs zs.length else none
noncomputable def swS (zs : List Int) : ByteArray := match swO zs with | some q => q.2 | none => ⟨#[]⟩
noncomputable def swB (zs : List Int) : Bool := (swO zs).isSome
noncomputable def swV (zs : List Int) : Value := .tuple #[.string (swS zs), .bool (swB zs)]
theorem sw_none {zs : List Int} (h : swO zs = none) : swV zs = .tuple #[.string ⟨#[]⟩, .bool false] := by simp [swV, swS, swB, h]
theorem sw_some {zs : List Int} {u v : ByteArray} (h : swO zs = some (u, v)) : swV zs = .tuple #[.string v, .bool true] := by simp [swV, swS, swB, h]
theorem sw_bad {zs : List Int} (h : ¬ swP zs) : swV zs = .tuple #[.string ⟨#[]⟩, .bool false] := sw_none (by simp [swO, h])
theorem sw_cut {zs : List Int} {k : Nat} (hk : k ≤ zs.length) (h : sws zs k = none) : swV zs = .tuple #[.string ⟨#[]⟩, .bool false] := by
  refine sw_none ?_
  unfold swO; split
  · have := sws_none h (zs.length - k)
    rwa [show k + (zs.length - k) = zs.length by omega] at this
  · rfl
theorem sw_end {zs : List Int} (hp : swP zs) {u v : ByteArray} (h : sws zs zs.length = some (u, v)) : swV zs = .tuple #[.string v, .bool true] := sw_some (u := u) (by simp [swO, hp, h])
theorem nsS_word {u v : ByteArray} {k : Int} (h : nsB u v k = true) : (nsS u v k).size ≤ 400 := by
  have h' : nsP u v k := by simpa [nsB] using h
  simp only [nsS, h', if_true]
  exact h'.2.2.2.1
set_option maxRecDepth 20000 in
set_option maxHeartbeats 1000000 in
theorem implStd_any (x : Option Addr) (n cap : Nat) (zs : List Int) (w : World) (h : RI w x n zs) :
    Calls Try.prog 39 #[.slice x n cap] w fun e w' => e = .returned (swV zs) ∧ Below w.heap.size w w' := by
  have hzl := h.1
  cases hin : inB (n : Int) 1 12
  · have hf := Lib.hid (sw_bad (zs := zs) (fun q => inB_false.1 hin (by have := q.1; omega)))
    go_enter Try.func39, Try.ntmps39
    go_wp2_with ((go_at_call 65; refine (within_any _ _ _ _).mono ?_; rintro e w1 ⟨rfl, rfl⟩))
    (refine bodyPost_ret (v := swV zs) (by rw [hf.out]; simp [results, Try.results39, go_sem, *]) rfl ⟨rfl, by (repeat (first | with_reducible exact Below.refl _ _ | assumption | with_reducible refine Qdrew ?_ | with_reducible refine QdrewN ?_ | ((with_reducible refine Qset ?_ ?_); exact (by ((try simp only [World.size_alloc, World.size_setCell, World.size_drew, size_drewN]); (try dsimp only); omega))) | ((with_reducible refine Qalloc ?_ ?_); exact (by ((try simp only [World.size_alloc, World.size_setCell, World.size_drew, size_drewN]); (try dsimp only); omega))) | refine Qtrans (by assumption) (by ((try simp only [World.size_alloc, World.size_setCell, World.size_drew, size_drewN]); (try dsimp only); omega)) ?_))⟩)
  have hi := inB_true.1 hin
  have hzl' := Lib.hid hzl
  clear hzl
  go_enter Try.func39, Try.ntmps39
  go_wp2_with ((go_at_call 65; refine (within_any _ _ _ _).mono ?_; rintro e w1 ⟨rfl, rfl⟩))
  go_loopw [18] (fun i wr => ∃ (k : Nat), k ≤ n ∧ i = .int .i64 k ∧ Hid (∀ j, j < k → okQ zs j) ∧ Below w.heap.size w wr) (fun i _ => n - (intOf i).toNat)
  case atStart => exact ⟨0, by omega, rfl, Lib.hid (fun _ h => absurd h (by omega)), Below.refl _ _⟩
  case round =>
    obtain ⟨k, hk, rfl, hok, hbel⟩ := hrel
    have hzb := hbel.size
    by_cases hlt : k < n
    · obtain ⟨b, off, rfl, hb, hc⟩ := rI_cell h (by omega)
      have hck := (hbel.cell (by exact hb)).trans (hc k hlt)
      have hbadk := Lib.hid (show ¬ okQ zs k → swV zs = .tuple #[.string ⟨#[]⟩, .bool false] from fun q => sw_bad (fun p => q (p.2 k (by have := hzl'.out; omega))))
      have hnx := Lib.hid (fun (q : okQ zs k) => (fun j (hj : j < k + 1) => by
        by_cases e : j = k
        · subst e; exact q
        · exact hok.out j (by omega) : ∀ j, j < k + 1 → okQ zs j))
      have hdef : Hid (okQ zs k ↔ inB (zs.getD k 0) (min (k : Int) 1) 100 = true) := by
        show _ ↔ _; rw [inB_true]; rfl
      obtain ⟨z, hz⟩ : ∃ z, zs.getD k 0 = z := ⟨_, rfl⟩
      rw [hz] at hck hdef
      have hk0 : (0 : Int) ≤ (k : Int) := by omega
      have hk1 : (k : Int) < (n : Int) := by omega
      clear hc hz h
      cases hin2 : inB z (min (k : Int) 1) 100
      · have hf := Lib.hid (hbadk.out (fun q => by rw [hdef.out, hin2] at q; cases q))
        clear hbadk hnx hdef
        go_wp2_with ((go_at_call 65; refine (within_any _ _ _ _).mono ?_; rintro e w1 ⟨rfl, rfl⟩))
        (refine bodyPost_ret (v := swV zs) (by rw [hf.out]; simp [results, Try.results39, go_sem, *]) rfl ⟨rfl, by (repeat (first | with_reducible exact Below.refl _ _ | assumption | with_reducible refine Qdrew ?_ | with_reducible refine QdrewN ?_ | ((with_reducible refine Qset ?_ ?_); exact (by ((try simp only [World.size_alloc, World.size_setCell, World.size_drew, size_drewN]); (try dsimp only); omega))) | ((with_reducible refine Qalloc ?_ ?_); exact (by ((try simp only [World.size_alloc, World.size_setCell, World.size_drew, size_drewN]); (try dsimp only); omega))) | refine Qtrans (by assumption) (by ((try simp only [World.size_alloc, World.size_setCell, World.size_drew, size_drewN]); (try dsimp only); omega)) ?_))⟩)
      · have hok2 := Lib.hid (hnx.out (hdef.out.2 hin2))
        clear hbadk hnx hdef
        go_wp2_with (first | (go_at_call 65; refine (within_any _ _ _ _).mono ?_; rintro e w1 ⟨rfl, rfl⟩))
        go_roundw
        case rel => exact ⟨k + 1, by omega, by go_num, hok2, by (repeat (first | with_reducible exact Below.refl _ _ | assumption | with_reducible refine Qdrew ?_ | with_reducible refine QdrewN ?_ | ((with_reducible refine Qset ?_ ?_); exact (by ((try simp only [World.size_alloc, World.size_setCell, World.size_drew, size_drewN]); (try dsimp only); omega))) | ((with_reducible refine Qalloc ?_ ?_); exact (by ((try simp only [World.size_alloc, World.size_setCell, World.size_drew, size_drewN]); (try dsimp only); omega))) | refine Qtrans (by assumption) (by ((try simp only [World.size_alloc, World.size_setCell, World.size_drew, size_drewN]); (try dsimp only); omega)) ?_))⟩
        case measure => (simp [intOf]) <;> omega
    · obtain rfl : k = n := by omega
      have hpp : swP zs := ⟨by have := hzl'.out; omega, by rw [hzl'.out]; exact hok.out⟩
      have hpp' := Lib.hid hpp
      have hk12 : k ≤ 12 := by omega
      clear hok hpp hin hi
      go_wp2
      go_loopw [6, 7, 8, 31] (fun u' v' o' i wr => ∃ (j : Nat) (u v : ByteArray), j ≤ k ∧ i = .int .i64 j ∧ u' = .string u ∧ v' = .string v ∧ o' = .bool true ∧ Hid (sws zs j = some (u, v)) ∧ u.size ≤ 400 ∧ v.size ≤ 400 ∧ Below w.heap.size w wr) (fun _ _ _ i _ => k - (intOf i).toNat)
      case atStart => exact ⟨0, _, _, by omega, rfl, rfl, rfl, rfl, Lib.hid rfl, by decide, by decide, by (repeat (first | with_reducible exact Below.refl _ _ | assumption | with_reducible refine Qdrew ?_ | with_reducible refine QdrewN ?_ | ((with_reducible refine Qset ?_ ?_); exact (by ((try simp only [World.size_alloc, World.size_setCell, World.size_drew, size_drewN]); (try dsimp only); omega))) | ((with_reducible refine Qalloc ?_ ?_); exact (by ((try simp only [World.size_alloc, World.size_setCell, World.size_drew, size_drewN]); (try dsimp only); omega))) | refine Qtrans (by assumption) (by ((try simp only [World.size_alloc, World.size_setCell, World.size_drew, size_drewN]); (try dsimp only); omega)) ?_))⟩
      case round =>
        clear hbel hzb
        obtain ⟨j, u, v, hj, rfl, rfl, rfl, rfl, hsw, hu4, hv4, hbel⟩ := hrel
        have hzb := hbel.size
        by_cases hlt2 : j < k
        · obtain ⟨b, off, rfl, hb, hc⟩ := rI_cell h (by omega)
          have hck := (hbel.cell (by exact hb)).trans (hc j hlt2)
          have hcut := Lib.hid (sw_cut (zs := zs) (k := j + 1) (by have := hzl'.out; omega))
          have hno := Lib.hid (sws_no hsw.out)
          have hyes := Lib.hid (sws_yes hsw.out)
          obtain ⟨z, hz⟩ : ∃ z, zs.getD j 0 = z := ⟨_, rfl⟩
          rw [hz] at hck hno hyes
          have hk0 : (0 : Int) ≤ (j : Int) := by omega
          have hk1 : (j : Int) < (k : Int) := by omega
          clear hc hz h
          have hns : ∀ w, Calls Try.prog 46 #[.string u, .string v, .int .i64 z] w fun e w' => e = .returned (.tuple #[.string (nsS u v z), .bool (nsB u v z)]) ∧ Below w.heap.size w w' := fun w => implNext_any u v z w (by omega) (by omega)
          cases hnb : nsB u v z
          · have hf := Lib.hid (hcut.out (hno.out hnb))
            go_wp2_with ((go_at_call 46; refine (hns _).mono ?_; rintro e w1 ⟨rfl, hb1⟩; have hz1 := hb1.size))
            (refine bodyPost_ret (v := swV zs) (by rw [hf.out]; simp [results, Try.results39, go_sem, *]) rfl ⟨rfl, by (repeat (first | with_reducible exact Below.refl _ _ | assumption | with_reducible refine Qdrew ?_ | with_reducible refine QdrewN ?_ | ((with_reducible refine Qset ?_ ?_); exact (by ((try simp only [World.size_alloc, World.size_setCell, World.size_drew, size_drewN]); (try dsimp only); omega))) | ((with_reducible refine Qalloc ?_ ?_); exact (by ((try simp only [World.size_alloc, World.size_setCell, World.size_drew, size_drewN]); (try dsimp only); omega))) | refine Qtrans (by assumption) (by ((try simp only [World.size_alloc, World.size_setCell, World.size_drew, size_drewN]); (try dsimp only); omega)) ?_))⟩)
          · have hsw2 := Lib.hid (hyes.out hnb)
            have h400 := nsS_word hnb
            obtain ⟨t, ht⟩ : ∃ t, nsS u v z = t := ⟨_, rfl⟩
            rw [ht] at hns hsw2 h400
            clear ht
            go_wp2_with ((go_at_call 46; refine (hns _).mono ?_; rintro e w1 ⟨rfl, hb1⟩; have hz1 := hb1.size))
            go_roundw
            case rel => exact ⟨j + 1, v, t, by omega, by go_num, rfl, rfl, rfl, hsw2, hv4, h400, by (repeat (first | with_reducible exact Below.refl _ _ | assumption | with_reducible refine Qdrew ?_ | with_reducible refine QdrewN ?_ | ((with_reducible refine Qset ?_ ?_); exact (by ((try simp only [World.size_alloc, World.size_setCell, World.size_drew, size_drewN]); (try dsimp only); omega))) | ((with_reducible refine Qalloc ?_ ?_); exact (by ((try simp only [World.size_alloc, World.size_setCell, World.size_drew, size_drewN]); (try dsimp only); omega))) | refine Qtrans (by assumption) (by ((try simp only [World.size_alloc, World.size_setCell, World.size_drew, size_drewN]); (try dsimp only); omega)) ?_))⟩
            case measure => (simp [intOf]) <;> omega
        · obtain rfl : j = k := by omega
          have hf : Hid (swV zs = .tuple #[.string v, .bool true]) := by
            refine sw_end (u := u) hpp'.out (by rw [hzl'.out]; exact hsw.out)
          go_wp2
          (refine bodyPost_ret (v := swV zs) (by rw [hf.out]; simp [results, Try.results39, go_sem, *]) rfl ⟨rfl, by (repeat (first | with_reducible exact Below.refl _ _ | assumption | with_reducible refine Qdrew ?_ | with_reducible refine QdrewN ?_ | ((with_reducible refine Qset ?_ ?_); exact (by ((try simp only [World.size_alloc, World.size_setCell, World.size_drew, size_drewN]); (try dsimp only); omega))) | ((with_reducible refine Qalloc ?_ ?_); exact (by ((try simp only [World.size_alloc, World.size_setCell, World.size_drew, size_drewN]); (try dsimp only); omega))) | refine Qtrans (by assumption) (by ((try simp only [World.size_alloc, World.size_setCell, World.size_drew, size_drewN]); (try dsimp only); omega)) ?_))⟩)
end Go.Proofs.Ytilbhingfnjppab

namespace Go.Proofs.Ytilbhingfnjppab
open Go.RowKit
/-- A word as numbers: its letters b as bits, those of the turned word, its length, how many are b. -/
structure WN where
  x : Nat
  y : Nat
  n : Nat
  c : Nat
def catN (A B : WN) : WN := ⟨A.x + 2 ^ A.n * B.x, B.y + 2 ^ B.n * A.y, A.n + B.n, A.c + B.c⟩
def rptN (v : WN) (k : Nat) : WN := Nat.rec ⟨0, 0, 0, 0⟩ (fun _ r => catN r v) k
def nextN (u v : WN) (k : Nat) : WN := catN (rptN v k) u
def bit1 (x i : Nat) : Bool := Nat.beq (x / 2 ^ i % 2) 1
def bal1 (x n c s : Nat) : Bool := allB n (fun i => bit1 x i == Nat.blt ((s + i * c) / n) ((s + (i + 1) * c) / n))
def perN (z m p : Nat) : Bool := Nat.ble m p || Nat.beq (z / 2 ^ p) (z % 2 ^ (m - p))
def cenN (u v : WN) : Bool := Nat.ble v.n 1 || (Nat.beq (v.x % 2 ^ (v.n - 2)) (v.y / 4) && Nat.ble 1 u.n && Nat.blt u.n v.n && Nat.beq (Nat.gcd u.n (v.n - u.n)) 1 && perN (v.x % 2 ^ (v.n - 2)) (v.n - 2) u.n && perN (v.x % 2 ^ (v.n - 2)) (v.n - 2) (v.n - u.n))
def chkW (u v : WN) (s : Nat × Nat × Nat × Nat) : Bool :=
  Nat.beq v.c s.2.2.1 && Nat.beq v.n s.2.2.2 && cenN u v && (Nat.ble 101 v.n || bal1 v.x v.n v.c v.c || bal1 v.x v.n v.c (v.c - 1))
def dfs (f : Nat) : WN → WN → Nat × Nat × Nat × Nat → Bool :=
  Nat.rec (fun _ _ _ => true) (fun _ r u v s => Nat.ble 401 v.n || (chkW u v s && allB 4 (fun k => r v (nextN u v (k + 1)) (cvS s (k + 1))))) f
def wA : WN := ⟨0, 0, 1, 0⟩
def wB : WN := ⟨1, 1, 1, 1⟩
def startN (d : Nat) : Bool := dfs 6 wA (nextN wB wA d) (cvS (cvS (0, 1, 1, 0) 0) (d + 1))
set_option maxRecDepth 100000 in
theorem start_all : allB 4 startN = true := by decide +kernel
theorem bit1_eq (x i : Nat) : bit1 x i = x.testBit i := by
  rw [Nat.testBit_eq_decide_div_mod_eq]
  unfold bit1
  by_cases h : x / 2 ^ i % 2 = 1
  · rw [h]; rfl
  · rw [decide_eq_false h]
    exact Bool.eq_false_iff.2 (fun q => h (beq_eq q))
theorem bt_catL (x y : ByteArray) (j : Nat) (h : j < x.size) : bt (x ++ y) j = bt x j := by
  have h2 : j < (x ++ y).size := by rw [ByteArray.size_append]; omega
  unfold bt
  rw [dif_pos h2, dif_pos h]
  congr 2
  simp only [ByteArray.getElem_eq_getElem_data, ByteArray.data_append]
  exact Array.getElem_append_left _
theorem bt_catR (x y : ByteArray) (j : Nat) : bt (x ++ y) (x.size + j) = bt y j := by
  by_cases h : j < y.size
  · have h2 : x.size + j < (x ++ y).size := by rw [ByteArray.size_append]; omega
    unfold bt
    rw [dif_pos h2, dif_pos h]
    congr 2
    simp only [ByteArray.getElem_eq_getElem_data, ByteArray.data_append]
    rw [Array.getElem_append_right (by show x.data.size ≤ _; have : x.data.size = x.size := rfl; omega)]
    congr 1
    show x.size + j - x.size = j
    omega
  · have h2 : ¬ x.size + j < (x ++ y).size := by rw [ByteArray.size_append]; omega
    unfold bt
    rw [dif_neg h2, dif_neg h]
/-- A word stands as numbers. -/
structure Enc (s : ByteArray) (W : WN) : Prop where
  n : s.size = W.n
  c : s.data.toList.count 98 = W.c
  lx : W.x < 2 ^ W.n
  ly : W.y < 2 ^ W.n
  at1 : ∀ j, j < W.n → bt s j = if W.x.testBit j = true then 98 else 97
  rv : ∀ j, j < W.n → W.y.testBit j = W.x.testBit (W.n - 1 - j)
theorem Enc.cat {s t : ByteArray} {A B : WN} (h : Enc s A) (g : Enc t B) : Enc (s ++ t) (catN A B) := by
  have bx : ∀ j, (A.x + 2 ^ A.n * B.x).testBit j = if j < A.n then A.x.testBit j else B.x.testBit (j - A.n) := fun j => by
    rw [Nat.add_comm, Nat.testBit_two_pow_mul_add _ h.lx]
  have byy : ∀ j, (B.y + 2 ^ B.n * A.y).testBit j = if j < B.n then B.y.testBit j else A.y.testBit (j - B.n) := fun j => by
    rw [Nat.add_comm, Nat.testBit_two_pow_mul_add _ g.ly]
  have lt : ∀ (a b m n : Nat), a < 2 ^ m → b < 2 ^ n → a + 2 ^ m * b < 2 ^ (m + n) := fun a b m n ha hb => by
    have h1 : 2 ^ m * (b + 1) ≤ 2 ^ m * 2 ^ n := Nat.mul_le_mul_left _ hb
    rw [Nat.mul_succ, ← Nat.pow_add] at h1
    omega
  refine ⟨?_, ?_, lt _ _ _ _ h.lx g.lx, ?_, fun j hj => ?_, fun j hj => ?_⟩
  · rw [ByteArray.size_append, h.n, g.n]; rfl
  · show _ = A.c + B.c
    rw [← h.c, ← g.c, ByteArray.data_append, Array.toList_append, List.count_append]
  · show B.y + 2 ^ B.n * A.y < 2 ^ (A.n + B.n)
    rw [Nat.add_comm A.n]
    exact lt _ _ _ _ g.ly h.ly
  · have hj' : j < A.n + B.n := hj
    show bt (s ++ t) j = if (A.x + 2 ^ A.n * B.x).testBit j = true then 98 else 97
    rw [bx j]
    by_cases e : j < A.n
    · rw [if_pos e, bt_catL _ _ _ (by rw [h.n]; exact e), h.at1 j e]
    · rw [if_neg e, ← g.at1 (j - A.n) (by omega), ← bt_catR s t, h.n, show A.n + (j - A.n) = j by omega]
  · have hj' : j < A.n + B.n := hj
    show (B.y + 2 ^ B.n * A.y).testBit j = (A.x + 2 ^ A.n * B.x).testBit (A.n + B.n - 1 - j)
    rw [bx, byy]
    by_cases e : j < B.n
    · rw [if_pos e, if_neg (by omega), g.rv j e, show A.n + B.n - 1 - j - A.n = B.n - 1 - j by omega]
    · rw [if_neg e, if_pos (by omega), h.rv (j - B.n) (by omega), show A.n - 1 - (j - B.n) = A.n + B.n - 1 - j by omega]
theorem Enc.rpt {v : ByteArray} {V : WN} (h : Enc v V) : ∀ k, Enc (rpt v k) (rptN V k)
  | 0 => ⟨rfl, rfl, Nat.one_pos, Nat.one_pos, fun j hj => absurd hj (Nat.not_lt_zero j), fun j hj => absurd hj (Nat.not_lt_zero j)⟩
  | k + 1 => (Enc.rpt h k).cat h
theorem Enc.next {u v : ByteArray} {U V : WN} (hu : Enc u U) (hv : Enc v V) (k : Nat) : Enc (Go.Proofs.Ytilbhingfnjppab.rpt v k ++ u) (nextN U V k) := (hv.rpt k).cat hu
theorem enc_a : Enc ⟨#[97]⟩ wA := ⟨rfl, rfl, by decide, by decide, fun j hj => by
  have : j < 1 := hj
  obtain rfl : j = 0 := by omega
  rfl, fun j hj => by
  have : j < 1 := hj
  obtain rfl : j = 0 := by omega
  rfl⟩
theorem enc_b : Enc ⟨#[98]⟩ wB := ⟨rfl, rfl, by decide, by decide, fun j hj => by
  have : j < 1 := hj
  obtain rfl : j = 0 := by omega
  rfl, fun j hj => by
  have : j < 1 := hj
  obtain rfl : j = 0 := by omega
  rfl⟩
theorem dfs_next {f : Nat} {U V : WN} {s : Nat × Nat × Nat × Nat} (h : dfs (f + 1) U V s = true) (hn : V.n ≤ 400) :
    chkW U V s = true ∧ ∀ z, 1 ≤ z → z ≤ 4 → dfs f V (nextN U V z) (cvS s z) = true := by
  have h' : (Nat.ble 401 V.n || (chkW U V s && allB 4 (fun k => dfs f V (nextN U V (k + 1)) (cvS s (k + 1))))) = true := h
  rw [Bool.or_eq_true, Bool.and_eq_true] at h'
  rcases h' with e | ⟨e1, e2⟩
  · have := ble_le e; omega
  · refine ⟨e1, fun z h1 h4 => ?_⟩
    have := allB_at e2 (z - 1) (by omega)
    rwa [show z - 1 + 1 = z by omega] at this
theorem nsB_of {u v : ByteArray} {k : Int} (h : nsB u v k = true) : nsP u v k := by simpa [nsB] using h
/-- The quotients with a nought ahead and one more. -/
def eL (d : Nat) (t : List Nat) : List Nat := 0 :: (d + 1) :: t
theorem sws_dfs (d : Nat) (t : List Nat) (hd : d ≤ 3) (ht : t.length ≤ 5) (h4 : ∀ j, j < t.length → 1 ≤ t.getD j 0 ∧ t.getD j 0 ≤ 4) :
    ∀ k, k ≤ t.length → ∀ u v, sws (zN (d :: t)) (k + 1) = some (u, v) → ∃ U V, Enc u U ∧ Enc v V ∧ isWP v ∧ dfs (6 - k) U V (cvAt (eL d t) (k + 2)) = true
  | 0, _, u, v, h => by
    rw [sws] at h
    simp only [sws] at h
    rw [zN_at] at h
    have e0 : (d :: t).getD 0 0 = d := rfl
    rw [e0] at h
    split at h
    · rename_i hb
      have hp := nsB_of hb
      simp only [Option.some.injEq, Prod.mk.injEq] at h
      obtain ⟨rfl, rfl⟩ := h
      have e : nsS ⟨#[98]⟩ ⟨#[97]⟩ (d : Int) = rpt ⟨#[97]⟩ d ++ ⟨#[98]⟩ := by simp only [nsS, hp, if_true]; rfl
      rw [e]
      refine ⟨wA, nextN wB wA d, enc_a, enc_b.next enc_a d, hp.2.2.2, allB_at start_all d (by omega)⟩
    · cases h
  | k + 1, hk, u, v, h => by
    rw [sws] at h
    rcases hs : sws (zN (d :: t)) (k + 1) with _ | ⟨u0, v0⟩
    · rw [hs] at h; cases h
    · rw [hs] at h
      obtain ⟨U, V, hU, hV, hw, hdf⟩ := sws_dfs d t hd ht h4 k (by omega) u0 v0 hs
      simp only at h
      rw [zN_at] at h
      have e0 : (d :: t).getD (k + 1) 0 = t.getD k 0 := by simp [List.getD_eq_getElem?_getD]
      rw [e0] at h
      split at h
      · rename_i hb
        have hp := nsB_of hb
        simp only [Option.some.injEq, Prod.mk.injEq] at h
        obtain ⟨rfl, rfl⟩ := h
        obtain ⟨q1, q2⟩ := h4 k (by omega)
        have e : nsS u0 v0 (t.getD k 0 : Int) = rpt v0 (t.getD k 0) ++ u0 := by simp only [nsS, hp, if_true]; rfl
        rw [e]
        refine ⟨V, nextN U V (t.getD k 0), hV, hU.next hV _, hp.2.2.2, ?_⟩
        rw [show 6 - k = (6 - (k + 1)) + 1 by omega] at hdf
        have h6 := (dfs_next hdf (by rw [← hV.n]; exact hw.1)).2 (t.getD k 0) q1 q2
        have e5 : cvAt (eL d t) (k + 1 + 2) = cvS (cvAt (eL d t) (k + 2)) (t.getD k 0) := by
          rw [show k + 1 + 2 = k + 2 + 1 by omega, cvAt_next _ _ (by simp only [eL, List.length_cons]; omega)]
          congr 1
        rw [e5]
        exact h6
      · cases h
theorem enc_per {s : ByteArray} {z m p : Nat} (hm : s.size = m) (hat : ∀ j, j < m → bt s j = if z.testBit j = true then 98 else 97) (h : perN z m p = true) : perB s p = true := by
  unfold perN at h
  rw [Bool.or_eq_true] at h
  rcases h with e | e
  · exact perB_big (by rw [hm]; exact ble_le e)
  · refine perB_all (fun j hj => ?_)
    rw [hm] at hj
    rw [hat j (by omega), hat (j + p) hj]
    have := congrArg (fun y => y.testBit j) (beq_eq e)
    simp only [Nat.testBit_div_two_pow, Nat.testBit_mod_two_pow] at this
    rw [this, decide_eq_true (show j < m - p by omega), Bool.true_and]
theorem bt_cut {s : ByteArray} {m j : Nat} (hm : m ≤ s.size) (hj : j < m) : bt (s.extract 0 m) j = bt s j := by
  have h1 : j < (s.extract 0 m).size := by rw [ByteArray.size_extract]; omega
  unfold bt
  rw [dif_pos h1, dif_pos (by omega)]
  congr 2
  simp [ByteArray.getElem_extract]
theorem pal_of {s : ByteArray} (h : ∀ j, j < s.size → bt s j = bt s (s.size - 1 - j)) : palB s = true := by
  unfold palB
  rw [beq_iff_eq]
  have e1 : s.toList = s.data.toList := ByteArray.toList_eq s
  have e2 : (rev s).toList = revL s s.size := by rw [ByteArray.toList_eq]; rfl
  rw [e1, e2]
  apply List.ext_getElem
  · rw [revL_len]; simp
  · intro j h1 h2
    have hj : j < s.size := by simpa using h1
    have a1 : s.data.toList[j] = byteAt s j := by simp [byteAt, List.getD_eq_getElem?_getD, hj]
    have a2 : (revL s s.size)[j] = byteAt s (s.size - 1 - j) := by rw [← revL_at s s.size j hj]; simp [List.getD_eq_getElem?_getD, h2]
    rw [a1, a2]
    have := h j hj
    rw [byteAt_bt s j hj, byteAt_bt s _ (by omega)] at this
    exact UInt8.toNat_inj.mp (by omega)
theorem enc_cen {u v : ByteArray} {U V : WN} (hU : Enc u U) (hV : Enc v V) (hw : isWP v) (h : cenN U V = true) (h2 : 2 ≤ v.size) : cenQ (v.extract 0 (v.size - 2)) := by
  have hn := hV.n
  unfold cenN at h
  simp only [Bool.or_eq_true, Bool.and_eq_true] at h
  rcases h with e | ⟨⟨⟨⟨⟨e1, e2⟩, e3⟩, e4⟩, e5⟩, e6⟩
  · have := ble_le e; omega
  have e2' := ble_le e2
  have e3' : U.n < V.n := ble_le e3
  have hsz : (v.extract 0 (v.size - 2)).size = V.n - 2 := by rw [ByteArray.size_extract]; omega
  obtain ⟨P, hP⟩ : ∃ P, v.extract 0 (v.size - 2) = P := ⟨_, rfl⟩
  have hb : ∀ j, j < V.n - 2 → bt P j = bt v j := fun j hj => by rw [← hP]; exact bt_cut (by omega) (by omega)
  rw [hP] at hsz ⊢
  have hat : ∀ j, j < V.n - 2 → bt P j = if (V.x % 2 ^ (V.n - 2)).testBit j = true then 98 else 97 := fun j hj => by
    rw [hb j hj, hV.at1 j (by omega), Nat.testBit_mod_two_pow, decide_eq_true hj, Bool.true_and]
  refine ⟨?_, ?_, U.n, e2', by omega, ?_, enc_per hsz hat e5, ?_⟩
  · unfold binB
    rw [Bool.and_eq_true]
    have hr : ∀ j, j < P.size → bt P j = 98 ∨ bt P j = 97 := fun j hj => by
      rw [hat j (by omega)]
      split
      · exact .inl rfl
      · exact .inr rfl
    refine ⟨isWB_true ⟨by rw [hsz]; have := hw.1; omega, fun j hj => ?_⟩, wiB_true (fun j hj => ?_)⟩
    · have := hr j hj; unfold inL; omega
    · have := hr j hj; unfold lt; omega
  · refine pal_of (fun j hj => ?_)
    rw [hsz] at hj ⊢
    rw [hat j hj, hat _ (by omega)]
    have g1 : (V.x % 2 ^ (V.n - 2)).testBit j = (V.y / 4).testBit j := congrArg (fun y => y.testBit j) (beq_eq e1)
    rw [show (4 : Nat) = 2 ^ 2 from rfl, Nat.testBit_div_two_pow, hV.rv _ (by omega)] at g1
    rw [g1, Nat.testBit_mod_two_pow, decide_eq_true (show V.n - 2 - 1 - j < V.n - 2 by omega), Bool.true_and, show V.n - 1 - (j + 2) = V.n - 2 - 1 - j by omega]
  · rw [hsz, show V.n - 2 + 2 - U.n = V.n - U.n by omega]; exact beq_eq e4
  · rw [hsz, show V.n - 2 + 2 - U.n = V.n - U.n by omega]; exact enc_per hsz hat e6
theorem enc_mech {v : ByteArray} {V : WN} {c s : Nat} (hV : Enc v V) (h : bal1 V.x V.n c s = true) : mechP v c V.n s := by
  intro i hi
  rw [hV.n] at hi
  have h1 := allB_at h i hi
  replace h1 := eq_of_beq h1
  rw [bit1_eq] at h1
  rw [hV.at1 i hi, h1]
  constructor
  · intro q
    by_cases e : Nat.blt ((s + i * c) / V.n) ((s + (i + 1) * c) / V.n) = true
    · exact ble_le e
    · rw [if_neg e] at q; cases q
  · intro q
    have : Nat.blt ((s + i * c) / V.n) ((s + (i + 1) * c) / V.n) = true := Nat.ble_eq_true_of_le q
    rw [if_pos this]
theorem count_le (s : ByteArray) : s.data.toList.count 98 ≤ s.size := by
  have := List.count_le_length (a := (98 : UInt8)) (l := s.data.toList)
  simpa using this
/-- The law of standard words. -/
theorem std_law (d : Nat) (t : List Nat) (hd : d ≤ 3) (ht : t.length ≤ 5) (h4 : ∀ j, j < t.length → 1 ≤ t.getD j 0 ∧ t.getD j 0 ≤ 4) (u v : ByteArray) (h : sws (zN (d :: t)) (t.length + 1) = some (u, v)) :
    v.size ≤ 400 ∧ v.data.toList.count 98 = cN (eL d t) (t.length + 1) ∧ v.size = dN (eL d t) (t.length + 1) ∧ (v.size ≤ 100 → balP v) ∧ (2 ≤ v.size → cenQ (v.extract 0 (v.size - 2))) ∧ binB v = true := by
  obtain ⟨U, V, hU, hV, hw, hdf⟩ := sws_dfs d t hd ht h4 t.length (Nat.le_refl _) u v h
  rw [show 6 - t.length = (5 - t.length) + 1 by omega] at hdf
  have hc := (dfs_next hdf (by rw [← hV.n]; exact hw.1)).1
  unfold chkW at hc
  simp only [Bool.and_eq_true] at hc
  obtain ⟨⟨⟨c1, c2⟩, c3⟩, c4⟩ := hc
  refine ⟨hw.1, by rw [hV.c]; exact beq_eq c1, by rw [hV.n]; exact beq_eq c2, fun hle => ?_, fun h2 => enc_cen hU hV hw c3 h2, ?_⟩
  · by_cases e0 : V.n = 0
    · intro n h1 h2; rw [hV.n] at h2; omega
    have hcn : V.c ≤ V.n := by rw [← hV.c, ← hV.n]; exact count_le v
    simp only [Bool.or_eq_true] at c4
    rcases c4 with (e | e) | e
    · have := ble_le e; rw [← hV.n] at this; omega
    · exact mech_bal (by omega) hcn (enc_mech hV e)
    · exact mech_bal (by omega) hcn (enc_mech hV e)
  · unfold binB
    rw [Bool.and_eq_true]
    have hr : ∀ j, j < v.size → bt v j = 98 ∨ bt v j = 97 := fun j hj => by
      rw [hV.at1 j (by rw [← hV.n]; exact hj)]
      split
      · exact .inl rfl
      · exact .inr rfl
    refine ⟨isWB_true hw, wiB_true (fun j hj => ?_)⟩
    have := hr j hj; unfold lt; omega
/-- The greater quotients are the program's. -/
theorem e_ok (d : Nat) (t : List Nat) (hd : d ≤ 3) (ht : t.length ≤ 5) (h4 : ∀ j, j < t.length → 1 ≤ t.getD j 0 ∧ t.getD j 0 ≤ 4) : QOk (eL d t) := by
  have hat : ∀ j, j < (eL d t).length → min j 1 ≤ (eL d t).getD j 0 ∧ (eL d t).getD j 0 ≤ 4 := fun j hj => by
    match j with
    | 0 => exact ⟨Nat.zero_le _, Nat.zero_le _⟩
    | 1 => exact ⟨by show 1 ≤ d + 1; omega, by show d + 1 ≤ 4; omega⟩
    | j + 2 =>
      have := h4 j (by simp only [eL, List.length_cons] at hj; omega)
      have e : (eL d t).getD (j + 2) 0 = t.getD j 0 := by simp [eL, List.getD_eq_getElem?_getD]
      rw [e]
      omega
  have hl : (eL d t).length = t.length + 2 := rfl
  have grow : ∀ j, j ≤ (eL d t).length → (cvAt (eL d t) j).1 ≤ 5 ^ j ∧ (cvAt (eL d t) j).2.1 ≤ 5 ^ j ∧ (cvAt (eL d t) j).2.2.1 ≤ 5 ^ j ∧ (cvAt (eL d t) j).2.2.2 ≤ 5 ^ j := by
    intro j
    induction j with
    | zero => intro _; exact ⟨Nat.zero_le _, Nat.le_refl _, Nat.le_refl _, Nat.zero_le _⟩
    | succ j ih =>
      intro hj
      obtain ⟨a1, a2, a3, a4⟩ := ih (by omega)
      rw [cvAt_next _ _ (by omega)]
      have hz := (hat j (by omega)).2
      obtain ⟨z, hze⟩ : ∃ z, (eL d t).getD j 0 = z := ⟨_, rfl⟩
      rw [hze] at hz ⊢
      have m1 : z * (cvAt (eL d t) j).2.2.1 ≤ 4 * 5 ^ j := Nat.mul_le_mul hz a3
      have m2 : z * (cvAt (eL d t) j).2.2.2 ≤ 4 * 5 ^ j := Nat.mul_le_mul hz a4
      have e5 : 5 ^ (j + 1) = 5 ^ j * 5 := Nat.pow_succ ..
      simp only [cvS]
      omega
  refine ⟨by omega, by omega, fun j hj => ⟨(hat j hj).1, by have := (hat j hj).2; omega⟩, fun j hj => ?_⟩
  obtain ⟨-, -, a3, a4⟩ := grow (j + 1) hj
  have : 5 ^ (j + 1) ≤ 5 ^ 8 := Nat.pow_le_pow_right (by decide) (by omega)
  have e8 : (5 : Nat) ^ 8 = 390625 := by decide
  unfold cN dN
  omega
end Go.Proofs.Ytilbhingfnjppab
