/- Standard words of quotients. -/
import Derived.Test.YtilbhingfnjppabStdA
import Derived.Test.YtilbhingfnjppabLawU
set_option linter.unusedSimpArgs false
set_option linter.unusedVariables false
namespace Go.Proofs.Ytilbhingfnjppab
open Go.RowKit
def okQ (zs : List Int) (j : Nat) : Prop := min (j : Int) 1 ≤ zs.getD j 0 ∧ zs.getD j 0 ≤ 100
/-- The last two words behind k quotients. -/
noncomputable def sws (zs : List Int) : Nat → Option (ByteArray × ByteArray)
  | 0 => some (⟨#[98]⟩, ⟨#[97]⟩)
  | k + 1 => match sws zs k with
    | some (u, v) => if nsB u v (zs.getD k 0) = true then some (v, nsS u v (zs.getD k 0)) else none
    | none => none
theorem sws_yes {zs : List Int} {k : Nat} {u v : ByteArray} (h : sws zs k = some (u, v)) (hb : nsB u v (zs.getD k 0) = true) : sws zs (k + 1) = some (v, nsS u v (zs.getD k 0)) := by
  rw [sws]; simp only [h]; rw [if_pos hb]
theorem sws_no {zs : List Int} {k : Nat} {u v : ByteArray} (h : sws zs k = some (u, v)) (hb : nsB u v (zs.getD k 0) = false) : sws zs (k + 1) = none := by
  rw [sws]; simp only [h]; rw [if_neg (by rw [hb]; decide)]
theorem sws_none {zs : List Int} {k : Nat} (h : sws zs k = none) : ∀ m, sws zs (k + m) = none
  | 0 => h
  | m + 1 => by rw [show k + (m + 1) = (k + m) + 1 by omega, sws, sws_none h m]
def swP (zs : List Int) : Prop := (1 ≤ zs.length ∧ zs.length ≤ 12) ∧ ∀ j, j < zs.length → okQ zs j
open Classical in
noncomputable def swO (zs : List Int) : Option (ByteArray × ByteArray) := if swP zs then sws zs zs.length else none
noncomputable def swS (zs : List Int) : ByteArray := match swO zs with | some q => q.2 | none => ⟨#[]⟩
noncomputable def swB (zs : List Int) : Bool := (swO zs).isSome
noncomputable def swV (zs : List Int) : Value := .tuple #[.string (swS zs), .bool (swB zs)]
theorem sw_none {zs : List Int} (h : swO zs = none) : swV zs = .tuple #[.string ⟨#[]⟩, .bool false] := by simp [swV, swS, swB, h]
theorem sw_some {zs : List Int} {u v : ByteArray} (h : swO zs = some (u, v)) : swV zs = .tuple #[.string v, .bool true] := by simp [swV, swS, swB, h]
theorem sw_bad {zs : List Int} (h : ¬ swP zs) : swV zs = .tuple #[.string ⟨#[]⟩, .bool false] := sw_none (by simp [swO, h])
theorem sw_cut {zs : List Int} {k : Nat} (hk : k ≤ zs.length) (h : sws zs k = none) : swV zs = .tuple #[.string ⟨#[]⟩, .bool false] := by
  refine sw_none ?_
  unfold swO; split
  · have := sws_none h (zs.length - k)
    rwa [show k + (zs.length - k) = zs.length by omega] at this
  · rfl
theorem sw_end {zs : List Int} (hp : swP zs) {u v : ByteArray} (h : sws zs zs.length = some (u, v)) : swV zs = .tuple #[.string v, .bool true] := sw_some (u := u) (by simp [swO, hp, h])
theorem nsS_word {u v : ByteArray} {k : Int} (h : nsB u v k = true) : (nsS u v k).size ≤ 400 := by
  have h' : nsP u v k := by simpa [nsB] using h
  simp only [nsS, h', if_true]
  exact h'.2.2.2.1
set_option maxRecDepth 20000 in
set_option maxHeartbeats 1000000 in
theorem implStd_any (x : Option Addr) (n cap : Nat) (zs : List Int) (w : World) (h : RI w x n zs) :
    Calls Try.prog 39 #[.slice x n cap] w fun e w' => e = .returned (swV zs) ∧ Below w.heap.size w w' := by
  have hzl := h.1
  cases hin : inB (n : Int) 1 12
  · have hf := Lib.hid (sw_bad (zs := zs) (fun q => inB_false.1 hin (by have := q.1; omega)))
    go_enter Try.func39, Try.ntmps39
    go_wp2_with ((go_at_call 65; refine (within_any _ _ _ _).mono ?_; rintro e w1 ⟨rfl, rfl⟩))
    (refine bodyPost_ret (v := swV zs) (by rw [hf.out]; simp [results, Try.results39, go_sem, *]) rfl ⟨rfl, by (repeat (first | with_reducible exact Below.refl _ _ | assumption | with_reducible refine Qdrew ?_ | with_reducible refine QdrewN ?_ | ((with_reducible refine Qset ?_ ?_); exact (by ((try simp only [World.size_alloc, World.size_setCell, World.size_drew, size_drewN]); (try dsimp only); omega))) | ((with_reducible refine Qalloc ?_ ?_); exact (by ((try simp only [World.size_alloc, World.size_setCell, World.size_drew, size_drewN]); (try dsimp only); omega))) | refine Qtrans (by assumption) (by ((try simp only [World.size_alloc, World.size_setCell, World.size_drew, size_drewN]); (try dsimp only); omega)) ?_))⟩)
  have hi := inB_true.1 hin
  have hzl' := Lib.hid hzl
  clear hzl
  go_enter Try.func39, Try.ntmps39
  go_wp2_with ((go_at_call 65; refine (within_any _ _ _ _).mono ?_; rintro e w1 ⟨rfl, rfl⟩))
  go_loopw [18] (fun i wr => ∃ (k : Nat), k ≤ n ∧ i = .int .i64 k ∧ Hid (∀ j, j < k → okQ zs j) ∧ Below w.heap.size w wr) (fun i _ => n - (intOf i).toNat)
  case atStart => exact ⟨0, by omega, rfl, Lib.hid (fun _ h => absurd h (by omega)), Below.refl _ _⟩
  case round =>
    obtain ⟨k, hk, rfl, hok, hbel⟩ := hrel
    have hzb := hbel.size
    by_cases hlt : k < n
    · obtain ⟨b, off, rfl, hb, hc⟩ := rI_cell h (by omega)
      have hck := (hbel.cell (by exact hb)).trans (hc k hlt)
      have hbadk := Lib.hid (show ¬ okQ zs k → swV zs = .tuple #[.string ⟨#[]⟩, .bool false] from fun q => sw_bad (fun p => q (p.2 k (by have := hzl'.out; omega))))
      have hnx := Lib.hid (fun (q : okQ zs k) => (fun j (hj : j < k + 1) => by
        by_cases e : j = k
        · subst e; exact q
        · exact hok.out j (by omega) : ∀ j, j < k + 1 → okQ zs j))
      have hdef : Hid (okQ zs k ↔ inB (zs.getD k 0) (min (k : Int) 1) 100 = true) := by
        show _ ↔ _; rw [inB_true]; rfl
      obtain ⟨z, hz⟩ : ∃ z, zs.getD k 0 = z := ⟨_, rfl⟩
      rw [hz] at hck hdef
      have hk0 : (0 : Int) ≤ (k : Int) := by omega
      have hk1 : (k : Int) < (n : Int) := by omega
      clear hc hz h
      cases hin2 : inB z (min (k : Int) 1) 100
      · have hf := Lib.hid (hbadk.out (fun q => by rw [hdef.out, hin2] at q; cases q))
        clear hbadk hnx hdef
        go_wp2_with ((go_at_call 65; refine (within_any _ _ _ _).mono ?_; rintro e w1 ⟨rfl, rfl⟩))
        (refine bodyPost_ret (v := swV zs) (by rw [hf.out]; simp [results, Try.results39, go_sem, *]) rfl ⟨rfl, by (repeat (first | with_reducible exact Below.refl _ _ | assumption | with_reducible refine Qdrew ?_ | with_reducible refine QdrewN ?_ | ((with_reducible refine Qset ?_ ?_); exact (by ((try simp only [World.size_alloc, World.size_setCell, World.size_drew, size_drewN]); (try dsimp only); omega))) | ((with_reducible refine Qalloc ?_ ?_); exact (by ((try simp only [World.size_alloc, World.size_setCell, World.size_drew, size_drewN]); (try dsimp only); omega))) | refine Qtrans (by assumption) (by ((try simp only [World.size_alloc, World.size_setCell, World.size_drew, size_drewN]); (try dsimp only); omega)) ?_))⟩)
      · have hok2 := Lib.hid (hnx.out (hdef.out.2 hin2))
        clear hbadk hnx hdef
        go_wp2_with (first | (go_at_call 65; refine (within_any _ _ _ _).mono ?_; rintro e w1 ⟨rfl, rfl⟩))
        go_roundw
        case rel => exact ⟨k + 1, by omega, by go_num, hok2, by (repeat (first | with_reducible exact Below.refl _ _ | assumption | with_reducible refine Qdrew ?_ | with_reducible refine QdrewN ?_ | ((with_reducible refine Qset ?_ ?_); exact (by ((try simp only [World.size_alloc, World.size_setCell, World.size_drew, size_drewN]); (try dsimp only); omega))) | ((with_reducible refine Qalloc ?_ ?_); exact (by ((try simp only [World.size_alloc, World.size_setCell, World.size_drew, size_drewN]); (try dsimp only); omega))) | refine Qtrans (by assumption) (by ((try simp only [World.size_alloc, World.size_setCell, World.size_drew, size_drewN]); (try dsimp only); omega)) ?_))⟩
        case measure => (simp [intOf]) <;> omega
    · obtain rfl : k = n := by omega
      have hpp : swP zs := ⟨by have := hzl'.out; omega, by rw [hzl'.out]; exact hok.out⟩
      have hpp' := Lib.hid hpp
      have hk12 : k ≤ 12 := by omega
      clear hok hpp hin hi
      go_wp2
      go_loopw [6, 7, 8, 31] (fun u' v' o' i wr => ∃ (j : Nat) (u v : ByteArray), j ≤ k ∧ i = .int .i64 j ∧ u' = .string u ∧ v' = .string v ∧ o' = .bool true ∧ Hid (sws zs j = some (u, v)) ∧ u.size ≤ 400 ∧ v.size ≤ 400 ∧ Below w.heap.size w wr) (fun _ _ _ i _ => k - (intOf i).toNat)
      case atStart => exact ⟨0, _, _, by omega, rfl, rfl, rfl, rfl, Lib.hid rfl, by decide, by decide, by (repeat (first | with_reducible exact Below.refl _ _ | assumption | with_reducible refine Qdrew ?_ | with_reducible refine QdrewN ?_ | ((with_reducible refine Qset ?_ ?_); exact (by ((try simp only [World.size_alloc, World.size_setCell, World.size_drew, size_drewN]); (try dsimp only); omega))) | ((with_reducible refine Qalloc ?_ ?_); exact (by ((try simp only [World.size_alloc, World.size_setCell, World.size_drew, size_drewN]); (try dsimp only); omega))) | refine Qtrans (by assumption) (by ((try simp only [World.size_alloc, World.size_setCell, World.size_drew, size_drewN]); (try dsimp only); omega)) ?_))⟩
      case round =>
        clear hbel hzb
        obtain ⟨j, u, v, hj, rfl, rfl, rfl, rfl, hsw, hu4, hv4, hbel⟩ := hrel
        have hzb := hbel.size
        by_cases hlt2 : j < k
        · obtain ⟨b, off, rfl, hb, hc⟩ := rI_cell h (by omega)
          have hck := (hbel.cell (by exact hb)).trans (hc j hlt2)
          have hcut := Lib.hid (sw_cut (zs := zs) (k := j + 1) (by have := hzl'.out; omega))
          have hno := Lib.hid (sws_no hsw.out)
          have hyes := Lib.hid (sws_yes hsw.out)
          obtain ⟨z, hz⟩ : ∃ z, zs.getD j 0 = z := ⟨_, rfl⟩
          rw [hz] at hck hno hyes
          have hk0 : (0 : Int) ≤ (j : Int) := by omega
          have hk1 : (j : Int) < (k : Int) := by omega
          clear hc hz h
          have hns : ∀ w, Calls Try.prog 46 #[.string u, .string v, .int .i64 z] w fun e w' => e = .returned (.tuple #[.string (nsS u v z), .bool (nsB u v z)]) ∧ Below w.heap.size w w' := fun w => implNext_any u v z w (by omega) (by omega)
          cases hnb : nsB u v z
          · have hf := Lib.hid (hcut.out (hno.out hnb))
            go_wp2_with ((go_at_call 46; refine (hns _).mono ?_; rintro e w1 ⟨rfl, hb1⟩; have hz1 := hb1.size))
            (refine bodyPost_ret (v := swV zs) (by rw [hf.out]; simp [results, Try.results39, go_sem, *]) rfl ⟨rfl, by (repeat (first | with_reducible exact Below.refl _ _ | assumption | with_reducible refine Qdrew ?_ | with_reducible refine QdrewN ?_ | ((with_reducible refine Qset ?_ ?_); exact (by ((try simp only [World.size_alloc, World.size_setCell, World.size_drew, size_drewN]); (try dsimp only); omega))) | ((with_reducible refine Qalloc ?_ ?_); exact (by ((try simp only [World.size_alloc, World.size_setCell, World.size_drew, size_drewN]); (try dsimp only); omega))) | refine Qtrans (by assumption) (by ((try simp only [World.size_alloc, World.size_setCell, World.size_drew, size_drewN]); (try dsimp only); omega)) ?_))⟩)
          · have hsw2 := Lib.hid (hyes.out hnb)
            have h400 := nsS_word hnb
            obtain ⟨t, ht⟩ : ∃ t, nsS u v z = t := ⟨_, rfl⟩
            rw [ht] at hns hsw2 h400
            clear ht
            go_wp2_with ((go_at_call 46; refine (hns _).mono ?_; rintro e w1 ⟨rfl, hb1⟩; have hz1 := hb1.size))
            go_roundw
            case rel => exact ⟨j + 1, v, t, by omega, by go_num, rfl, rfl, rfl, hsw2, hv4, h400, by (repeat (first | with_reducible exact Below.refl _ _ | assumption | with_reducible refine Qdrew ?_ | with_reducible refine QdrewN ?_ | ((with_reducible refine Qset ?_ ?_); exact (by ((try simp only [World.size_alloc, World.size_setCell, World.size_drew, size_drewN]); (try dsimp only); omega))) | ((with_reducible refine Qalloc ?_ ?_); exact (by ((try simp only [World.size_alloc, World.size_setCell, World.size_drew, size_drewN]); (try dsimp only); omega))) | refine Qtrans (by assumption) (by ((try simp only [World.size_alloc, World.size_setCell, World.size_drew, size_drewN]); (try dsimp only); omega)) ?_))⟩
            case measure => (simp [intOf]) <;> omega
        · obtain rfl : j = k := by omega
          have hf : Hid (swV zs = .tuple #[.string v, .bool true]) := by
            refine sw_end (u := u) hpp'.out (by rw [hzl'.out]; exact hsw.out)
          go_wp2
          (refine bodyPost_ret (v := swV zs) (by rw [hf.out]; simp [results, Try.results39, go_sem, *]) rfl ⟨rfl, by (repeat (first | with_reducible exact Below.refl _ _ | assumption | with_reducible refine Qdrew ?_ | with_reducible refine QdrewN ?_ | ((with_reducible refine Qset ?_ ?_); exact (by ((try simp only [World.size_alloc, World.size_setCell, World.size_drew, size_drewN]); (try dsimp only); omega))) | ((with_reducible refine Qalloc ?_ ?_); exact (by ((try simp only [World.size_alloc, World.size_setCell, World.size_drew, size_drewN]); (try dsimp only); omega))) | refine Qtrans (by assumption) (by ((try simp only [World.size_alloc, World.size_setCell, World.size_drew, size_drewN]); (try dsimp only); omega)) ?_))⟩)
end Go.Proofs.Ytilbhingfnjppab
