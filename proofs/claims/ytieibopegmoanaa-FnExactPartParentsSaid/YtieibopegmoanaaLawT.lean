/- The walks of the laws' own functions that mark lists of strings. -/
import Derived.Test.YtieibopegmoanaaLawS
import Derived.Deep.RegionHeld3
set_option linter.unusedSimpArgs false
set_option linter.unusedVariables false
namespace Go.Proofs.Ytieibopegmoanaa
open Go.RowKit
/-- The decimal digits of a number, none for 0. -/
def dgs (k : Nat) : List UInt8 := if h : k = 0 then [] else dgs (k / 10) ++ [UInt8.ofNat (48 + k % 10)]
termination_by k
decreasing_by omega
theorem dgs_zero : dgs 0 = [] := by unfold dgs; simp
theorem dgs_pos {k : Nat} (h : k ≠ 0) : dgs k = dgs (k / 10) ++ [UInt8.ofNat (48 + k % 10)] := by rw [dgs.eq_1, dif_neg h]
def mt (k : Nat) : ByteArray := if k = 0 then ⟨#[109, 48]⟩ else ⟨(109 :: dgs k).toArray⟩
theorem dgs_len : ∀ k : Nat, (dgs k).length ≤ k := by
  intro k
  induction k using Nat.strongRecOn with
  | _ k ih =>
    by_cases h : k = 0
    · subst h; rw [dgs_zero]; simp
    · rw [dgs_pos h]; have := ih (k / 10) (by omega); simp; omega
theorem mt_size (k : Nat) : (mt k).size ≤ k + 2 := by
  unfold mt; split
  · simp [ByteArray.size]
  · have := dgs_len k; simp [ByteArray.size]; omega
theorem size_arr (l : List UInt8) : (⟨l.toArray⟩ : ByteArray).size = l.length := by simp [ByteArray.size]
theorem one_string (wr : World) (x : UInt8) :
    (convert 45 9 (.slice (some ⟨wr.heap.size, 0, none⟩) 1 1)).run Try.prog (wr.alloc (.cells #[.int .u8 (x.toNat : Int)] 5)) = .ok (.string ⟨#[x]⟩) (wr.alloc (.cells #[.int .u8 (x.toNat : Int)] 5)) :=
  run_convert_bytes_back _ 45 9 5 ⟨wr.heap.size, 0, none⟩ 1 [x] Try.underlying45 Try.underlying5 Try.underlying9 (fun j hj => by
    have : j = 0 := by simp at hj; omega
    subst this
    rw [Addr.add_lit, Nat.zero_add]
    simp [go_sem])
theorem front_run (x : UInt8) (l : List UInt8) (h : l.length ≤ 1000000000000) (w : World) : (Op.stringOp .add ⟨#[x]⟩ ⟨l.toArray⟩).run Try.prog w = .ok (.string ⟨(x :: l).toArray⟩) w := by
  have e : (⟨#[x]⟩ : ByteArray).size = 1 := rfl
  have e2 := size_arr l
  rw [run_string_add_sum w _ _ (by omega)]
  congr 2
  try (apply ByteArray.ext; simp)
set_option maxRecDepth 20000 in
set_option maxHeartbeats 1000000 in
theorem markText_any (k : Nat) (w : World) (hk : k ≤ 100000000) :
    Calls Try.prog 84 #[.int .i64 k] w fun e w' => e = .returned (.string (mt k)) ∧ Below w.heap.size w w' := by
  by_cases h0 : k = 0
  · subst h0
    go_enter Try.func84, Try.ntmps84
    go_wp2
    go_ret
    exact ⟨rfl, by (repeat (first | with_reducible exact Below.refl _ _ | assumption | with_reducible refine Qdrew ?_ | with_reducible refine QdrewN ?_ | ((with_reducible refine Qset ?_ ?_); exact (by ((try simp only [World.size_alloc, World.size_setCell, World.size_drew, size_drewN]); (try dsimp only); omega))) | ((with_reducible refine Qalloc ?_ ?_); exact (by ((try simp only [World.size_alloc, World.size_setCell, World.size_drew, size_drewN]); (try dsimp only); omega))) | refine Qtrans (by assumption) (by ((try simp only [World.size_alloc, World.size_setCell, World.size_drew, size_drewN]); (try dsimp only); omega)) ?_))⟩
  · have h0' : ¬ (k : Int) ≤ 0 := by omega
    have hmt : Hid (mt k = ⟨(109 :: dgs k).toArray⟩) := by show _ = _; simp [mt, h0]
    go_enter Try.func84, Try.ntmps84
    go_wp2
    go_loopw [0, 3] (fun kv o wr => ∃ (m : Nat) (acc : List UInt8), kv = .int .i64 m ∧ o = .string ⟨acc.toArray⟩ ∧ Hid (dgs k = dgs m ++ acc) ∧ acc.length + m ≤ k ∧ Below w.heap.size w wr) (fun kv _ _ => (intOf kv).toNat)
    case atStart => exact ⟨k, [], rfl, rfl, Lib.hid (by simp), by simp, Below.refl _ _⟩
    case round =>
      obtain ⟨m, acc, rfl, rfl, hd, hlen, hbel⟩ := hrel
      have hzb := hbel.size
      by_cases hm : m = 0
      · subst hm
        have hrun := front_run 109 acc (by omega)
        go_wp2
        go_ret
        have he := hd.out
        rw [dgs_zero, List.nil_append] at he
        exact ⟨by rw [hmt.out, he]; rfl, hbel⟩
      · have hm0 : (0 : Int) < (m : Int) := by omega
        obtain ⟨r, hr⟩ : ∃ r, m % 10 = r := ⟨_, rfl⟩
        obtain ⟨q, hq⟩ : ∃ q, m / 10 = q := ⟨_, rfl⟩
        have e1 : (m : Int).tmod 10 = (r : Int) := by rw [Int.tmod_eq_emod_of_nonneg (by omega)]; omega
        have e2 : (m : Int).tdiv 10 = (q : Int) := by rw [Int.tdiv_eq_ediv_of_nonneg (by omega)]; omega
        have e3 : IntKind.u8.wrap (48 + (r : Int)) = ((UInt8.ofNat (48 + r)).toNat : Int) := by
          have hr9 : r ≤ 9 := by omega
          have : (UInt8.ofNat (48 + r)).toNat = 48 + r := by simp; omega
          rw [this]; simp [IntKind.wrap, IntKind.bits, IntKind.signed]; omega
        have hs := dgs_pos hm
        rw [hr, hq] at hs
        have hs' := Lib.hid hs
        have hq' := Lib.hid (show q + 1 ≤ m by omega)
        have hr9 : r ≤ 9 := by omega
        clear hr hq hs
        obtain ⟨x, hx⟩ : ∃ x, UInt8.ofNat (48 + r) = x := ⟨_, rfl⟩
        rw [hx] at hs' e3
        have hcv := one_string wr x
        have hrun := front_run x acc (by omega)
        clear hx
        go_wp2
        have hq2 := hq'.out
        rw [IntWalk.wrap64_in (q : Int) (by omega)]
        go_roundw
        case rel => exact ⟨q, x :: acc, rfl, rfl, Lib.hid (by rw [hd.out, hs'.out]; simp), by simp; omega, by (repeat (first | with_reducible exact Below.refl _ _ | assumption | with_reducible refine Qdrew ?_ | with_reducible refine QdrewN ?_ | ((with_reducible refine Qset ?_ ?_); exact (by ((try simp only [World.size_alloc, World.size_setCell, World.size_drew, size_drewN]); (try dsimp only); omega))) | ((with_reducible refine Qalloc ?_ ?_); exact (by ((try simp only [World.size_alloc, World.size_setCell, World.size_drew, size_drewN]); (try dsimp only); omega))) | refine Qtrans (by assumption) (by ((try simp only [World.size_alloc, World.size_setCell, World.size_drew, size_drewN]); (try dsimp only); omega)) ?_))⟩
        case measure => (simp [intOf]) <;> omega
/-- The marks from k on. -/
def mk (k n : Nat) : List ByteArray := (List.range n).map (fun j => mt (k + j))
theorem mk_len (k n : Nat) : (mk k n).length = n := by simp [mk]
theorem mk_at (k n j : Nat) (h : j < n) : (mk k n).getD j ByteArray.empty = mt (k + j) := by simp [mk, List.getD_eq_getElem?_getD, h]
theorem mk_small (k n : Nat) (h : k + n ≤ 100000000) : ∀ z ∈ mk k n, z.size ≤ maxLen := by
  intro z hz
  obtain ⟨i, hi, rfl⟩ := List.mem_map.1 hz
  have h1 := mt_size (k + i)
  have h2 : i < n := by simpa using hi
  unfold maxLen; omega
theorem grown_trans {a b c : World} {r : Option Nat} (h1 : a.grownBy b r) (h2 : b.grownBy c r) : a.grownBy c r :=
  ⟨h2.os.trans h1.os, h2.tape.trans h1.tape, h2.output.trans h1.output, Nat.le_trans h1.size h2.size, fun k hk hne => (h2.block k (Nat.lt_of_lt_of_le hk h1.size) hne).trans (h1.block k hk hne)⟩
theorem grown_below {a b : World} {r : Option Nat} (h : Below a.heap.size a b) : a.grownBy b r := ⟨h.os, h.tape, h.output, h.size, fun k hk _ => h.block k hk⟩
theorem mark_set (zs : List ByteArray) (k j n : Nat) (hz : zs.length = n) (h : j < n) : (mk k j ++ zs.drop j).set j (mt (k + j)) = mk k (j + 1) ++ zs.drop (j + 1) := by
  rw [List.set_append_right _ _ (by rw [mk_len]; exact Nat.le_refl _), mk_len, Nat.sub_self, List.drop_eq_getElem_cons (by omega), List.set_cons_zero]
  simp [mk, List.range_succ]
set_option maxHeartbeats 1000000 in
theorem markStringS_any (x : Option Addr) (n cap k B : Nat) (zs : List ByteArray) (w : World) (h : w.ownsRow B 9 1 (.slice x n cap) n (sv zs)) (hk : k + n ≤ 100000000) :
    Calls Try.prog 55 #[.slice x n cap, .int .i64 k] w fun e w' => e = .returned (.int .i64 ((k : Int) + n)) ∧ w'.ownsRow B 9 1 (.slice x n cap) n (sv (mk k n)) ∧ w.grownBy w' (Value.slice x n cap).ownBlock := by
  have hzl : zs.length = n := by have := h.1; simp [sv] at this; exact this
  go_enter Try.func55, Try.ntmps55
  go_wp2
  go_loopw [1, 5] (fun kv i wr => ∃ j : Nat, j ≤ n ∧ i = .int .i64 j ∧ kv = .int .i64 ((k : Int) + j) ∧ wr.ownsRow B 9 1 (.slice x n cap) n (sv (mk k j ++ zs.drop j)) ∧ w.grownBy wr (Value.slice x n cap).ownBlock) (fun _ i _ => n - (intOf i).toNat)
  case atStart => exact ⟨0, by omega, rfl, by simp, by simpa [mk] using h, World.grownBy.refl _ _⟩
  case round =>
    clear h
    obtain ⟨j, hj, rfl, rfl, hown, hg⟩ := hrel
    by_cases hlt : j < n
    · obtain ⟨g, c, e, _, hgl⟩ := World.ownsRow.form hown (by omega)
      cases e
      have hms := mark_set zs k j n hzl hlt
      have hms' := Lib.hid hms
      have hzl' := Lib.hid hzl
      clear hms hzl
      have hj0 : (0 : Int) ≤ (j : Int) := by omega
      have hj1 : (j : Int) < (n : Int) := by omega
      go_wp2_with (go_at_call 84; refine (show Calls Try.prog 84 #[.int .i64 ((k : Int) + (j : Int))] _ fun e w' => e = .returned (.string (mt (k + j))) ∧ Below wr.heap.size wr w' from markText_any (k + j) wr (by omega)).mono ?_; rintro e w1 ⟨rfl, hb1⟩; have hown1 := own_below hown hb1; have hfz := hown1.frozenAt; have hcl := own_cell hown1 j hlt; rw [sv_at _ _ (by rw [List.length_append, mk_len, List.length_drop, hzl'.out]; omega)] at hcl)
      go_roundw
      case rel => exact ⟨j + 1, by omega, by go_num, by go_num, by rw [← hms'.out, ← sv_set]; exact (hown1.stored j _).1, grown_trans (grown_trans hg (grown_below hb1)) (hown1.stored j _).2⟩
      case measure => (simp [intOf]) <;> omega
    · obtain rfl : n = j := by omega
      have ht : mk k n ++ zs.drop n = mk k n := by rw [List.drop_eq_nil_of_le (by omega)]; simp
      rw [ht] at hown
      go_wp2
      go_ret
      exact ⟨rfl, hown, hg⟩
set_option maxHeartbeats 1000000 in
theorem heldStringS_any (x : Option Addr) (n cap k : Nat) (w : World) (h : IsStrs w x n cap (mk k n)) (hk : k + n ≤ 100000000) :
    Calls Try.prog 56 #[.slice x n cap, .int .i64 k] w fun e w' => e = .returned (.int .i64 ((k : Int) + n)) ∧ Below w.heap.size w w' := by
  go_enter Try.func56, Try.ntmps56
  go_wp2
  go_loopw [1, 5] (fun kv i wr => ∃ j : Nat, j ≤ n ∧ i = .int .i64 j ∧ kv = .int .i64 ((k : Int) + j) ∧ Below w.heap.size w wr) (fun _ i _ => n - (intOf i).toNat)
  case atStart => exact ⟨0, by omega, rfl, by simp, Below.refl _ _⟩
  case round =>
    obtain ⟨j, hj, rfl, rfl, hbel⟩ := hrel
    by_cases hlt : j < n
    · obtain ⟨b, off, rfl, hb, hc⟩ := isStrs_cell h (by omega)
      have hck := (hbel.cell (by exact hb)).trans (hc j hlt)
      have hbz := hbel.size
      rw [mk_at _ _ _ hlt] at hck
      have hj0 : (0 : Int) ≤ (j : Int) := by omega
      have hj1 : (j : Int) < (n : Int) := by omega
      clear hc
      go_wp2_with fail
      have hbw : b < wr.heap.size := by omega
      go_region_held3 (fun wx => (∀ bk ofs, bk < wr.heap.size → wx.cell? ⟨bk, ofs, none⟩ = (wr).cell? ⟨bk, ofs, none⟩) ∧ Below (wr.heap.size) (wr) wx) ((refine stays ?_; ((repeat (first | with_reducible exact Below.refl _ _ | assumption | with_reducible refine Qdrew ?_ | with_reducible refine QdrewN ?_ | ((with_reducible refine Qset ?_ ?_); exact (by ((try simp only [World.size_alloc, World.size_setCell, World.size_drew, size_drewN]); (try dsimp only); omega))) | ((with_reducible refine Qalloc ?_ ?_); exact (by ((try simp only [World.size_alloc, World.size_setCell, World.size_drew, size_drewN]); (try dsimp only); omega))) | refine Qtrans (by assumption) (by ((try simp only [World.size_alloc, World.size_setCell, World.size_drew, size_drewN]); (try dsimp only); omega)) ?_)) <;> (go_split_ands; assumption)))) ((go_at_call 84; refine (show Calls Try.prog 84 #[.int .i64 ((k : Int) + (j : Int))] _ fun e w' => e = .returned (.string (mt (k + j))) ∧ Below _ _ w' from markText_any (k + j) _ (by omega)).mono ?_; rintro e w1 ⟨rfl, hb1⟩; obtain ⟨hc1, hf1⟩ := bcell hb1; have hl1 := ltW hb1))
      all_goals
        go_wp2
        go_roundw
        case rel => exact ⟨j + 1, by omega, by go_num, by go_num, by (repeat (first | with_reducible exact Below.refl _ _ | assumption | with_reducible refine Qdrew ?_ | with_reducible refine QdrewN ?_ | ((with_reducible refine Qset ?_ ?_); exact (by ((try simp only [World.size_alloc, World.size_setCell, World.size_drew, size_drewN]); (try dsimp only); omega))) | ((with_reducible refine Qalloc ?_ ?_); exact (by ((try simp only [World.size_alloc, World.size_setCell, World.size_drew, size_drewN]); (try dsimp only); omega))) | refine Qtrans (by assumption) (by ((try simp only [World.size_alloc, World.size_setCell, World.size_drew, size_drewN]); (try dsimp only); omega)) ?_))⟩
        case measure => (simp [intOf]) <;> omega
    · obtain rfl : n = j := by omega
      go_wp2
      go_ret
      exact ⟨rfl, hbel⟩
end Go.Proofs.Ytieibopegmoanaa
