/- Numerals: how many zeros a numeral ends in; the law. -/
import Derived.Test.YtilbhingfnjppaaDoorSumsE
set_option linter.unusedSimpArgs false
set_option linter.unusedVariables false
namespace Go.Proofs.YtilbhingfnjppaaDoor
open Go.RowKit
/-- How many zeros end the first m bytes. -/
def tzr (s : ByteArray) : Nat → Nat
  | 0 => 0
  | m + 1 => if bt s m = 48 then tzr s m + 1 else 0
theorem tzr_yes {s : ByteArray} {m : Nat} (h : bt s m = 48) : tzr s (m + 1) = tzr s m + 1 := by simp [tzr, h]
theorem tzr_no {s : ByteArray} {m : Nat} (h : ¬ bt s m = 48) : tzr s (m + 1) = 0 := by simp [tzr, h]
theorem tzr_le (s : ByteArray) : ∀ m, tzr s m ≤ m
  | 0 => by simp [tzr]
  | m + 1 => by
    by_cases h : bt s m = 48
    · rw [tzr_yes h]; have := tzr_le s m; omega
    · rw [tzr_no h]; omega
theorem gr_ne : ∀ (k : Nat) (n : Int), 1 ≤ n → n < wt k → gr k n [] ≠ []
  | 0, n, h, h2 => by rw [wt0] at h2; omega
  | k + 1, n, h, h2 => by
    by_cases hle : wt k ≤ n
    · rw [gr_yes hle]
      intro e
      have := gr_len k (n - wt k) ([] ++ [49]) (by simp)
      rw [e] at this
      simp at this
    · rw [gr_nil hle]
      exact gr_ne k n h (by omega)
/-- A numeral of a number from 1 on: not empty, its first byte is a one. -/
theorem num_first {n : Int} (h1 : 1 ≤ n) (h2 : n < wt 60) : 0 < (num n).size ∧ bt (num n) 0 = 49 := by
  have hne := gr_ne 60 n h1 h2
  have hg := gr_gd 60 n [] gd_nil (by omega) h2 (fun h => absurd rfl h)
  have hp : 0 < (gr 60 n []).length := List.length_pos_iff.2 hne
  refine ⟨by simpa [num, ByteArray.size] using hp, ?_⟩
  rw [num, bt_list _ 0 hp, hg.2.2 hp]
  rfl
noncomputable def en (n : Int) : Int := if inB n 1 1000000000000 then ((tzr (num n) (num n).size : Nat) : Int) else -1
theorem bt_ext {s : ByteArray} {m j : Nat} (hm : m ≤ s.size) (hj : j < m) : bt (s.extract 0 m) j = bt s j := by
  have h1 : j < (s.extract 0 m).size := by simp; omega
  unfold bt
  rw [dif_pos h1, dif_pos (by omega)]
  simp [ByteArray.getElem_extract]
theorem ext_ext {s : ByteArray} {m k : Nat} (h : k ≤ m) : (s.extract 0 m).extract 0 k = s.extract 0 k := by
  apply ByteArray.ext
  simp [ByteArray.data_extract, Array.extract_extract]
  congr 1; omega
set_option maxRecDepth 20000 in
set_option maxHeartbeats 1000000 in
theorem trimByte_any (s : ByteArray) (w : World) (hs : s.size ≤ 1000) :
    Calls Tryd.prog 87 #[.string s, .int .u8 48] w fun e w' => e = .returned (.string (s.extract 0 (s.size - tzr s s.size))) ∧ w = w' := by
  have h0 : s.extract 0 s.size = s := by apply ByteArray.ext; simp
  go_enter Tryd.func87, Tryd.ntmps87
  go_wp2
  go_loopw [0] (fun v wr => ∃ m : Nat, m ≤ s.size ∧ v = .string (s.extract 0 m) ∧ Hid (m - tzr s m = s.size - tzr s s.size) ∧ w = wr) (fun v _ => match v with | .string x => x.size | _ => 0)
  case atStart => exact ⟨s.size, Nat.le_refl _, by rw [h0], Lib.hid rfl, by first | rfl | trivial⟩
  case round =>
    obtain ⟨m, hm, rfl, heq, rfl⟩ := hrel
    have hsz : (s.extract 0 m).size = m := by simp; omega
    have hbe := Lib.hid (fun j (hj : j < m) => bt_ext hm hj)
    have hee := Lib.hid (fun k (hk : k ≤ m) => ext_ext (s := s) hk)
    obtain ⟨v, hv⟩ : ∃ v, s.extract 0 m = v := ⟨_, rfl⟩
    rw [hv] at hsz hbe hee
    have hb : ∀ j (h : j < v.size), ((v[j]'h).toNat : Int) = bt v j := fun j h => bt_eq v j h
    have hv' := Lib.hid hv
    rw [hv]
    clear hv h0
    cases m with
    | zero =>
      have hs0 : ¬ (0 : Int) < (v.size : Int) := by omega
      go_wp2
      go_ret
      exact ⟨by rw [← hv'.out, ← heq.out]; simp, rfl⟩
    | succ q =>
      have hs0 : (0 : Int) < (v.size : Int) := by omega
      have hs1 : (v.size : Int) - 1 = (q : Int) := by omega
      have hq0 : (0 : Int) ≤ (q : Int) := by omega
      have hq1 : (q : Int) < (v.size : Int) := by omega
      have hqv : q < v.size := by omega
      have hqe : q ≤ v.size := by omega
      have hbq := hbe.out q (by omega)
      have i8 : IntKind.i64.wrap (q : Int) = (q : Int) := IntWalk.i64_in _ (by omega)
      by_cases h48 : bt s q = 48
      · rw [h48] at hbq
        go_wp2
        exact ⟨⟨q, by omega, by rw [hee.out q (by omega)], Lib.hid (by rw [← heq.out, tzr_yes h48]; omega), trivial⟩, by simp; omega⟩
      · have h48' : ¬ bt v q = 48 := by rw [hbq]; exact h48
        have hz := Lib.hid (tzr_no h48)
        go_wp2
        go_ret
        exact ⟨by rw [← hv'.out, ← heq.out, hz.out]; rfl, rfl⟩
set_option maxRecDepth 20000 in
theorem trimRight_any (s : ByteArray) (w : World) (hs : s.size ≤ 1000) (h0 : 0 < s.size) :
    Calls Tryd.prog 52 #[.string s, .string ⟨#[48]⟩] w fun e w' => e = .returned (.string (s.extract 0 (s.size - tzr s s.size))) ∧ w = w' := by
  have hl : s.toList ≠ [] := fun e => by
    have : s.size = 0 := by
      have h := congrArg List.length e
      rw [ByteArray.toList_eq] at h; simpa using h
    omega
  have hne : (s.toList == (⟨#[]⟩ : ByteArray).toList) = false := by rw [ByteArray.toList_eq ⟨#[]⟩]; simpa using hl
  have hne2 : (s.toList == []) = false := by simpa using hl
  go_enter Tryd.func52, Tryd.ntmps52
  go_wp2_with (go_at_call 87; refine (trimByte_any s w hs).mono ?_; rintro e w1 ⟨rfl, rfl⟩)
  go_ret
  exact ⟨rfl, rfl⟩
set_option maxRecDepth 20000 in
set_option maxHeartbeats 1000000 in
theorem implEnding_any (n : Int) (w : World) :
    Calls Tryd.prog 8 #[.int .i64 n] w fun e w' => e = .returned (.int .i64 (en n)) ∧ Below w.heap.size w w' := by
  have hI := fun w => within_any n 1 1000000000000 w
  cases hN : inB n 1 1000000000000
  · have he : Hid (en n = -1) := by show _ = _; simp [en, hN]
    rw [hN] at hI
    go_enter Tryd.func8, Tryd.ntmps8
    go_wp2_with (go_at_call 50; refine (hI _).mono ?_; rintro e w1 ⟨rfl, rfl⟩)
    go_ret
    exact ⟨by rw [he.out]; rfl, by (repeat (first | with_reducible exact Below.refl _ _ | assumption | with_reducible refine Qdrew ?_ | with_reducible refine QdrewN ?_ | ((with_reducible refine Qset ?_ ?_); exact (by ((try simp only [World.size_alloc, World.size_setCell, World.size_drew, size_drewN]); (try dsimp only); omega))) | ((with_reducible refine Qalloc ?_ ?_); exact (by ((try simp only [World.size_alloc, World.size_setCell, World.size_drew, size_drewN]); (try dsimp only); omega))) | refine Qtrans (by assumption) (by ((try simp only [World.size_alloc, World.size_setCell, World.size_drew, size_drewN]); (try dsimp only); omega)) ?_))⟩
  · have hb := inB_true.1 hN
    have he : Hid (en n = ((tzr (num n) (num n).size : Nat) : Int)) := by show _ = _; simp [en, hN]
    have h60 : n < wt 60 := by rw [wt60]; omega
    obtain ⟨hp, _⟩ := num_first hb.1 h60
    have hsz := num_size n
    have hM := fun w => implNumeral_lo n w ⟨by omega, by rw [← wt60]; exact h60⟩
    have hT := fun w => trimRight_any (num n) w (by omega) hp
    have htz := tzr_le (num n) (num n).size
    rw [hN] at hI
    obtain ⟨s, hs⟩ : ∃ s, num n = s := ⟨_, rfl⟩
    rw [hs] at hM hT hp hsz he htz
    obtain ⟨z, hz⟩ : ∃ z, tzr s s.size = z := ⟨_, rfl⟩
    rw [hz] at hT he htz
    have hxs : (s.extract 0 (s.size - z)).size = s.size - z := by simp
    have hres : (s.size : Int) - ((s.size - z : Nat) : Int) = (z : Int) := by omega
    have hi : IntKind.i64.wrap (z : Int) = (z : Int) := IntWalk.i64_in _ (by omega)
    clear hs hz
    go_enter Tryd.func8, Tryd.ntmps8
    go_wp2_with (first | (go_at_call 50; refine (hI _).mono ?_; rintro e w1 ⟨rfl, rfl⟩) | (go_at_call 51; refine (hM _).mono ?_; rintro e w1 ⟨rfl, hb1⟩; have hz1 := hb1.size) | (go_at_call 52; refine (hT _).mono ?_; rintro e w1 ⟨rfl, rfl⟩))
    go_ret
    exact ⟨by rw [he.out]; rfl, hb1⟩
set_option maxRecDepth 20000 in
set_option maxHeartbeats 1000000 in
theorem specEnding_any (n : Int) (w : World) :
    Calls Tryd.prog 7 #[.int .i64 n] w fun e w' => e = .returned (.int .i64 (en n)) ∧ Below w.heap.size w w' := by
  have hI := fun w => l01In_any n 1 1000000000000 w
  cases hN : inB n 1 1000000000000
  · have he : Hid (en n = -1) := by show _ = _; simp [en, hN]
    rw [hN] at hI
    go_enter Tryd.func7, Tryd.ntmps7
    go_wp2_with (first | (go_at_call 48; refine (l13Most_any _).mono ?_; rintro e w1 ⟨rfl, rfl⟩) | (go_at_call 47; refine (hI _).mono ?_; rintro e w1 ⟨rfl, rfl⟩))
    go_ret
    exact ⟨by rw [he.out]; rfl, by (repeat (first | with_reducible exact Below.refl _ _ | assumption | with_reducible refine Qdrew ?_ | with_reducible refine QdrewN ?_ | ((with_reducible refine Qset ?_ ?_); exact (by ((try simp only [World.size_alloc, World.size_setCell, World.size_drew, size_drewN]); (try dsimp only); omega))) | ((with_reducible refine Qalloc ?_ ?_); exact (by ((try simp only [World.size_alloc, World.size_setCell, World.size_drew, size_drewN]); (try dsimp only); omega))) | refine Qtrans (by assumption) (by ((try simp only [World.size_alloc, World.size_setCell, World.size_drew, size_drewN]); (try dsimp only); omega)) ?_))⟩
  · have hb := inB_true.1 hN
    have he : Hid (en n = ((tzr (num n) (num n).size : Nat) : Int)) := by show _ = _; simp [en, hN]
    have h60 : n < wt 60 := by rw [wt60]; omega
    obtain ⟨hp, h49⟩ := num_first hb.1 h60
    have hsz := num_size n
    have hM := fun w => specNumeral_n n w (by omega)
    rw [hN] at hI
    obtain ⟨s, hs⟩ : ∃ s, num n = s := ⟨_, rfl⟩
    rw [hs] at hM hp hsz he h49
    have hbb : ∀ j (h : j < s.size), ((s[j]'h).toNat : Int) = bt s j := fun j h => bt_eq s j h
    clear hs
    go_enter Tryd.func7, Tryd.ntmps7
    go_wp2_with (first | (go_at_call 48; refine (l13Most_any _).mono ?_; rintro e w1 ⟨rfl, rfl⟩) | (go_at_call 47; refine (hI _).mono ?_; rintro e w1 ⟨rfl, rfl⟩) | (go_at_call 49; refine (hM _).mono ?_; rintro e w1 ⟨rfl, hb1⟩; have hz1 := hb1.size))
    go_loopw [4] (fun k wr => ∃ j : Nat, j < s.size ∧ k = .int .i64 j ∧ Hid (tzr s s.size = tzr s (s.size - j) + j) ∧ w1 = wr) (fun k _ => s.size - (intOf k).toNat)
    case atStart => exact ⟨0, hp, rfl, Lib.hid rfl, by first | rfl | trivial⟩
    case round =>
      obtain ⟨j, hj, rfl, heq, rfl⟩ := hrel
      obtain ⟨q, hq⟩ : ∃ q, s.size = q + 1 + j := ⟨s.size - 1 - j, by omega⟩
      have e1 : (s.size : Int) - 1 - (j : Int) = (q : Int) := by omega
      have hq0 : (0 : Int) ≤ (q : Int) := by omega
      have hq1 : (q : Int) < (s.size : Int) := by omega
      have hqs : q < s.size := by omega
      have e2 : Hid (s.size - j = q + 1) := by show _ = _; omega
      have hq' := Lib.hid hq
      clear hq
      by_cases h48 : bt s q = 48
      · have hqp : q ≠ 0 := by rintro rfl; omega
        go_wp2
        exact ⟨⟨j + 1, by have := hq'.out; omega, by go_num, Lib.hid (by rw [heq.out, e2.out, tzr_yes h48]; have := hq'.out; rw [show s.size - (j + 1) = q by omega]; omega), trivial⟩, by simp [intOf]; omega⟩
      · have hz := Lib.hid (tzr_no h48)
        go_wp2
        go_ret
        exact ⟨by rw [he.out, heq.out, e2.out, hz.out]; simp, hb1⟩
theorem EndingOf_law (n : Int) (hn : -9223372036854775808 ≤ n ∧ n ≤ 9223372036854775807) (w : World) :
    Calls Tryd.prog 3 #[.int .i64 n] w fun e w' => e = .returned (.bool true) ∧ Below w.heap.size w w' := by
  have h1 := fun w => specEnding_any n w
  have h2 := fun w => implEnding_any n w
  go_enter Tryd.func3, Tryd.ntmps3
  go_wp2_with (first | (go_at_call 7; refine (h1 _).mono ?_; rintro e w1 ⟨rfl, hb1⟩; have hz1 := hb1.size) | (go_at_call 8; refine (h2 _).mono ?_; rintro e w2 ⟨rfl, hb2⟩))
  go_ret
  exact ⟨rfl, Qtrans hb2 hz1 hb1⟩
end Go.Proofs.YtilbhingfnjppaaDoor
