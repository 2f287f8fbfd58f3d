/- Turned words, tests on letters, common divisors, periods. -/
import Derived.Test.YtilbhingfnjppabWordsA
import Derived.Test.YtilbhingfnjppabAutosShelf2
set_option linter.unusedSimpArgs false
set_option linter.unusedVariables false
namespace Go.Proofs.Ytilbhingfnjppab
open Go.RowKit
theorem vi64 {a b : Int} (h : a = b) : Value.int .i64 a = .int .i64 b := by rw [h]
def byteAt (s : ByteArray) (j : Nat) : UInt8 := s.data.toList.getD j 0
theorem byteAt_eq (s : ByteArray) (j : Nat) (h : j < s.size) : ((s[j]'h).toNat : Int) = ((byteAt s j).toNat : Int) := by
  have e : byteAt s j = s[j]'h := by
    unfold byteAt
    have h' : j < s.data.toList.length := by simpa using h
    rw [List.getD_eq_getElem?_getD, List.getElem?_eq_getElem h']
    rfl
  rw [e]
theorem byteAt_bt (s : ByteArray) (j : Nat) (h : j < s.size) : bt s j = ((byteAt s j).toNat : Int) := by rw [← byteAt_eq s j h, bt_eq]
def revL (s : ByteArray) (k : Nat) : List UInt8 := (List.range k).map (fun j => byteAt s (s.size - 1 - j))
theorem revL_len (s : ByteArray) (k : Nat) : (revL s k).length = k := by simp [revL]
theorem revL_succ (s : ByteArray) (k : Nat) : revL s (k + 1) = revL s k ++ [byteAt s (s.size - 1 - k)] := by simp [revL, List.range_succ]
theorem revL_at (s : ByteArray) (k j : Nat) (h : j < k) : (revL s k).getD j 0 = byteAt s (s.size - 1 - j) := by simp [revL, List.getD_eq_getElem?_getD, h]
def rev (s : ByteArray) : ByteArray := ⟨(revL s s.size).toArray⟩
theorem bv_at' (l : List UInt8) (j : Nat) (h : j < l.length) : (bv l)[j]? = some (.int .u8 ((l.getD j 0).toNat : Int)) := by simp [bv, h, List.getD_eq_getElem?_getD]
theorem bv_set (l : List UInt8) (j : Nat) (z : UInt8) : (bv l).set j (.int .u8 (z.toNat : Int)) = bv (l.set j z) := by simp [bv, List.map_set]
theorem bv_zeros (n : Nat) : (madeCells #[Value.int .u8 0] (n * 1)).toList = bv (List.replicate n 0) := by rw [toList_madeCells_one]; simp [bv]
set_option maxRecDepth 20000 in
set_option maxHeartbeats 1000000 in
theorem turned_any (s : ByteArray) (w : World) (hs : s.size ≤ 400) :
    Calls Try.prog 108 #[.string s] w fun e w' => e = .returned (.string (rev s)) ∧ Below w.heap.size w w' := by
  obtain ⟨i0, hi0, hz0, hz1, hz2⟩ := info_parts infoB
  have hb : ∀ j (h : j < s.size), ((s[j]'h).toNat : Int) = ((byteAt s j).toNat : Int) := byteAt_eq s
  go_enter Try.func108, Try.ntmps108
  go_wp2_with (at_make; refine wpList_make_full _ rfl _ _ 22 rfl w.heap.size 5 i0 _ 1 Try.underlying22 hi0 hz0 hz1 .i64 .i64 _ _ s.size (by rfl) (by rfl) (by omega) (by omega) (by rw [hz2]; omega) (by unfold maxLen; omega) (by omega) ?_; intro wM hownM hgM)
  have hbM : Below w.heap.size w wM := (Below.refl _ w).grown hgM (by omega) (by simp)
  have hini : (madeCells (Value.int .u8 0).cells (s.size * 1)).toList = bv (List.replicate s.size 0) := by
    show (madeCells #[Value.int .u8 0] (s.size * 1)).toList = _
    rw [bv_zeros]
  rw [hini] at hownM
  go_loopw [10] (fun i wr => ∃ (k : Nat) (L : List UInt8), k ≤ s.size ∧ i = .int .i64 k ∧ L.length = s.size ∧ Hid (∀ j, j < s.size → s.size - k ≤ j → L.getD j 0 = byteAt s (s.size - 1 - j)) ∧ wr.ownsRow w.heap.size 5 1 (.slice (some ⟨w.heap.size, 0, none⟩) s.size s.size) s.size (bv L) ∧ Below w.heap.size w wr) (fun i _ => s.size - (intOf i).toNat)
  case atStart => exact ⟨0, List.replicate s.size 0, by omega, rfl, by simp, Lib.hid (fun j h1 h2 => by omega), hownM, hbM⟩
  case round =>
    clear hownM hbM hini
    obtain ⟨k, L, hk, rfl, hLl, hL, hown, hbel⟩ := hrel
    by_cases hlt : k < s.size
    · obtain ⟨m, hm⟩ : ∃ m : Nat, s.size - 1 - k = m := ⟨_, rfl⟩
      have hsl := own_cell hown m (by omega)
      rw [bv_at' _ _ (by omega)] at hsl
      obtain ⟨u, hu⟩ : ∃ u, L.getD m 0 = u := ⟨_, rfl⟩
      rw [hu] at hsl
      have hfz := hown.frozenAt
      have hmi : (s.size : Int) - 1 - k = (m : Int) := by omega
      have hm0 : (0 : Int) ≤ (m : Int) := by omega
      have hm1 : (m : Int) < (s.size : Int) := by omega
      have hk0 : (0 : Int) ≤ (k : Int) := by omega
      have hk1 : (k : Int) < (s.size : Int) := by omega
      obtain ⟨x, hx⟩ : ∃ x, byteAt s k = x := ⟨_, rfl⟩
      have hbm := hb k hlt
      rw [hx] at hbm
      have hL' := Lib.hid (show ∀ j, j < s.size → s.size - (k + 1) ≤ j → (L.set m x).getD j 0 = byteAt s (s.size - 1 - j) from fun j h1 h2 => by
        by_cases e : j = m
        · subst e
          rw [show s.size - 1 - j = k by omega, hx]
          simp [List.getD_eq_getElem?_getD, List.getElem?_set, hLl, h1]
        · have := hL.out j h1 (by omega)
          rw [← this]
          simp only [List.getD_eq_getElem?_getD, List.getElem?_set]
          rw [if_neg (fun q => e q.symm)])
      have hst := Lib.hid (bv_set L m x)
      clear hx hm hu hb
      go_wp2
      go_roundw
      case rel => exact ⟨k + 1, L.set m x, by omega, by go_num, by simp [hLl], hL', by rw [← hst.out]; exact (hown.stored m _).1, hbel.setCell (by simp) _⟩
      case measure => (simp [intOf]) <;> omega
    · obtain rfl : k = s.size := by omega
      have hLe : L = revL s s.size := by
        apply List.ext_getElem (by rw [hLl, revL_len])
        intro j h1 h2
        have q1 := hL.out j (by omega) (by omega)
        have q2 := revL_at s s.size j (by omega)
        rw [List.getD_eq_getElem?_getD, List.getElem?_eq_getElem h1, Option.getD_some] at q1
        rw [List.getD_eq_getElem?_getD, List.getElem?_eq_getElem h2, Option.getD_some] at q2
        rw [q1, q2]
      have hown' : wr.ownsRow w.heap.size 5 1 (.slice (some ⟨w.heap.size, 0, none⟩) L.length s.size) L.length (bv L) := by rw [hLl]; exact hown
      have hcv := own_string hown'
      rw [hLl] at hcv
      go_wp2
      go_ret
      exact ⟨rfl, hbel⟩
/-- A palindrome. -/
def palB (s : ByteArray) : Bool := s.toList == (rev s).toList
set_option maxRecDepth 20000 in
set_option maxHeartbeats 1000000 in
theorem isTurned_any (s : ByteArray) (w : World) (hs : s.size ≤ 400) :
    Calls Try.prog 83 #[.string s] w fun e w' => e = .returned (.bool (palB s)) ∧ Below w.heap.size w w' := by
  go_enter Try.func83, Try.ntmps83
  go_wp2_with ((go_at_call 108; refine (turned_any s _ hs).mono ?_; rintro e w1 ⟨rfl, hb1⟩; have hz1 := hb1.size))
  go_ret
  exact ⟨rfl, by (repeat (first | with_reducible exact Below.refl _ _ | assumption | with_reducible refine Qdrew ?_ | with_reducible refine QdrewN ?_ | ((with_reducible refine Qset ?_ ?_); exact (by ((try simp only [World.size_alloc, World.size_setCell, World.size_drew, size_drewN]); (try dsimp only); omega))) | ((with_reducible refine Qalloc ?_ ?_); exact (by ((try simp only [World.size_alloc, World.size_setCell, World.size_drew, size_drewN]); (try dsimp only); omega))) | refine Qtrans (by assumption) (by ((try simp only [World.size_alloc, World.size_setCell, World.size_drew, size_drewN]); (try dsimp only); omega)) ?_))⟩
/-- Words of two letters. -/
noncomputable def binB (s : ByteArray) : Bool := isWB s && wiB 2 s
set_option maxRecDepth 20000 in
set_option maxHeartbeats 1000000 in
theorem specBin_any (s : ByteArray) (w : World) (hs : s.size ≤ 9223372036854775807) :
    Calls Try.prog 89 #[.string s] w fun e w' => e = .returned (.bool (binB s)) ∧ w = w' := by
  cases hW : isWB s
  · have hf : Hid (binB s = false) := by show _ = _; simp [binB, hW]
    go_enter Try.func89, Try.ntmps89
    go_wp2_with ((go_at_call 116; refine (specWordOk_any _ _ hs).mono ?_; rintro e w1 ⟨rfl, rfl⟩))
    go_ret
    exact ⟨by rw [hf.out]; rfl, rfl⟩
  · have hf : Hid (binB s = wiB 2 s) := by show _ = _; simp [binB, hW]
    have hw := isW_of hW
    have hl3 : ∀ w, Calls Try.prog 117 #[.int .i64 2, .string s] w fun e w' => e = .returned (.bool (wiB 2 s)) ∧ w = w' := fun w => l03Within_any 2 s w hw (by decide)
    go_enter Try.func89, Try.ntmps89
    go_wp2_with (first | (go_at_call 116; refine (specWordOk_any _ _ hs).mono ?_; rintro e w1 ⟨rfl, rfl⟩) | (go_at_call 117; refine (hl3 _).mono ?_; rintro e w1 ⟨rfl, rfl⟩))
    go_ret
    exact ⟨by rw [hf.out]; rfl, rfl⟩
theorem list_at (s : ByteArray) (j : Nat) (h : j < s.size) : s.data.toList[j]? = some (byteAt s j) := by
  have h' : j < s.data.toList.length := by simpa using h
  unfold byteAt
  rw [List.getD_eq_getElem?_getD, List.getElem?_eq_getElem h']
  rfl
theorem any_cd (s : ByteArray) (hw : isWP s) : Lib.containsAny s.data.toList [99, 100] = !wiB 2 s := by
  have hlen : s.data.toList.length = s.size := by simp
  have hlt : ∀ j, j < s.size → (bt s j = (lt s j : Int) + 97 ∧ lt s j ≤ 3) := fun j hj => lt_eq (hw.2 j hj)
  have hch : ∀ j, j < s.size → (([99, 100] : List UInt8).contains (byteAt s j) = true ↔ ¬ lt s j < 2) := fun j hj => by
    obtain ⟨q1, q2⟩ := hlt j hj
    rw [byteAt_bt s j hj] at q1
    generalize byteAt s j = x at *
    have hx := x.toNat_lt
    simp only [List.contains_cons, List.contains_nil, Bool.or_false, Bool.or_eq_true, beq_iff_eq]
    constructor
    · rintro (rfl | rfl)
      · have : ((99 : UInt8).toNat : Int) = 99 := rfl
        omega
      · have : ((100 : UInt8).toNat : Int) = 100 := rfl
        omega
    · intro q
      have : x.toNat = 99 ∨ x.toNat = 100 := by omega
      rcases this with h | h
      · exact .inl (UInt8.toNat_inj.1 (by rw [h]; rfl))
      · exact .inr (UInt8.toNat_inj.1 (by rw [h]; rfl))
  by_cases hall : ∀ j, j < s.size → lt s j < 2
  · rw [wiB_true hall]
    have : Lib.indexAny s.data.toList [99, 100] = -1 := Lib.indexAny_none (fun j b hj hb => by
      rw [hlen] at hj
      rw [list_at s j hj] at hb
      cases hb
      cases hc : ([99, 100] : List UInt8).contains (byteAt s j)
      · rfl
      · exact absurd (hall j hj) ((hch j hj).1 hc))
    simp [Lib.containsAny, this]
  · have hne : wiB 2 s = false := decide_eq_false hall
    rw [hne]
    cases hc : Lib.containsAny s.data.toList [99, 100]
    · exfalso
      apply hall
      intro j hj
      apply Classical.byContradiction
      intro q
      have hin := (hch j hj).2 q
      have hnone : Lib.indexAny s.data.toList [99, 100] = -1 := by
        have := Lib.indexAny_ge [99, 100] s.data.toList
        have h2 : ¬ 0 ≤ Lib.indexAny s.data.toList [99, 100] := by simpa [Lib.containsAny] using hc
        omega
      have key : ∀ (l : List UInt8) (j : Nat) (x : UInt8), l[j]? = some x → ([99, 100] : List UInt8).contains x = true → 0 ≤ Lib.indexAny l [99, 100] := by
        intro l
        induction l with
        | nil => intro j x h; simp at h
        | cons b l ih =>
          intro j x h hx
          rw [Lib.indexAny]
          split
          · omega
          · have hb : ([99, 100] : List UInt8).contains b = false := Bool.eq_false_iff.2 (by assumption)
            cases j with
            | zero =>
              simp at h
              subst h
              rw [hb] at hx
              cases hx
            | succ j =>
              have := ih j x (by simpa using h) hx
              rw [if_neg (fun e => by have := beq_iff_eq.1 e; omega)]
              omega
      have := key s.data.toList j _ (list_at s j hj) hin
      omega
    · rfl
set_option maxRecDepth 20000 in
set_option maxHeartbeats 1000000 in
theorem implBin_any (s : ByteArray) (w : World) (hs : s.size ≤ 9223372036854775807) :
    Calls Try.prog 57 #[.string s] w fun e w' => e = .returned (.bool (binB s)) ∧ Below w.heap.size w w' := by
  cases hW : isWB s
  · have hf : Hid (binB s = false) := by show _ = _; simp [binB, hW]
    go_enter Try.func57, Try.ntmps57
    go_wp2_with ((go_at_call 62; refine (isWord_any _ _ hs).mono ?_; rintro e w1 ⟨rfl, rfl⟩))
    go_ret
    exact ⟨by rw [hf.out]; rfl, by (repeat (first | with_reducible exact Below.refl _ _ | assumption | with_reducible refine Qdrew ?_ | with_reducible refine QdrewN ?_ | ((with_reducible refine Qset ?_ ?_); exact (by ((try simp only [World.size_alloc, World.size_setCell, World.size_drew, size_drewN]); (try dsimp only); omega))) | ((with_reducible refine Qalloc ?_ ?_); exact (by ((try simp only [World.size_alloc, World.size_setCell, World.size_drew, size_drewN]); (try dsimp only); omega))) | refine Qtrans (by assumption) (by ((try simp only [World.size_alloc, World.size_setCell, World.size_drew, size_drewN]); (try dsimp only); omega)) ?_))⟩
  · have hf : Hid (binB s = wiB 2 s) := by show _ = _; simp [binB, hW]
    have hw := isW_of hW
    have hca : ∀ w, Calls Try.prog 94 #[.string s, .string ⟨#[99, 100]⟩] w fun e w' => e = .returned (.bool (!wiB 2 s)) ∧ Below w.heap.size w w' := fun w =>
      (Try.strings_ContainsAny_laid s ⟨#[99, 100]⟩ w (by have := hw.1; omega) (by decide) (fun j b hj => by
        have h1 : j < s.size := by
          have := (List.getElem?_eq_some_iff.1 hj).1
          simpa using this
        rw [list_at s j h1] at hj
        cases hj
        have := hw.2 j h1
        unfold inL at this
        rw [byteAt_bt s j h1] at this
        omega) (fun j b hj => by
          have : j = 0 ∨ j = 1 ∨ 2 ≤ j := by omega
          rcases this with rfl | rfl | h
          · simp at hj; subst hj; decide
          · simp at hj; subst hj; decide
          · simp at hj; obtain ⟨h1, _⟩ := List.getElem?_eq_some_iff.1 hj; simp at h1; omega)).mono fun e w' q => ⟨q.1.trans (by rw [any_cd s hw]), q.2⟩
    go_enter Try.func57, Try.ntmps57
    go_wp2_with (first | (go_at_call 62; refine (isWord_any _ _ hs).mono ?_; rintro e w1 ⟨rfl, rfl⟩) | (go_at_call 94; refine (hca _).mono ?_; rintro e w1 ⟨rfl, hb1⟩; have hz1 := hb1.size))
    go_ret
    exact ⟨by rw [hf.out]; simp, by (repeat (first | with_reducible exact Below.refl _ _ | assumption | with_reducible refine Qdrew ?_ | with_reducible refine QdrewN ?_ | ((with_reducible refine Qset ?_ ?_); exact (by ((try simp only [World.size_alloc, World.size_setCell, World.size_drew, size_drewN]); (try dsimp only); omega))) | ((with_reducible refine Qalloc ?_ ?_); exact (by ((try simp only [World.size_alloc, World.size_setCell, World.size_drew, size_drewN]); (try dsimp only); omega))) | refine Qtrans (by assumption) (by ((try simp only [World.size_alloc, World.size_setCell, World.size_drew, size_drewN]); (try dsimp only); omega)) ?_))⟩
end Go.Proofs.Ytilbhingfnjppab
