/- Christoffel words: least among their shifts, central within: the table and the walks. -/
import Derived.Test.YtilbhingfnjppabBlQ
import Derived.Test.YtilbhingfnjppabMFra
set_option linter.unusedSimpArgs false
set_option linter.unusedVariables false
namespace Go.Proofs.Ytilbhingfnjppab
open Go.RowKit
/-- The letter at i, as a truth value: is it b? -/
def chB (p q i : Nat) : Bool := Nat.blt (i * p / q) ((i + 1) * p / q)
def chL (p q : Nat) : List Bool := (List.range q).map (chB p q)
def lessB : List Bool → List Bool → Bool
  | _, [] => false
  | [], _ :: _ => true
  | a :: x, b :: y => (!a && b) || ((a == b) && lessB x y)
def eqB : List Bool → List Bool → Bool
  | [], [] => true
  | a :: x, b :: y => (a == b) && eqB x y
  | _, _ => false
def perT (p q d : Nat) : Bool := (List.range (q - 2)).all fun j => !(Nat.blt (j + d) (q - 2)) || (chB p q (1 + j) == chB p q (1 + (j + d)))
def chT (p q : Nat) : Bool :=
  !(Nat.gcd p q == 1) || (((List.range q).all fun k => (k == 0) || (!(lessB ((chL p q).drop k ++ (chL p q).take k) (chL p q)) && !(eqB ((chL p q).drop k ++ (chL p q).take k) (chL p q)))) &&
    ((List.range (q - 2)).all fun j => chB p q (1 + j) == chB p q (1 + (q - 2 - 1 - j))) &&
    (Nat.ble q 1 || ((List.range q).any fun d => Nat.ble 1 d && (Nat.gcd d (q - d) == 1) && perT p q d && perT p q (q - d))))
theorem ch_all : allB 21 (fun q => allB q (fun p => chT p q)) = true := by decide +kernel
theorem ch_at {p q : Nat} (hq : q ≤ 20) (hp : p < q) : chT p q = true := allB_at (allB_at ch_all q (by omega)) p hp
def fB (b : Bool) : UInt8 := if b then 98 else 97
theorem less_fB : ∀ x y : List Bool, Op.bytesLess (x.map fB) (y.map fB) = lessB x y
  | _, [] => by simp [Op.bytesLess, lessB]
  | [], b :: y => by simp [Op.bytesLess, lessB]
  | a :: x, b :: y => by
    simp only [List.map_cons, Op.bytesLess, lessB, less_fB x y]
    cases a <;> cases b <;> rfl
theorem eq_fB : ∀ x y : List Bool, (x.map fB == y.map fB) = eqB x y
  | [], [] => rfl
  | [], b :: y => rfl
  | a :: x, [] => rfl
  | a :: x, b :: y => by
    have h : ((a :: x).map fB == (b :: y).map fB) = ((fB a == fB b) && (x.map fB == y.map fB)) := rfl
    rw [h, eqB, eq_fB x y]
    cases a <;> cases b <;> rfl
theorem mlet_fB (p q i : Nat) : mlet p q 0 i = fB (chB p q i) := by
  unfold mlet fB chB
  rw [Nat.zero_add, Nat.zero_add]
  by_cases h : i * p / q < (i + 1) * p / q
  · have : Nat.blt (i * p / q) ((i + 1) * p / q) = true := by simpa using h
    rw [if_pos h, if_pos this]
  · have : Nat.blt (i * p / q) ((i + 1) * p / q) = false := Bool.eq_false_iff.2 (fun z => h (by simpa using z))
    rw [if_neg h, this]; rfl
theorem mech_chL (p q : Nat) : mechL p q 0 q = (chL p q).map fB := by
  unfold mechL chL
  rw [List.map_map]
  exact List.map_congr_left (fun i _ => mlet_fB p q i)
/-- A mechanical word. -/
def mechW (p q st n : Nat) : ByteArray := ⟨(mechL p q st n).toArray⟩
theorem mechW_size (p q st n : Nat) : (mechW p q st n).size = n := by
  show (mechL p q st n).toArray.size = n
  rw [List.size_toArray, mechL_len]
theorem mechW_bt (p q st n i : Nat) (h : i < n) : bt (mechW p q st n) i = ((mlet p q st i).toNat : Int) := by
  rw [byteAt_bt _ i (by rw [mechW_size]; exact h)]
  unfold byteAt mechW
  rw [show (⟨(mechL p q st n).toArray⟩ : ByteArray).data.toList = mechL p q st n from rfl, mechL_at p q st n i h]
theorem mechW_at (p q st n i : Nat) (h : i < n) : (bt (mechW p q st n) i = 97 ∨ bt (mechW p q st n) i = 98) ∧ (bt (mechW p q st n) i = 98 ↔ (st + i * p) / q < (st + (i + 1) * p) / q) := by
  rw [mechW_bt p q st n i h]
  unfold mlet
  split
  · exact ⟨.inr rfl, fun _ => by assumption, fun _ => rfl⟩
  · exact ⟨.inl rfl, fun q => by exact absurd q (by decide), fun q => by contradiction⟩
theorem bin_of {s : ByteArray} (h4 : s.size ≤ 400) (hb : ∀ j, j < s.size → bt s j = 97 ∨ bt s j = 98) : binB s = true := by
  have hw : isWP s := ⟨h4, fun j hj => by
    have := hb j hj
    unfold inL
    omega⟩
  unfold binB
  rw [isWB_true hw, Bool.true_and]
  exact wiB_true (fun j hj => by
    have h1 := hb j hj
    obtain ⟨h2, h3⟩ := lt_eq (hw.2 j hj)
    omega)
theorem mechW_bin (p q st n : Nat) (hn : n ≤ 400) : binB (mechW p q st n) = true := bin_of (by rw [mechW_size]; exact hn) (fun j hj => (mechW_at p q st n j (by rw [mechW_size] at hj; exact hj)).1)
theorem mechW_mech (p q st n : Nat) : mechP (mechW p q st n) p q st := fun i hi => (mechW_at p q st n i (by rw [mechW_size] at hi; exact hi)).2
theorem mechW_bal (p q st n : Nat) (hq : 1 ≤ q) (hp : p ≤ q) : balP (mechW p q st n) := mech_bal hq hp (mechW_mech p q st n)
theorem mechW_count (p q st m : Nat) (hq : 1 ≤ q) (hp : p ≤ q) : (mechW p q st (m * q)).data.toList.count 98 = m * p := by
  have h := mech_cb hq hp (mechW_mech p q st (m * q)) (m * q) (by rw [mechW_size]; exact Nat.le_refl _)
  have h2 := cb_all (mechW p q st (m * q))
  rw [mechW_size] at h2
  rw [← h2]
  rw [show st + m * q * p = st + q * (m * p) by rw [Nat.mul_comm m q, Nat.mul_assoc], Nat.add_mul_div_left _ _ (by omega)] at h
  omega
theorem mechW_twice (p q st : Nat) (hq : 1 ≤ q) : ((mechW p q st (2 * q)).extract 0 q).toList = ((mechW p q st (2 * q)).extract q (2 * q)).toList := by
  have hs := mechW_size p q st (2 * q)
  have e : (mechW p q st (2 * q)).extract 0 q = (mechW p q st (2 * q)).extract q (2 * q) := by
    refine eq_of_btB (by rw [ByteArray.size_extract, ByteArray.size_extract, hs]; omega) (fun t ht => ?_)
    rw [ByteArray.size_extract, hs] at ht
    rw [bt_exB _ _ _ t (by rw [ByteArray.size_extract, hs]; omega), bt_exB _ _ _ t (by rw [ByteArray.size_extract, hs]; omega), Nat.zero_add, mechW_bt _ _ _ _ t (by omega), mechW_bt _ _ _ _ (q + t) (by omega)]
    unfold mlet
    have e1 : ∀ x, (st + (q + x) * p) / q = (st + x * p) / q + p := fun x => by
      rw [Nat.add_mul, show st + (q * p + x * p) = st + x * p + q * p by omega, Nat.add_mul_div_left _ _ (by omega)]
    have e2 := e1 t
    have e3 := e1 (t + 1)
    rw [show q + (t + 1) = q + t + 1 by omega] at e3
    rw [e2, e3]
    by_cases h : (st + t * p) / q < (st + (t + 1) * p) / q
    · rw [if_pos h, if_pos (by omega)]
    · rw [if_neg h, if_neg (by omega)]
  rw [e]
/-- Among its shifts a Christoffel word is the least. -/
theorem ch_lyn {p q : Nat} (hq : q ≤ 20) (hp : p < q) (hg : Nat.gcd p q = 1) (k : Nat) (hk1 : 1 ≤ k) (hk : k < q) :
    Op.bytesLess ((mechW p q 0 q).extract k (mechW p q 0 q).size ++ (mechW p q 0 q).extract 0 k).toList (mechW p q 0 q).toList = false ∧ (((mechW p q 0 q).extract k (mechW p q 0 q).size ++ (mechW p q 0 q).extract 0 k).toList == (mechW p q 0 q).toList) = false := by
  have h := ch_at hq hp
  unfold chT at h
  rw [hg] at h
  simp only [beq_self_eq_true, Bool.not_true, Bool.false_or, Bool.and_eq_true] at h
  have h1 := (List.all_eq_true.1 h.1.1) k (List.mem_range.2 hk)
  rw [show (k == 0) = false by simp; omega, Bool.false_or, Bool.and_eq_true, Bool.not_eq_true', Bool.not_eq_true'] at h1
  have e0 : (mechW p q 0 q).toList = (chL p q).map fB := by
    rw [ByteArray.toList_eq, ← mech_chL]; rfl
  have e1 : ((mechW p q 0 q).extract k (mechW p q 0 q).size ++ (mechW p q 0 q).extract 0 k).toList = ((chL p q).drop k ++ (chL p q).take k).map fB := by
    rw [ByteArray.toList_eq, List.map_append, List.map_drop, List.map_take, ← e0, ByteArray.toList_eq]
    have hl : (mechW p q 0 q).data.toList.length = (mechW p q 0 q).size := by simp
    simp [ByteArray.data_append, ByteArray.data_extract, List.take_of_length_le, hl]
  rw [e0, e1, less_fB, eq_fB]
  exact h1
/-- Within, it is central. -/
theorem ch_cen {p q : Nat} (hq : q ≤ 20) (hp : p < q) (hq1 : 1 < q) (hg : Nat.gcd p q = 1) : cenQ ((mechW p q 0 q).extract 1 (q - 1)) := by
  have h := ch_at hq hp
  unfold chT at h
  rw [hg] at h
  simp only [beq_self_eq_true, Bool.not_true, Bool.false_or, Bool.and_eq_true] at h
  have hs : ((mechW p q 0 q).extract 1 (q - 1)).size = q - 2 := by rw [ByteArray.size_extract, mechW_size]; omega
  have hb : ∀ j, j < q - 2 → bt ((mechW p q 0 q).extract 1 (q - 1)) j = ((fB (chB p q (1 + j))).toNat : Int) := fun j hj => by
    rw [bt_exB _ _ _ j (by rw [hs]; exact hj), mechW_bt _ _ _ _ _ (by omega), mlet_fB]
  have hper : ∀ d, perT p q d = true → perB ((mechW p q 0 q).extract 1 (q - 1)) d = true := fun d hd => perB_all (fun j hj => by
    rw [hs] at hj
    have := (List.all_eq_true.1 hd) j (List.mem_range.2 (by omega))
    have hbl : Nat.blt (j + d) (q - 2) = true := by simpa using hj
    rw [hbl, Bool.not_true, Bool.false_or, beq_iff_eq] at this
    rw [hb j (by omega), hb (j + d) hj, this])
  refine ⟨bin_of (by rw [hs]; omega) (fun j hj => ?_), pal_of (fun j hj => ?_), ?_⟩
  · rw [hs] at hj
    rw [hb j hj]
    cases chB p q (1 + j)
    · exact .inl rfl
    · exact .inr rfl
  · rw [hs] at hj ⊢
    rw [hb j hj, hb _ (by omega)]
    have := (List.all_eq_true.1 h.1.2) j (List.mem_range.2 hj)
    rw [beq_iff_eq] at this
    rw [this]
  · have h2 := h.2
    rw [show Nat.ble q 1 = false from Bool.eq_false_iff.2 (fun z => by have := ble_le z; omega), Bool.false_or, List.any_eq_true] at h2
    obtain ⟨d, hd, h3⟩ := h2
    have hd := List.mem_range.1 hd
    simp only [Bool.and_eq_true, beq_iff_eq] at h3
    obtain ⟨⟨⟨h4, h5⟩, h6⟩, h7⟩ := h3
    have h4 := ble_le h4
    refine ⟨d, h4, by rw [hs]; omega, ?_, hper d h6, ?_⟩
    · rw [hs, show q - 2 + 2 - d = q - d by omega]; exact h5
    · rw [hs, show q - 2 + 2 - d = q - d by omega]; exact hper (q - d) h7
/-! ### The walks -/
set_option maxRecDepth 20000 in
set_option maxHeartbeats 1000000 in
theorem Shift_any (s : ByteArray) (k : Nat) (hW : isWB s = true) (hk : k ≤ s.size) (w : World) :
    Calls Try.prog 91 #[.string s, .int .i64 k] w fun e w' => e = .returned (.string (s.extract k s.size ++ s.extract 0 k)) ∧ Below w.heap.size w w' := by
  have h400 := (isW_of hW).1
  have hI := fun w => isWord_any s w (by omega)
  rw [hW] at hI
  have hIn : ∀ w, Calls Try.prog 65 #[.int .i64 k, .int .i64 0, .int .i64 s.size] w fun e w' => e = .returned (.bool true) ∧ w = w' := fun w => by
    have := within_any (k : Int) 0 (s.size : Int) w
    rwa [inB_true.2 (by omega)] at this
  have h1 : (k : Int) ≤ (s.size : Int) := by omega
  have h2 : (0 : Int) ≤ (k : Int) := by omega
  have hz1 : (s.extract k s.size).size = s.size - k := by rw [ByteArray.size_extract]; omega
  have hz2 : (s.extract 0 k).size = k := by rw [ByteArray.size_extract]; omega
  clear hW
  go_enter Try.func91, Try.ntmps91
  go_wp2_with (first | (go_at_call 62; (with_reducible refine (hI _).mono ?_); rintro e w1 ⟨rfl, rfl⟩) | (go_at_call 65; (with_reducible refine (hIn _).mono ?_); rintro e w1 ⟨rfl, rfl⟩))
  go_region
  all_goals
    go_wp2_with fail
    go_ret
    exact ⟨rfl, by (repeat (first | with_reducible exact Below.refl _ _ | assumption | with_reducible refine Qdrew ?_ | with_reducible refine QdrewN ?_ | ((with_reducible refine Qset ?_ ?_); exact (by ((try simp only [World.size_alloc, World.size_setCell, World.size_drew, size_drewN]); (try dsimp only); omega))) | ((with_reducible refine Qalloc ?_ ?_); exact (by ((try simp only [World.size_alloc, World.size_setCell, World.size_drew, size_drewN]); (try dsimp only); omega))) | refine Qtrans (by assumption) (by ((try simp only [World.size_alloc, World.size_setCell, World.size_drew, size_drewN]); (try dsimp only); omega)) ?_))⟩
set_option maxRecDepth 20000 in
set_option maxHeartbeats 1000000 in
theorem IsLyndon_yes (s : ByteArray) (hW : isWB s = true) (h0 : 1 ≤ s.size) (hl : ∀ k, 1 ≤ k → k < s.size → Op.bytesLess (s.extract k s.size ++ s.extract 0 k).toList s.toList = false ∧ ((s.extract k s.size ++ s.extract 0 k).toList == s.toList) = false) (w : World) :
    Calls Try.prog 54 #[.string s] w fun e w' => e = .returned (.bool true) ∧ Below w.heap.size w w' := by
  have h400 := (isW_of hW).1
  have hI := fun w => isWord_any s w (by omega)
  rw [hW] at hI
  have hlH := Lib.hid hl
  have hne : (s.toList == (⟨#[]⟩ : ByteArray).toList) = false := by
    rw [beq_eq_false_iff_ne, ByteArray.toList_eq, ByteArray.toList_eq]
    intro q
    have h5 : s.data.toList.length = s.size := by simp
    rw [q] at h5
    have h6 : (⟨#[]⟩ : ByteArray).data.toList.length = 0 := rfl
    omega
  have hne2 : (s.toList == []) = false := by
    rw [beq_eq_false_iff_ne, ByteArray.toList_eq]
    intro q
    have h5 : s.data.toList.length = s.size := by simp
    rw [q, List.length_nil] at h5
    omega
  clear hl
  go_enter Try.func54, Try.ntmps54
  go_wp2_with (go_at_call 62; (with_reducible refine (hI _).mono ?_); rintro e w1 ⟨rfl, rfl⟩)
  clear hI hne hne2
  go_loopw [3] (fun i wr => ∃ k : Nat, 1 ≤ k ∧ k ≤ s.size ∧ i = .int .i64 k ∧ Below w.heap.size w wr) (fun i _ => s.size + 1 - (intOf i).toNat)
  case atStart => exact ⟨1, by omega, h0, rfl, by (repeat (first | with_reducible exact Below.refl _ _ | assumption | with_reducible refine Qdrew ?_ | with_reducible refine QdrewN ?_ | ((with_reducible refine Qset ?_ ?_); exact (by ((try simp only [World.size_alloc, World.size_setCell, World.size_drew, size_drewN]); (try dsimp only); omega))) | ((with_reducible refine Qalloc ?_ ?_); exact (by ((try simp only [World.size_alloc, World.size_setCell, World.size_drew, size_drewN]); (try dsimp only); omega))) | refine Qtrans (by assumption) (by ((try simp only [World.size_alloc, World.size_setCell, World.size_drew, size_drewN]); (try dsimp only); omega)) ?_))⟩
  case round =>
    obtain ⟨k, hk1, hk2, rfl, hbel⟩ := hrel
    have hz := hbel.size
    by_cases hlt : k < s.size
    · have j1 : (k : Int) < (s.size : Int) := by omega
      have hc := fun w => Shift_any s k hW hk2 w
      obtain ⟨l1, l2⟩ := hlH.out k hk1 hlt
      obtain ⟨t, ht⟩ : ∃ t, s.extract k s.size ++ s.extract 0 k = t := ⟨_, rfl⟩
      rw [ht] at hc l1 l2
      clear ht hW
      go_wp2_with (go_at_call 91; refine (hc _).mono ?_; rintro e w5 ⟨rfl, hb5⟩)
      exact ⟨⟨k + 1, by omega, by omega, by go_num, Qtrans hb5 hz hbel⟩, by simp [intOf]; omega⟩
    · obtain rfl : k = s.size := by omega
      have j1 : ¬ (s.size : Int) < (s.size : Int) := by omega
      clear hW
      go_wp2_with fail
      go_ret
      exact ⟨rfl, hbel⟩
set_option maxRecDepth 20000 in
set_option maxHeartbeats 1000000 in
theorem Christ_yes (p q : Nat) (hq : q ≤ 20) (hp : p < q) (hg : Nat.gcd p q = 1) (w : World) :
    Calls Try.prog 53 #[.int .i64 p, .int .i64 q] w fun e w' => e = .returned (.tuple #[.string (mechW p q 0 q), .bool true]) ∧ Below w.heap.size w w' := by
  have hI1 : ∀ w, Calls Try.prog 65 #[.int .i64 q, .int .i64 1, .int .i64 100] w fun e w' => e = .returned (.bool true) ∧ w = w' := fun w => by
    have := within_any (q : Int) 1 100 w
    rwa [inB_true.2 (by omega)] at this
  have hI2 : ∀ w, Calls Try.prog 65 #[.int .i64 p, .int .i64 0, .int .i64 ((q : Int) - 1)] w fun e w' => e = .returned (.bool true) ∧ w = w' := fun w => by
    have := within_any (p : Int) 0 ((q : Int) - 1) w
    rwa [inB_true.2 (by omega)] at this
  have hD : ∀ w, Calls Try.prog 86 #[.int .i64 p, .int .i64 q] w fun e w' => e = .returned (.int .i64 1) ∧ Below w.heap.size w w' := fun w => by
    have := divisor_any p q w (by omega) (by omega)
    rw [hg] at this
    exact this
  have e0 : IntKind.i64.wrap ((q : Int) - 1) = (q : Int) - 1 := IntWalk.i64_in _ (by omega)
  have hM : ∀ w, Calls Try.prog 52 #[.int .i64 p, .int .i64 q, .int .i64 0, .int .i64 q] w fun e w' => e = .returned (.tuple #[.string (mechW p q 0 q), .bool true]) ∧ Below w.heap.size w w' := fun w => Mech_any p q 0 q (by omega) hq (by omega) (by omega) (by omega) w
  obtain ⟨x, hx⟩ : ∃ x, mechW p q 0 q = x := ⟨_, rfl⟩
  simp only [hx] at hM ⊢
  clear hx hg
  go_enter Try.func53, Try.ntmps53
  go_wp2_with (first | (go_at_call 65; (with_reducible refine (hI1 _).mono ?_); rintro e w1 ⟨rfl, rfl⟩) | (go_at_call 65; (with_reducible refine (hI2 _).mono ?_); rintro e w1 ⟨rfl, rfl⟩) | (go_at_call 86; (with_reducible refine (hD _).mono ?_); rintro e w2 ⟨rfl, hb2⟩; have hz2 := hb2.size) | (go_at_call 52; (with_reducible refine (hM _).mono ?_); rintro e w3 ⟨rfl, hb3⟩))
  refine bodyPost_ret (v := .tuple #[.string x, .bool true]) (by simp [results, Try.results53, go_sem, *]) rfl ⟨rfl, Qtrans hb3 hz2 hb2⟩
set_option maxRecDepth 20000 in
set_option maxHeartbeats 1000000 in
theorem Christ_no (p q : Nat) (hq1 : 1 ≤ q) (hq : q ≤ 20) (hpq : p ≤ q) (hn : ¬ (p < q ∧ Nat.gcd p q = 1)) (w : World) :
    Calls Try.prog 53 #[.int .i64 p, .int .i64 q] w fun e w' => e = .returned (.tuple #[.string ⟨#[]⟩, .bool false]) ∧ Below w.heap.size w w' := by
  have hI1 : ∀ w, Calls Try.prog 65 #[.int .i64 q, .int .i64 1, .int .i64 100] w fun e w' => e = .returned (.bool true) ∧ w = w' := fun w => by
    have := within_any (q : Int) 1 100 w
    rwa [inB_true.2 (by omega)] at this
  have e0 : IntKind.i64.wrap ((q : Int) - 1) = (q : Int) - 1 := IntWalk.i64_in _ (by omega)
  by_cases hp : p < q
  · have hI2 : ∀ w, Calls Try.prog 65 #[.int .i64 p, .int .i64 0, .int .i64 ((q : Int) - 1)] w fun e w' => e = .returned (.bool true) ∧ w = w' := fun w => by
      have := within_any (p : Int) 0 ((q : Int) - 1) w
      rwa [inB_true.2 (by omega)] at this
    have hD := fun w => divisor_any p q w (by omega) (by omega)
    have hg : ¬ ((Nat.gcd p q : Nat) : Int) = 1 := fun h => hn ⟨hp, by omega⟩
    generalize Nat.gcd p q = G at *
    clear hn
    go_enter Try.func53, Try.ntmps53
    go_wp2_with (first | (go_at_call 65; (with_reducible refine (hI1 _).mono ?_); rintro e w1 ⟨rfl, rfl⟩) | (go_at_call 65; (with_reducible refine (hI2 _).mono ?_); rintro e w1 ⟨rfl, rfl⟩) | (go_at_call 86; (with_reducible refine (hD _).mono ?_); rintro e w2 ⟨rfl, hb2⟩; have hz2 := hb2.size))
    refine bodyPost_ret (v := .tuple #[.string ⟨#[]⟩, .bool false]) (by simp [results, Try.results53, go_sem, *]) rfl ⟨rfl, by (repeat (first | with_reducible exact Below.refl _ _ | assumption | with_reducible refine Qdrew ?_ | with_reducible refine QdrewN ?_ | ((with_reducible refine Qset ?_ ?_); exact (by ((try simp only [World.size_alloc, World.size_setCell, World.size_drew, size_drewN]); (try dsimp only); omega))) | ((with_reducible refine Qalloc ?_ ?_); exact (by ((try simp only [World.size_alloc, World.size_setCell, World.size_drew, size_drewN]); (try dsimp only); omega))) | refine Qtrans (by assumption) (by ((try simp only [World.size_alloc, World.size_setCell, World.size_drew, size_drewN]); (try dsimp only); omega)) ?_))⟩
  · have hI2 : ∀ w, Calls Try.prog 65 #[.int .i64 p, .int .i64 0, .int .i64 ((q : Int) - 1)] w fun e w' => e = .returned (.bool false) ∧ w = w' := fun w => by
      have := within_any (p : Int) 0 ((q : Int) - 1) w
      rwa [inB_false.2 (by omega)] at this
    clear hn
    go_enter Try.func53, Try.ntmps53
    go_wp2_with (first | (go_at_call 65; (with_reducible refine (hI1 _).mono ?_); rintro e w1 ⟨rfl, rfl⟩) | (go_at_call 65; (with_reducible refine (hI2 _).mono ?_); rintro e w1 ⟨rfl, rfl⟩))
    refine bodyPost_ret (v := .tuple #[.string ⟨#[]⟩, .bool false]) (by simp [results, Try.results53, go_sem, *]) rfl ⟨rfl, by (repeat (first | with_reducible exact Below.refl _ _ | assumption | with_reducible refine Qdrew ?_ | with_reducible refine QdrewN ?_ | ((with_reducible refine Qset ?_ ?_); exact (by ((try simp only [World.size_alloc, World.size_setCell, World.size_drew, size_drewN]); (try dsimp only); omega))) | ((with_reducible refine Qalloc ?_ ?_); exact (by ((try simp only [World.size_alloc, World.size_setCell, World.size_drew, size_drewN]); (try dsimp only); omega))) | refine Qtrans (by assumption) (by ((try simp only [World.size_alloc, World.size_setCell, World.size_drew, size_drewN]); (try dsimp only); omega)) ?_))⟩
end Go.Proofs.Ytilbhingfnjppab
