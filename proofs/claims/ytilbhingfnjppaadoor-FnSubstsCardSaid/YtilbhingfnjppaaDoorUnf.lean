/- Whether a substitution is uniform, and whether its images are a code: the walks. -/
import Derived.Test.YtilbhingfnjppaaDoorCps
import Derived.Test.YtilbhingfnjppaaDoorWays
set_option linter.unusedSimpArgs false
set_option linter.unusedVariables false
namespace Go.Proofs.YtilbhingfnjppaaDoor
open Go.RowKit
def un (zs : List ByteArray) : Nat := if (zs.all fun z => z.size == (zs.getD 0 ByteArray.empty).size) = true then (zs.getD 0 ByteArray.empty).size else 0
theorem un_yes {zs : List ByteArray} (h : ∀ j, j < zs.length → (zs.getD j ByteArray.empty).size = (zs.getD 0 ByteArray.empty).size) : un zs = (zs.getD 0 ByteArray.empty).size := by
  unfold un
  rw [if_pos]
  rw [List.all_eq_true]
  intro z hz
  obtain ⟨j, hj, rfl⟩ := List.getElem_of_mem hz
  have := h j hj
  rw [List.getD_eq_getElem?_getD, List.getElem?_eq_getElem hj] at this
  simpa using this
theorem un_no {zs : List ByteArray} {j : Nat} (hj : j < zs.length) (h : (zs.getD j ByteArray.empty).size ≠ (zs.getD 0 ByteArray.empty).size) : un zs = 0 := by
  unfold un
  rw [if_neg]
  intro e
  rw [List.all_eq_true] at e
  have := e zs[j] (List.getElem_mem hj)
  rw [List.getD_eq_getElem?_getD, List.getElem?_eq_getElem hj] at h
  exact h (by simpa using this)
theorem un_all {zs : List ByteArray} (h : 0 < un zs) : ∀ j, j < zs.length → (zs.getD j ByteArray.empty).size = un zs := by
  intro j hj
  by_cases e : ∃ i, i < zs.length ∧ (zs.getD i ByteArray.empty).size ≠ (zs.getD 0 ByteArray.empty).size
  · obtain ⟨i, hi, hne⟩ := e
    rw [un_no hi hne] at h; omega
  · have hall : ∀ i, i < zs.length → (zs.getD i ByteArray.empty).size = (zs.getD 0 ByteArray.empty).size := fun i hi => by
      by_cases q : (zs.getD i ByteArray.empty).size = (zs.getD 0 ByteArray.empty).size
      · exact q
      · exact absurd ⟨i, hi, q⟩ e
    rw [un_yes hall]; exact hall j hj
set_option maxRecDepth 20000 in
set_option maxHeartbeats 2000000 in
theorem IsUniform_any (x : Option Addr) (n cap : Nat) (zs : List ByteArray) (w : World) (h : IsStrs w x n cap zs) (hS : sB zs = true) :
    Calls Tryd.prog 18 #[.agg #[.slice x n cap]] w fun e w' => e = .returned (.int .i64 (un zs : Nat)) ∧ Below w.heap.size w w' := by
  have hn := h.1
  have hn4 := (s_of hS).1
  rw [hn] at hn4
  have h8 := small8_sB hS
  have hb0 : Below w.heap.size w (w.alloc (.cells #[.slice x n cap] 27)) := (Below.refl _ w).alloc (Nat.le_refl _) _
  have h0 := isStrs_below h (Nat.le_refl _) hb0
  have cO := fun w h => implSubstOk_any x n cap zs w h (by omega)
  rw [hS] at cO
  obtain ⟨W, hW⟩ : ∃ W, w.alloc (.cells #[.slice x n cap] 27) = W := ⟨_, rfl⟩
  have kW : W.cell? ⟨w.heap.size, 0, none⟩ = some (.slice x n cap) := by rw [← hW]; simp [go_sem]
  have zW : W.heap.size = w.heap.size + 1 := by rw [← hW]; simp
  rw [hW] at h0 hb0
  clear h
  go_enter Tryd.func18, Tryd.ntmps18
  go_wp2_with (go_at_call 57; refine (cO _ h0).mono ?_; rintro e w2 ⟨rfl, hb2⟩; have k2 : w2.cell? ⟨w.heap.size, 0, none⟩ = some (.slice x n cap) := (hb2.cell (p := ⟨w.heap.size, 0, none⟩) (by show w.heap.size < _; omega)).trans kW)
  have h2 := isStrs_below h0 (Nat.le_refl _) hb2
  have b2 := Qtrans hb2 (by omega) hb0
  obtain ⟨b, off, rfl, hbl, hcl⟩ := isStrs_cell h2 (by omega)
  have hc0 := hcl 0 (by omega)
  have hs0 := h8 0
  have hyes := Lib.hid (un_yes (zs := zs))
  have hno := Lib.hid (fun j (hj : j < zs.length) => un_no (zs := zs) hj)
  obtain ⟨z0, hz0⟩ : ∃ z, zs.getD 0 ByteArray.empty = z := ⟨_, rfl⟩
  rw [hz0] at hc0 hs0 hyes hno
  rw [Nat.add_zero] at hc0
  have i0 : (0 : Int) < (n : Int) := by omega
  clear hb2 h0 hb0 kW hW hz0 h2
  go_loopw [11] (fun i wr => ∃ k : Nat, k ≤ n ∧ i = .int .i64 k ∧ Hid (∀ j, j < k → (zs.getD j ByteArray.empty).size = z0.size) ∧ w2 = wr) (fun i _ => n - (intOf i).toNat)
  case atStart => exact ⟨0, by omega, rfl, Lib.hid (fun j hj => by omega), by first | rfl | trivial⟩
  case round =>
    obtain ⟨k, hk, rfl, hall, rfl⟩ := hrel
    by_cases hlt : k < n
    · have hck := hcl k hlt
      have hsk := h8 k
      have hnk := Lib.hid (hno.out k (by omega))
      have hnx : Hid ((zs.getD k ByteArray.empty).size = z0.size → ∀ j, j < k + 1 → (zs.getD j ByteArray.empty).size = z0.size) := fun e j hj => by
        by_cases q : j = k
        · subst q; exact e
        · exact hall.out j (by omega)
      obtain ⟨z, hz⟩ : ∃ z, zs.getD k ByteArray.empty = z := ⟨_, rfl⟩
      rw [hz] at hck hsk hnk hnx
      have j0 : (0 : Int) ≤ (k : Int) := by omega
      have j1 : (k : Int) < (n : Int) := by omega
      have j2 : IntKind.i64.wrap ((k : Int) + 1) = (k : Int) + 1 := IntWalk.i64_in _ (by omega)
      clear hcl hz hall hyes hno
      by_cases he : z.size = z0.size
      · have he1 : (z.size : Int) = (z0.size : Int) := by omega
        have hnx' := Lib.hid (hnx.out he)
        clear he hnx hnk
        go_wp2_with fail
        go_roundw
        case rel => exact ⟨k + 1, by omega, by go_num, hnx', by first | rfl | trivial⟩
        case measure => (simp [intOf]) <;> omega
      · have he1 : ¬ (z.size : Int) = (z0.size : Int) := by omega
        have he2 : ((z.size : Int) == (z0.size : Int)) = false := by simpa using he1
        have hu := Lib.hid (hnk.out he)
        clear he hnx hnk
        go_wp2_with fail
        go_ret
        exact ⟨by rw [hu.out]; rfl, b2⟩
    · obtain rfl : n = k := by omega
      have hu := Lib.hid (hyes.out (fun j hj => hall.out j (by omega)))
      have j1 : ¬ (n : Int) < (n : Int) := by omega
      clear hyes hno hall hcl
      go_wp2_with fail
      go_ret
      exact ⟨by rw [hu.out]; rfl, b2⟩
/-! ### Codes -/
def hpr (zs : List ByteArray) (i k : Nat) : Bool := Lib.hasPrefix (zs.getD i ByteArray.empty).data.toList (zs.getD k ByteArray.empty).data.toList
def cdP (zs : List ByteArray) : Prop := ∀ i, i < zs.length → ∀ k, k < zs.length → i ≠ k → hpr zs i k = false
open Classical in
noncomputable def cdB (zs : List ByteArray) : Bool := decide (cdP zs)
theorem cdB_yes {zs : List ByteArray} (h : cdP zs) : cdB zs = true := by simp [cdB, h]
theorem cdB_no {zs : List ByteArray} {i k : Nat} (hi : i < zs.length) (hk : k < zs.length) (hne : i ≠ k) (h : hpr zs i k = true) : cdB zs = false := by
  have : ¬ cdP zs := fun q => by rw [q i hi k hk hne] at h; cases h
  simp [cdB, this]
theorem cdB_of {zs : List ByteArray} (h : cdB zs = true) : cdP zs := by simpa [cdB] using h
set_option maxRecDepth 20000 in
set_option maxHeartbeats 4000000 in
theorem IsCode_any (x : Option Addr) (n cap : Nat) (zs : List ByteArray) (w : World) (h : IsStrs w x n cap zs) (hS : sB zs = true) :
    Calls Tryd.prog 19 #[.agg #[.slice x n cap]] w fun e w' => e = .returned (.bool (cdB zs)) ∧ Below w.heap.size w w' := by
  have hn := h.1
  have hn4 := (s_of hS).1
  rw [hn] at hn4
  have hb0 : Below w.heap.size w (w.alloc (.cells #[.slice x n cap] 27)) := (Below.refl _ w).alloc (Nat.le_refl _) _
  have h0 := isStrs_below h (Nat.le_refl _) hb0
  have cO := fun w h => implSubstOk_any x n cap zs w h (by omega)
  rw [hS] at cO
  obtain ⟨W, hW⟩ : ∃ W, w.alloc (.cells #[.slice x n cap] 27) = W := ⟨_, rfl⟩
  have kW : W.cell? ⟨w.heap.size, 0, none⟩ = some (.slice x n cap) := by rw [← hW]; simp [go_sem]
  have zW : W.heap.size = w.heap.size + 1 := by rw [← hW]; simp
  rw [hW] at h0 hb0
  clear h
  have h0H := Lib.hid h0
  obtain ⟨b, off, rfl, hbl, hcl⟩ := isStrs_cell h0 (by omega)
  have hclH := Lib.hid hcl
  clear hcl
  go_enter Tryd.func19, Tryd.ntmps19
  go_wp2_with fail
  go_loopw [10] (fun i wr => ∃ k : Nat, k ≤ n ∧ i = .int .i64 k ∧ Hid (∀ i', i' < k → ∀ j, j < n → i' ≠ j → hpr zs i' j = false) ∧ W = wr) (fun i _ => n - (intOf i).toNat)
  case atStart => exact ⟨0, by omega, rfl, Lib.hid (fun j hj => by omega), by first | rfl | exact hW | trivial⟩
  case round =>
    obtain ⟨k, hk, rfl, hall, hwr⟩ := hrel
    subst hwr
    by_cases hlt : k < n
    · have hck := hclH.out k hlt
      obtain ⟨z, hz⟩ : ∃ z, zs.getD k ByteArray.empty = z := ⟨_, rfl⟩
      rw [hz] at hck
      have hzH := Lib.hid hz
      have j0 : (0 : Int) ≤ (k : Int) := by omega
      have j1 : (k : Int) < (n : Int) := by omega
      have j2 : IntKind.i64.wrap ((k : Int) + 1) = (k : Int) + 1 := IntWalk.i64_in _ (by omega)
      clear hz
      go_wp2_with fail
      go_loopw [18] (fun i wr => ∃ m : Nat, m ≤ n ∧ i = .int .i64 m ∧ Hid (∀ j, j < m → k ≠ j → hpr zs k j = false) ∧ W = wr) (fun i _ => n - (intOf i).toNat)
      case atStart => exact ⟨0, by omega, rfl, Lib.hid (fun j hj => by omega), by first | rfl | trivial⟩
      case round =>
        obtain ⟨m, hm, rfl, hin, hwr⟩ := hrel
        subst hwr
        by_cases hlt2 : m < n
        · have hcm := hclH.out m hlt2
          obtain ⟨y, hy⟩ : ∃ y, zs.getD m ByteArray.empty = y := ⟨_, rfl⟩
          rw [hy] at hcm
          have m0 : (0 : Int) ≤ (m : Int) := by omega
          have m1 : (m : Int) < (n : Int) := by omega
          have m2 : IntKind.i64.wrap ((m : Int) + 1) = (m : Int) + 1 := IntWalk.i64_in _ (by omega)
          have hnx : Hid ((k ≠ m → hpr zs k m = false) → ∀ j, j < m + 1 → k ≠ j → hpr zs k j = false) := fun e j hj => by
            by_cases q : j = m
            · subst q; exact e
            · exact hin.out j (by omega)
          have hpe : hpr zs k m = Lib.hasPrefix z.data.toList y.data.toList := by unfold hpr; rw [hy, hzH.out]
          by_cases e : k = m
          · have e1 : (k : Int) = (m : Int) := by omega
            have e2 : ((k : Int) == (m : Int)) = true := by simpa using e1
            have hnx' := Lib.hid (hnx.out (fun q => absurd e q))
            clear e hpe hnx hin hy
            go_wp2_with fail
            go_roundw
            case rel => exact ⟨m + 1, by omega, by go_num, hnx', by first | rfl | trivial⟩
            case measure => (simp [intOf]) <;> omega
          · have e1 : ¬ (k : Int) = (m : Int) := by omega
            have e2 : ((k : Int) == (m : Int)) = false := by simpa using e1
            have cP := Tryd.strings_HasPrefix z y W
            obtain ⟨p, hp⟩ : ∃ p, Lib.hasPrefix z.data.toList y.data.toList = p := ⟨_, rfl⟩
            rw [hp] at cP hpe
            cases p
            · have hnx' := Lib.hid (hnx.out (fun _ => hpe))
              clear e hpe hnx hin hy hp
              go_wp2_with (go_at_call 64; refine cP.mono ?_; rintro e w3 ⟨rfl, rfl⟩)
              go_roundw
              case rel => exact ⟨m + 1, by omega, by go_num, hnx', by first | rfl | trivial⟩
              case measure => (simp [intOf]) <;> omega
            · have hf := Lib.hid (cdB_no (by rw [hn]; exact hlt) (by rw [hn]; exact hlt2) e hpe)
              clear e hpe hnx hin hy hp
              go_wp2_with (go_at_call 64; refine cP.mono ?_; rintro e w3 ⟨rfl, rfl⟩)
              go_ret
              exact ⟨by rw [hf.out]; rfl, hb0⟩
        · obtain rfl : n = m := by omega
          have m3 : ¬ (n : Int) < (n : Int) := by omega
          have hall' : Hid (∀ i', i' < k + 1 → ∀ j, j < n → i' ≠ j → hpr zs i' j = false) := fun i' hi' j hj hne => by
            by_cases q : i' = k
            · subst q; exact hin.out j hj hne
            · exact hall.out i' (by omega) j hj hne
          clear hin hall
          go_wp2_with fail
          go_roundw
          case rel => exact ⟨k + 1, by omega, by go_num, hall', by first | rfl | trivial⟩
          case measure => (simp [intOf]) <;> omega
    · obtain rfl : n = k := by omega
      have m3 : ¬ (n : Int) < (n : Int) := by omega
      have hf := Lib.hid (cdB_yes (zs := zs) (fun i hi j hj hne => hall.out i (by omega) j (by omega) hne))
      clear hall
      go_wp2_with (go_at_call 57; refine (cO _ h0H.out).mono ?_; rintro e w2 ⟨rfl, hb2⟩)
      go_ret
      exact ⟨by rw [hf.out]; rfl, Qtrans hb2 (by omega) hb0⟩
end Go.Proofs.YtilbhingfnjppaaDoor
