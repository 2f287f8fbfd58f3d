/- The derived word: the walks and the law. -/
import Derived.Test.YtieibopegmoanaaWordsG
set_option linter.unusedSimpArgs false
set_option linter.unusedVariables false
namespace Go.Proofs.Ytieibopegmoanaa
open Go.RowKit
theorem isStrs_grow {wr w1 : World} {x : Option Addr} {n cap g : Nat} {zs : List ByteArray} {o : Obj} (h : IsStrs wr x n cap zs) (hx : ∀ b off, x = some ⟨b, off, none⟩ → b ≠ g) (hg : (wr.alloc o).grownBy w1 (some g)) : IsStrs w1 x n cap zs := by
  refine ⟨h.1, h.2.1, h.2.2.1, h.2.2.2.1, ?_⟩
  rcases h.2.2.2.2 with h0 | ⟨b, off, rfl, hlt, hc⟩
  · exact .inl h0
  · have hb := hx b off rfl
    refine .inr ⟨b, off, rfl, Nat.lt_trans hlt (size_app hg), fun j hj => ?_⟩
    rw [hg.cell_far ⟨b, off + j, none⟩ (by show b < _; simp; omega) (by simp; omega)]
    exact (World.cell?_alloc_past _ _ _ (by show b < _; omega)).trans (hc j hj)
/-- The letter of a place in a list. -/
def li (D : List ByteArray) (x : ByteArray) : UInt8 := 97 + UInt8.ofNat (Lib.idxOfS D x).toNat
def dl (D L : List ByteArray) (k : Nat) : List UInt8 := (L.take k).map (li D)
theorem dl_next (D L : List ByteArray) (k : Nat) (h : k < L.length) : dl D L (k + 1) = dl D L k ++ [li D (L.getD k ByteArray.empty)] := by
  unfold dl; rw [take_next L k ByteArray.empty h]; simp
theorem dl_len (D L : List ByteArray) (k : Nat) (h : k ≤ L.length) : (dl D L k).length = k := by simp [dl]; omega
theorem idx_lt {D : List ByteArray} {x : ByteArray} (h : x ∈ D) : ∃ i : Nat, Lib.idxOfS D x = (i : Int) ∧ i < D.length := by
  obtain ⟨k, hk, he⟩ := List.getElem_of_mem h
  have : ∀ n, (∃ j, j ≤ n ∧ j < D.length ∧ D.getD j ByteArray.empty = x) → ∃ i : Nat, Lib.idxOfS D x = (i : Int) ∧ i < D.length := by
    intro n
    induction n with
    | zero =>
      rintro ⟨j, hj, hl, e⟩
      obtain rfl : j = 0 := by omega
      have := Lib.idxOfS_hit D D.length 0 x hl (Nat.le_refl _) e (fun j hj => absurd hj (by omega))
      rw [List.take_length] at this
      exact ⟨0, this, hl⟩
    | succ n ih =>
      rintro ⟨j, hj, hl, e⟩
      by_cases hex : ∃ j, j ≤ n ∧ j < D.length ∧ D.getD j ByteArray.empty = x
      · exact ih hex
      · have hjn : j = n + 1 := by
          by_cases hjn : j ≤ n
          · exact absurd ⟨j, hjn, hl, e⟩ hex
          · omega
        subst hjn
        have := Lib.idxOfS_hit D D.length (n + 1) x hl (Nat.le_refl _) e (fun j hj he => hex ⟨j, by omega, by omega, he⟩)
        rw [List.take_length] at this
        exact ⟨n + 1, this, hl⟩
  exact this k ⟨k, Nat.le_refl _, hk, by simp [List.getD_eq_getElem?_getD, hk, he]⟩
theorem li_at {D : List ByteArray} {x : ByteArray} {i : Nat} (h : Lib.idxOfS D x = (i : Int)) : li D x = 97 + UInt8.ofNat i := by unfold li; rw [h]; rfl
theorem getD_mem {l : List ByteArray} {k : Nat} (h : k < l.length) : l.getD k ByteArray.empty ∈ l := by simp [List.getD_eq_getElem?_getD, h]
noncomputable def dvV (s f : ByteArray) : Value := if (P s f).length = 0 ∨ 4 < (dd (R s f)).length then .tuple #[.string ⟨#[]⟩, .bool false] else .tuple #[.string ⟨(dl (dd (R s f)) (R s f) (R s f).length).toArray⟩, .bool true]
theorem dv_no {s f : ByteArray} (h : (P s f).length = 0 ∨ 4 < (dd (R s f)).length) : dvV s f = .tuple #[.string ⟨#[]⟩, .bool false] := by simp only [dvV]; rw [if_pos h]
theorem dv_yes {s f : ByteArray} (h : ¬ ((P s f).length = 0 ∨ 4 < (dd (R s f)).length)) : dvV s f = .tuple #[.string ⟨(dl (dd (R s f)) (R s f) (R s f).length).toArray⟩, .bool true] := by simp only [dvV]; rw [if_neg h]
theorem letter_add (l : List UInt8) (i : Nat) (h : i < 4) : (⟨l.toArray⟩ : ByteArray) ++ (⟨#[97, 98, 99, 100]⟩ : ByteArray).extract i (i + 1) = ⟨(l ++ [97 + UInt8.ofNat i]).toArray⟩ := by
  have e : (⟨#[97, 98, 99, 100]⟩ : ByteArray).extract i (i + 1) = ⟨#[97 + UInt8.ofNat i]⟩ := by
    match i, h with
    | 0, _ => rfl
    | 1, _ => rfl
    | 2, _ => rfl
    | 3, _ => rfl
  rw [e]; apply ByteArray.ext; simp
theorem letter_run (l : List UInt8) (i : Nat) (h : i < 4) (hl : l.length ≤ 1000) (w : World) : (Op.stringOp .add ⟨l.toArray⟩ ((⟨#[97, 98, 99, 100]⟩ : ByteArray).extract i (i + 1))).run Try.prog w = .ok (.string ⟨(l ++ [97 + UInt8.ofNat i]).toArray⟩) w := by
  have e : (⟨l.toArray⟩ : ByteArray).size = l.length := by simp [ByteArray.size]
  rw [run_string_add_sum w _ _ (by rw [e, ByteArray.size_extract]; omega), letter_add l i h]
theorem dv_form (s f : ByteArray) : ∃ (v : ByteArray) (b : Bool), dvV s f = .tuple #[.string v, .bool b] := by
  unfold dvV; split
  · exact ⟨_, _, rfl⟩
  · exact ⟨_, _, rfl⟩
end Go.Proofs.Ytieibopegmoanaa
