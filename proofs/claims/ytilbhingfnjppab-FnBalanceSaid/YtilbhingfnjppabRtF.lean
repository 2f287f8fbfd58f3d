/- The law on return words: what the program's answers are at such words. -/
import Derived.Test.YtilbhingfnjppabRtE
set_option linter.unusedSimpArgs false
set_option linter.unusedVariables false
namespace Go.Proofs.Ytilbhingfnjppab
open Go.RowKit
variable {s f : ByteArray} {n i : Nat}
theorem SF.word (h : SF s f n i) (a b : Nat) : isWP (s.extract a b) := isW_of (let_wd (letP_ext h.hs a b) (by rw [ByteArray.size_extract]; have := h.s50; omega))
theorem SF.longest (h : SF s f n i) : lrV s f = (mx (R s f) : Nat) := by
  unfold lrV
  rw [h.P, if_neg (by have := h.len; omega)]
theorem SF.le_longest (h : SF s f n i) {k : Nat} (hk : k + 1 < (places s f).length) : ((R s f).getD k ByteArray.empty).size ≤ mx (R s f) :=
  (mx_spec (R s f) 0).1.2 _ (getD_mem (by rw [h.lenR]; omega))
theorem dd_first : ∀ (L o : List ByteArray), 0 < o.length → (L.foldl ins o).getD 0 ByteArray.empty = o.getD 0 ByteArray.empty
  | [], _, _ => rfl
  | a :: L, o, ho => by
    have hi : (ins o a).getD 0 ByteArray.empty = o.getD 0 ByteArray.empty := by
      unfold ins
      split
      · rfl
      · rw [List.getD_eq_getElem?_getD, List.getD_eq_getElem?_getD, List.getElem?_append_left ho]
    have hl : 0 < (ins o a).length := by
      unfold ins
      split
      · exact ho
      · rw [List.length_append]; omega
    rw [List.foldl_cons, dd_first L _ hl, hi]
theorem dd_head {L : List ByteArray} (h : 0 < L.length) : (dd L).getD 0 ByteArray.empty = L.getD 0 ByteArray.empty ∧ 0 < (dd L).length := by
  cases L with
  | nil => cases h
  | cons a L =>
    have hm : a ∈ dd (a :: L) := (mem_dd _ _).2 (by simp)
    refine ⟨?_, List.length_pos_of_mem hm⟩
    unfold dd
    rw [List.foldl_cons, dd_first L _ (by simp [ins])]
    simp [ins]
theorem SF.derived (h : SF s f n i) (h4 : (dd (R s f)).length ≤ 4) : ∃ d : ByteArray, dvV s f = .tuple #[.string d, .bool true] ∧ d.size = (places s f).length - 1 ∧ (0 < d.size → bt d 0 = 97) ∧ fdV d (dd (R s f)) = .tuple #[.string (allP s f ((places s f).length - 1)), .bool true] ∧ FDok d (dd (R s f)) := by
  have hl := h.len
  have hlR := h.lenR
  have hlt : ∀ a, ((places s f).getD a 0) ≤ s.size ∨ True := fun _ => .inr trivial
  refine ⟨_, dv_yes (by rw [h.P]; omega), ?_⟩
  obtain ⟨d, hd⟩ : ∃ d, (⟨(dl (dd (R s f)) (R s f) (R s f).length).toArray⟩ : ByteArray) = d := ⟨_, rfl⟩
  rw [hd]
  obtain ⟨hs, hj⟩ := back (D := dd (R s f)) (L := R s f) (fun x hx => (mem_dd _ _).2 hx) h4 d hd.symm
  have hcc : ∀ k, k + 1 ≤ (places s f).length → cc d (dd (R s f)) k = allP s f k := by
    intro k
    induction k with
    | zero => intro _; rw [allP_zero]; rfl
    | succ k ih =>
      intro hk
      rw [cc_succ, ih (by omega), allP_next s f (by omega), (hj k (by omega)).2.2, h.atR (by omega)]
  have hpl : (places s f).length ≤ s.size + 1 := Nat.le_trans (pl_le s f _) (by omega)
  have e := hcc ((places s f).length - 1) (by omega)
  have hds : d.size = (places s f).length - 1 := by omega
  have hok : FDok d (dd (R s f)) := by
    refine ⟨⟨by have := h.s50; omega, fun j hj' => (hj j hj').1⟩, h4, fun j hj' => (hj j hj').2.1, fun j hj' => ?_, ?_⟩
    · obtain ⟨k, _, e2⟩ := h.memR (getD_mem hj')
      rw [e2]; exact h.word _ _
    · rw [hds, e]; exact h.word _ _
  refine ⟨hds, fun h0 => ?_, ?_, hok⟩
  · have q := hj 0 h0
    have hR0 : 0 < (R s f).length := by omega
    have hh := dd_head hR0
    have hx := Lib.idxOfS_hit (dd (R s f)) (dd (R s f)).length 0 ((R s f).getD 0 ByteArray.empty) hh.2 (Nat.le_refl _) hh.1 (fun j hj => absurd hj (by omega))
    rw [List.take_length] at hx
    rw [← bt_eq d 0 h0]
    have : d[0] = 97 + UInt8.ofNat 0 := by
      subst hd
      show (dl (dd (R s f)) (R s f) (R s f).length).toArray[0]'_ = _
      simp only [List.getElem_toArray, dl, List.take_length, List.getElem_map]
      rw [← li_at hx]
      congr 1
      rw [List.getD_eq_getElem?_getD, List.getElem?_eq_getElem hR0]; rfl
    rw [this]; decide
  · rw [fd_yes hok, hds, e]
theorem SF.notDerived (h : SF s f n i) (h4 : ¬ (dd (R s f)).length ≤ 4) : dvV s f = .tuple #[.string ⟨#[]⟩, .bool false] := dv_no (.inr (by omega))
end Go.Proofs.Ytilbhingfnjppab
