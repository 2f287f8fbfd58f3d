/- The law on return words: the plain facts. -/
import Derived.Test.YtilbhingfnjppabMPar
import Derived.Test.YtilbhingfnjppabWordsJ
import Derived.Test.YtilbhingfnjppabRetS
import Derived.Test.YtilbhingfnjppabCntR
import Derived.Test.YtilbhingfnjppabMDrb
set_option linter.unusedSimpArgs false
set_option linter.unusedVariables false
namespace Go.Proofs.Ytilbhingfnjppab
open Go.RowKit
theorem tl_eq {x y : ByteArray} : ((x.toList == y.toList) = true) ↔ x = y := by
  rw [beq_iff_eq, ByteArray.toList_eq, ByteArray.toList_eq]
  constructor
  · intro h
    cases x; cases y
    simp only [ByteArray.mk.injEq]
    exact Array.toList_inj.1 h
  · rintro rfl; rfl
theorem hitP_iff {s f : ByteArray} {i : Nat} : hit s f i = true ↔ s.extract i (i + f.size) = f := tl_eq
theorem mem_places {s f : ByteArray} {i : Nat} : i ∈ places s f ↔ i < s.size + 1 - f.size ∧ hit s f i = true := by
  unfold places pl
  rw [List.mem_filter, List.mem_range]
theorem places_sorted (s f : ByteArray) : (places s f).Pairwise (· < ·) := List.Pairwise.filter _ List.pairwise_lt_range
theorem places_lt (s f : ByteArray) {a b : Nat} (h : a < b) (hb : b < (places s f).length) : (places s f).getD a 0 < (places s f).getD b 0 := by
  have := List.pairwise_iff_getElem.1 (places_sorted s f) a b (by omega) hb h
  simpa [List.getD_eq_getElem?_getD, hb, show a < (places s f).length by omega] using this
theorem places_at (s f : ByteArray) {a : Nat} (h : a < (places s f).length) : (places s f).getD a 0 ∈ places s f := by
  rw [List.getD_eq_getElem?_getD, List.getElem?_eq_getElem h]; exact List.getElem_mem _
theorem places_bd (s f : ByteArray) {a : Nat} (hf : f.size ≤ s.size) (h : a < (places s f).length) : (places s f).getD a 0 + f.size ≤ s.size := by
  have := (mem_places.1 (places_at s f h)).1; omega
/-- Between two places that follow each other there is none. -/
theorem places_none (s f : ByteArray) {k c : Nat} (hk : k + 1 < (places s f).length) (h1 : (places s f).getD k 0 < c) (h2 : c < (places s f).getD (k + 1) 0) : hit s f c = false := by
  cases h : hit s f c
  · rfl
  · have hm := (mem_places.1 (places_at s f hk)).1
    have hc : c ∈ places s f := mem_places.2 ⟨by omega, h⟩
    obtain ⟨j, hj, e⟩ := List.getElem_of_mem hc
    have ej : (places s f).getD j 0 = c := by rw [List.getD_eq_getElem?_getD, List.getElem?_eq_getElem hj]; exact e
    rcases Nat.lt_or_ge k j with q | q
    · rcases Nat.lt_or_ge (k + 1) j with q2 | q2
      · have := places_lt s f q2 hj; omega
      · have : j = k + 1 := by omega
        subst this; omega
    · rcases Nat.lt_or_ge j k with q2 | q2
      · have := places_lt s f q2 (show k < _ by omega); omega
      · have : j = k := by omega
        subst this; omega
/-- The pieces up to a place, one after the other. -/
def allP (s f : ByteArray) (k : Nat) : ByteArray := s.extract ((places s f).getD 0 0) ((places s f).getD k 0)
theorem places_le (s f : ByteArray) {a b : Nat} (h : a ≤ b) (hb : b < (places s f).length) : (places s f).getD a 0 ≤ (places s f).getD b 0 := by
  rcases Nat.lt_or_ge a b with q | q
  · have := places_lt s f q hb; omega
  · have : a = b := by omega
    subst this; omega
theorem allP_zero (s f : ByteArray) : allP s f 0 = ⟨#[]⟩ := by
  apply tl_eq.1
  rw [beq_iff_eq, ByteArray.toList_eq, ByteArray.toList_eq]
  unfold allP
  simp [ByteArray.data_extract]
theorem allP_next (s f : ByteArray) {k : Nat} (hk : k + 1 < (places s f).length) : allP s f (k + 1) = allP s f k ++ s.extract ((places s f).getD k 0) ((places s f).getD (k + 1) 0) := by
  unfold allP
  rw [ext_join (places_le s f (Nat.zero_le k) (by omega)) (places_le s f (Nat.le_succ k) hk)]
theorem idx_at {D : List ByteArray} {x : ByteArray} (h : x ∈ D) : ∃ i : Nat, Lib.idxOfS D x = (i : Int) ∧ i < D.length ∧ D.getD i ByteArray.empty = x := by
  obtain ⟨k, hk, he⟩ := List.getElem_of_mem h
  have : ∀ n, (∃ j, j ≤ n ∧ j < D.length ∧ D.getD j ByteArray.empty = x) → ∃ i : Nat, Lib.idxOfS D x = (i : Int) ∧ i < D.length ∧ D.getD i ByteArray.empty = x := by
    intro n
    induction n with
    | zero =>
      rintro ⟨j, hj, hl, e⟩
      obtain rfl : j = 0 := by omega
      have := Lib.idxOfS_hit D D.length 0 x hl (Nat.le_refl _) e (fun j hj => absurd hj (by omega))
      rw [List.take_length] at this
      exact ⟨0, this, hl, e⟩
    | succ n ih =>
      rintro ⟨j, hj, hl, e⟩
      by_cases hex : ∃ j, j ≤ n ∧ j < D.length ∧ D.getD j ByteArray.empty = x
      · exact ih hex
      · have hjn : j = n + 1 := by
          by_cases hjn : j ≤ n
          · exact absurd ⟨j, hjn, hl, e⟩ hex
          · omega
        subst hjn
        have := Lib.idxOfS_hit D D.length (n + 1) x hl (Nat.le_refl _) e (fun j hj he => hex ⟨j, by omega, by omega, he⟩)
        rw [List.take_length] at this
        exact ⟨n + 1, this, hl, e⟩
  exact this k ⟨k, Nat.le_refl _, hk, by simp [List.getD_eq_getElem?_getD, hk, he]⟩
/-- The derived word, read back with the list. -/
theorem back {D L : List ByteArray} (hD : ∀ x ∈ L, x ∈ D) (h4 : D.length ≤ 4) (d : ByteArray) (hd : d = ⟨(dl D L L.length).toArray⟩) : d.size = L.length ∧ (∀ j, j < d.size → inL d j ∧ lt d j < D.length ∧ D.getD (lt d j) ByteArray.empty = L.getD j ByteArray.empty) := by
  have hs : d.size = L.length := by
    rw [hd]
    show (dl D L L.length).toArray.size = _
    rw [List.size_toArray, dl_len D L _ (Nat.le_refl _)]
  refine ⟨hs, fun j hj => ?_⟩
  have hjl : j < L.length := by omega
  have hm : L.getD j ByteArray.empty ∈ L := getD_mem hjl
  obtain ⟨i, e1, e2, e3⟩ := idx_at (hD _ hm)
  have hb : bt d j = 97 + (i : Int) := by
    rw [← bt_eq d j hj]
    have : d[j] = 97 + UInt8.ofNat i := by
      subst hd
      show (dl D L L.length).toArray[j]'_ = _
      simp only [List.getElem_toArray, dl, List.take_length, List.getElem_map]
      rw [← li_at e1]
      congr 1
      rw [List.getD_eq_getElem?_getD, List.getElem?_eq_getElem hjl]; rfl
    rw [this]
    have : i < 4 := by omega
    match i, this with
    | 0, _ => decide
    | 1, _ => decide
    | 2, _ => decide
    | 3, _ => decide
  refine ⟨by unfold inL; omega, by unfold lt; omega, ?_⟩
  have : lt d j = i := by unfold lt; omega
  rw [this, e3]
end Go.Proofs.Ytilbhingfnjppab
