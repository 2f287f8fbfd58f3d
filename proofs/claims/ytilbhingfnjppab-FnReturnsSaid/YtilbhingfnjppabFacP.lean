/- Factors in the order of the alphabet: insertion, and sorting with what follows equal struck out, give one list. -/
import Derived.Test.YtilbhingfnjppabIns
import Derived.Lib.SlicesCompact
set_option linter.unusedSimpArgs false
set_option linter.unusedVariables false
namespace Go.Proofs.Ytilbhingfnjppab
open Go.RowKit
theorem le_tri {a b : List UInt8} (h : a ≤ b) (hne : a ≠ b) : a < b := by
  rcases Classical.em (a < b) with q | q
  · exact q
  · exact absurd (List.le_antisymm h (List.not_lt.1 q)) hne
theorem compact_asc (d : Array (List UInt8)) (N : Nat) (hd : ∀ i j, i < j → j < N → d[i]! ≤ d[j]!) : ∀ m, m ≤ N → (Lib.compactUpTo d m).Pairwise (· < ·) ∧ (∀ z, z ∈ Lib.compactUpTo d m ↔ ∃ j, j < m ∧ d[j]! = z)
  | 0, _ => by simp [Lib.compactUpTo]
  | m + 1, hm => by
    obtain ⟨h1, h2⟩ := compact_asc d N hd m (by omega)
    rw [Lib.compactUpTo_succ]
    by_cases hk : Lib.keeps d m = true
    · rw [if_pos hk]
      refine ⟨?_, fun z => ?_⟩
      · rw [List.pairwise_append]
        refine ⟨h1, by simp, fun a ha b hb => ?_⟩
        rw [List.mem_singleton] at hb
        subst hb
        obtain ⟨j, hj, e⟩ := (h2 a).1 ha
        have hne : d[m]! ≠ d[m - 1]! := by
          simp only [Lib.keeps, decide_eq_true_eq] at hk
          rcases hk with hk | hk
          · omega
          · exact hk
        have h3 : d[m - 1]! < d[m]! := le_tri (hd (m - 1) m (by omega) (by omega)) (Ne.symm hne)
        rw [← e]
        by_cases e2 : j = m - 1
        · subst e2; exact h3
        · exact List.lt_of_le_of_lt (hd j (m - 1) (by omega) (by omega)) h3
      · rw [List.mem_append, h2, List.mem_singleton]
        constructor
        · rintro (⟨j, hj, e⟩ | e)
          · exact ⟨j, by omega, e⟩
          · exact ⟨m, by omega, e.symm⟩
        · rintro ⟨j, hj, e⟩
          by_cases e2 : j = m
          · subst e2; exact .inr e.symm
          · exact .inl ⟨j, by omega, e⟩
    · rw [if_neg hk, List.append_nil]
      refine ⟨h1, fun z => ?_⟩
      rw [h2]
      simp only [Lib.keeps, decide_eq_true_eq, not_or, Classical.not_not] at hk
      constructor
      · rintro ⟨j, hj, e⟩; exact ⟨j, by omega, e⟩
      · rintro ⟨j, hj, e⟩
        by_cases e2 : j = m
        · subst e2; exact ⟨j - 1, by omega, by rw [← hk.2]; exact e⟩
        · exact ⟨j, by omega, e⟩
def bk (l : List UInt8) : ByteArray := ⟨l.toArray⟩
theorem bk_toList (l : List UInt8) : (bk l).toList = l := by rw [ByteArray.toList_eq]; simp [bk]
theorem bk_data (z : ByteArray) : bk z.data.toList = z := by cases z; simp [bk]
/-- Sorted, and each once. -/
def srt (zs : List ByteArray) : List ByteArray := (Lib.compact ((zs.map (fun z => z.data.toList)).mergeSort (fun x y => decide (x ≤ y)))).map bk
theorem srt_asc (zs : List ByteArray) : asc (srt zs) ∧ ∀ z, z ∈ srt zs ↔ z ∈ zs := by
  obtain ⟨S, hS⟩ : ∃ S, (zs.map (fun z => z.data.toList)).mergeSort (fun x y => decide (x ≤ y)) = S := ⟨_, rfl⟩
  have hp : S.Pairwise (fun a b => decide (a ≤ b) = true) := by
    rw [← hS]
    exact List.pairwise_mergeSort (fun a b c h1 h2 => by simp only [decide_eq_true_eq] at *; exact List.le_trans h1 h2) (fun a b => by simp only [Bool.or_eq_true, decide_eq_true_eq]; exact List.le_total a b) _
  have hm : ∀ z, z ∈ S ↔ z ∈ zs.map (fun z => z.data.toList) := fun z => by rw [← hS, List.mem_mergeSort]
  have hd : ∀ i j, i < j → j < S.length → S.toArray[i]! ≤ S.toArray[j]! := by
    intro i j hij hj
    have := List.pairwise_iff_getElem.1 hp i j (by omega) hj hij
    simpa [show i < S.length by omega, hj] using this
  obtain ⟨h1, h2⟩ := compact_asc S.toArray S.length hd S.length (Nat.le_refl _)
  have e : srt zs = (Lib.compactUpTo S.toArray S.length).map bk := by unfold srt; rw [hS]; rfl
  rw [e]
  refine ⟨?_, fun z => ?_⟩
  · unfold asc
    rw [List.pairwise_map]
    refine h1.imp (fun {a b} h => ?_)
    unfold sl; rw [bk_toList, bk_toList]; exact h
  · rw [List.mem_map]
    constructor
    · rintro ⟨a, ha, rfl⟩
      obtain ⟨j, hj, e⟩ := (h2 a).1 ha
      have : a ∈ S := by
        rw [← e]
        simp only [List.getElem!_toArray, List.getElem!_eq_getElem?_getD, List.getElem?_eq_getElem hj, Option.getD_some]
        exact List.getElem_mem _
      obtain ⟨y, hy, rfl⟩ := List.mem_map.1 ((hm a).1 this)
      rw [bk_data]; exact hy
    · intro hz
      have : z.data.toList ∈ S := (hm _).2 (List.mem_map.2 ⟨z, hz, rfl⟩)
      obtain ⟨j, hj, e⟩ := List.getElem_of_mem this
      refine ⟨z.data.toList, (h2 _).2 ⟨j, hj, ?_⟩, bk_data z⟩
      simp only [List.getElem!_toArray, List.getElem!_eq_getElem?_getD, List.getElem?_eq_getElem hj, Option.getD_some]
      exact e
theorem fold_asc : ∀ (zs L : List ByteArray), asc L → asc (zs.foldl lins L) ∧ ∀ z, z ∈ zs.foldl lins L ↔ z ∈ L ∨ z ∈ zs
  | [], L, h => ⟨h, fun z => by simp⟩
  | a :: zs, L, h => by
    obtain ⟨h1, h2⟩ := lins_asc h a
    obtain ⟨h3, h4⟩ := fold_asc zs (lins L a) h1
    refine ⟨h3, fun z => ?_⟩
    rw [List.foldl_cons, h4, h2, List.mem_cons]
    constructor
    · rintro ((h | h) | h)
      · exact .inr (.inl h)
      · exact .inl h
      · exact .inr (.inr h)
    · rintro (h | h | h)
      · exact .inl (.inr h)
      · exact .inl (.inl h)
      · exact .inr h
/-- The two ways of finding the factors agree. -/
theorem srt_fold (zs : List ByteArray) : srt zs = zs.foldl lins [] := by
  obtain ⟨h1, h2⟩ := srt_asc zs
  obtain ⟨h3, h4⟩ := fold_asc zs [] List.Pairwise.nil
  refine asc_eq h1 h3 (fun z => ?_)
  rw [h2, h4]; simp
end Go.Proofs.Ytilbhingfnjppab
