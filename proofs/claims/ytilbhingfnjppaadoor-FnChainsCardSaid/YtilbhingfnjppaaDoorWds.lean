/- All short words, level by level: the plain law and the walk. -/
import Derived.Test.YtilbhingfnjppaaDoorAppK
import Derived.Test.YtilbhingfnjppaaDoorLawT
set_option linter.unusedSimpArgs false
set_option linter.unusedVariables false
namespace Go.Proofs.YtilbhingfnjppaaDoor
open Go.RowKit
def letS (j : Nat) : ByteArray := (⟨#[97, 98, 99, 100]⟩ : ByteArray).extract j (j + 1)
def ext1 (k : Nat) (x : ByteArray) : List ByteArray := (List.range k).map (fun j => x ++ letS j)
def extL (k : Nat) (L : List ByteArray) : List ByteArray := L.flatMap (ext1 k)
def lev (k : Nat) : Nat → List ByteArray
  | 0 => [⟨#[]⟩]
  | i + 1 => extL k (lev k i)
def wds (k : Nat) : Nat → List ByteArray
  | 0 => [⟨#[]⟩]
  | i + 1 => wds k i ++ lev k (i + 1)
theorem ext1_len (k : Nat) (x : ByteArray) : (ext1 k x).length = k := by simp [ext1]
theorem extL_len (k : Nat) : ∀ L : List ByteArray, (extL k L).length = L.length * k
  | [] => by simp [extL]
  | a :: L => by
    have := extL_len k L
    unfold extL at *
    rw [List.flatMap_cons, List.length_append, this, ext1_len, List.length_cons, Nat.add_mul]; omega
theorem extL_next (k q : Nat) (L : List ByteArray) (h : q < L.length) : extL k (L.take (q + 1)) = extL k (L.take q) ++ ext1 k (L.getD q ByteArray.empty) := by
  unfold extL; rw [take_next L q ByteArray.empty h]; simp
theorem ext1_next (k j : Nat) (x : ByteArray) : ext1 (j + 1) x = ext1 j x ++ [x ++ letS j] := by simp [ext1, List.range_succ]
theorem lev_len (k : Nat) : ∀ i, (lev k i).length = k ^ i
  | 0 => rfl
  | i + 1 => by rw [lev, extL_len, lev_len k i, Nat.pow_succ]
theorem pow_bounds {k i : Nat} (h1 : 1 ≤ k) (hk : k ≤ 4) (hi : i ≤ 4) : 1 ≤ k ^ i ∧ k ^ i ≤ 256 := by
  have h4 := Nat.pow_le_pow_left hk i
  have h5 := Nat.pow_le_pow_right (show 0 < 4 by omega) hi
  have h6 := Nat.pow_le_pow_left h1 i
  rw [Nat.one_pow] at h6
  omega
theorem wds_len {k : Nat} (h1 : 1 ≤ k) (hk : k ≤ 4) : ∀ i, i ≤ 4 → (wds k i).length ≤ 1 + 256 * i
  | 0, _ => by simp [wds]
  | i + 1, hi => by
    have := wds_len h1 hk i (by omega)
    have h2 := (pow_bounds h1 hk hi).2
    rw [wds, List.length_append, lev_len]; omega
/-- The words of a level stand at the end. -/
theorem wds_end (k : Nat) : ∀ i, ∃ P, wds k i = P ++ lev k i
  | 0 => ⟨[], rfl⟩
  | i + 1 => ⟨wds k i, rfl⟩
theorem lev_size (k : Nat) : ∀ i, ∀ z ∈ lev k i, z.size ≤ i
  | 0, z, h => by simp [lev] at h; subst h; exact Nat.le_refl 0
  | i + 1, z, h => by
    unfold lev extL at h
    obtain ⟨x, hx, hz⟩ := List.mem_flatMap.1 h
    obtain ⟨j, _, rfl⟩ := List.mem_map.1 hz
    have := lev_size k i x hx
    rw [ByteArray.size_append]
    have : (letS j).size ≤ 1 := by unfold letS; rw [ByteArray.size_extract]; omega
    omega
theorem wds_size (k : Nat) : ∀ i, ∀ z ∈ wds k i, z.size ≤ i
  | 0, z, h => by simp [wds] at h; subst h; exact Nat.le_refl 0
  | i + 1, z, h => by
    rw [wds, List.mem_append] at h
    rcases h with h | h
    · have := wds_size k i z h; omega
    · exact lev_size k (i + 1) z h
theorem cap_keep {w w' : World} {g g' N fr l : Nat} {L : List ByteArray} (hc : Hid (∀ j, j < l → w.cell? ⟨g, fr + j, none⟩ = some (.string (L.getD j ByteArray.empty)))) (hfl : fr + l ≤ N) (hg : w.grownBy w' (some g')) (hk : ∀ j, j < N → w'.cell? ⟨g', j, none⟩ = w.cell? ⟨g', j, none⟩) (hl : g < w.heap.size) : Hid (∀ j, j < l → w'.cell? ⟨g, fr + j, none⟩ = some (.string (L.getD j ByteArray.empty))) := by
  intro j hj
  by_cases e : g = g'
  · subst e; exact (hk (fr + j) (by omega)).trans (hc.out j hj)
  · exact (hg.cell_far ⟨g, fr + j, none⟩ hl (by simp; exact e)).trans (hc.out j hj)
theorem cap_alloc {w : World} {o : Obj} {g fr l : Nat} {L : List ByteArray} (hc : Hid (∀ j, j < l → w.cell? ⟨g, fr + j, none⟩ = some (.string (L.getD j ByteArray.empty)))) (hl : g < w.heap.size) : Hid (∀ j, j < l → (w.alloc o).cell? ⟨g, fr + j, none⟩ = some (.string (L.getD j ByteArray.empty))) :=
  fun j hj => (calloc hl).trans (hc.out j hj)
end Go.Proofs.YtilbhingfnjppaaDoor
