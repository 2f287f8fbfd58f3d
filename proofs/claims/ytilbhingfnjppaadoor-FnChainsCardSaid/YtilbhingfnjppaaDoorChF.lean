/- Chains: the reference's walk. -/
import Derived.Test.YtilbhingfnjppaaDoorChE
import Derived.Test.YtilbhingfnjppaaDoorGoldV
set_option linter.unusedSimpArgs false
set_option linter.unusedVariables false
namespace Go.Proofs.YtilbhingfnjppaaDoor
open Go.RowKit
def clSk (lo hi : GP) (b : Int) (k : Nat) : List GP := ((List.range k).map (fun (s : Nat) => ((frst lo b + (s : Int), b) : GP))).filter (inC lo hi)
theorem clSk_next (lo hi : GP) (b : Int) (k : Nat) : clSk lo hi b (k + 1) = clSk lo hi b k ++ (if inC lo hi (frst lo b + (k : Int), b) = true then [(frst lo b + (k : Int), b)] else []) := by
  unfold clSk
  rw [List.range_succ, List.map_append, List.filter_append]
  congr 1
  rw [List.map_singleton, List.filter_cons, List.filter_nil]
theorem clSk_len (lo hi : GP) (b : Int) (k : Nat) : (clSk lo hi b k).length ≤ k := by
  unfold clSk
  refine Nat.le_trans (List.length_filter_le _ _) ?_
  simp
theorem allS_len (lo hi : GP) : ∀ N, (allS lo hi N).length ≤ 5 * N
  | 0 => by simp [allS]
  | N + 1 => by
    have h1 := allS_len lo hi N
    have h2 : (clS lo hi ((N : Int) - 200)).length ≤ 5 := clSk_len lo hi _ 5
    rw [allS_next, List.length_append]; omega
theorem fold_len : ∀ (zs L : List GP), (zs.foldl gput L).length = L.length + zs.length
  | [], L => by simp
  | a :: zs, L => by rw [List.foldl_cons, fold_len zs, gput_len]; simp; omega
theorem fold_mem : ∀ (zs L : List GP) (z : GP), z ∈ zs.foldl gput L ↔ z ∈ L ∨ z ∈ zs
  | [], L, z => by simp
  | a :: zs, L, z => by
    rw [List.foldl_cons, fold_mem zs, gput_mem, List.mem_cons]
    constructor
    · rintro ((h | h) | h)
      · exact .inr (.inl h)
      · exact .inl h
      · exact .inr (.inr h)
    · rintro (h | h | h)
      · exact .inl (.inr h)
      · exact .inl (.inl h)
      · exact .inr h
def PS (lo hi : GP) (t k : Nat) : List GP := (allS lo hi t ++ clSk lo hi ((t : Int) - 200) k).foldl gput []
theorem PS_in {lo hi : GP} {t k : Nat} (h : inC lo hi (frst lo ((t : Int) - 200) + (k : Int), (t : Int) - 200) = true) : PS lo hi t (k + 1) = gput (PS lo hi t k) (frst lo ((t : Int) - 200) + (k : Int), (t : Int) - 200) := by
  unfold PS; rw [clSk_next, if_pos h, ← List.append_assoc, List.foldl_append]; rfl
theorem PS_out {lo hi : GP} {t k : Nat} (h : inC lo hi (frst lo ((t : Int) - 200) + (k : Int), (t : Int) - 200) = false) : PS lo hi t (k + 1) = PS lo hi t k := by
  unfold PS; rw [clSk_next, if_neg (by rw [h]; simp), List.append_nil]
theorem PS_zero (lo hi : GP) : PS lo hi 0 0 = [] := rfl
theorem PS_roll (lo hi : GP) (t : Nat) : PS lo hi t 5 = PS lo hi (t + 1) 0 := by
  unfold PS; rw [allS_next]; simp [clSk, clS]
theorem PS_end (lo hi : GP) : PS lo hi 401 0 = specL lo hi := by unfold PS specL; simp [clSk]
theorem PS_len {lo hi : GP} {t k : Nat} (ht : t ≤ 401) (hk : k ≤ 5) : (PS lo hi t k).length ≤ 2100 := by
  unfold PS
  rw [fold_len, List.length_append]
  have h1 := allS_len lo hi t
  have h2 := clSk_len lo hi ((t : Int) - 200) k
  simp; omega
theorem frst_b {lo hi : GP} (hw : Win lo hi) {b : Int} (hb : -700 ≤ b ∧ b ≤ 700) : -10000 ≤ frst lo b ∧ frst lo b ≤ 10000 := by
  have hl1 := hw.l1; have hl2 := hw.l2
  obtain ⟨g0, _, _⟩ := flo_lin (a := -lo.1 + b) (b := -lo.2 - b) (by omega) (by omega)
  unfold frst; omega
theorem PS_bg {lo hi : GP} (hw : Win lo hi) {t k : Nat} (ht : t ≤ 401) (hk : k ≤ 5) : ∀ z ∈ PS lo hi t k, bg z := by
  intro z hz
  unfold PS at hz
  rcases (fold_mem _ _ _).1 hz with h | h
  · simp at h
  · rw [List.mem_append] at h
    have key : ∀ (s t : Nat), t ≤ 401 → s < 5 → bg (frst lo ((t : Int) - 200) + (s : Int), (t : Int) - 200) := fun s t h1 h2 => by
      have := frst_b hw (b := (t : Int) - 200) (by omega)
      exact ⟨⟨by show -50000 ≤ frst lo ((t : Int) - 200) + (s : Int); omega, by show frst lo ((t : Int) - 200) + (s : Int) ≤ 50000; omega⟩, ⟨by show -50000 ≤ (t : Int) - 200; omega, by show (t : Int) - 200 ≤ 50000; omega⟩⟩
    rcases h with h | h
    · obtain ⟨u, hu, hx⟩ := allS_mem.1 h
      unfold clS at hx
      obtain ⟨s, hs, rfl⟩ := List.mem_map.1 (List.mem_filter.1 hx).1
      rw [List.mem_range] at hs
      exact key s u (by omega) hs
    · unfold clSk at h
      obtain ⟨s, hs, rfl⟩ := List.mem_map.1 (List.mem_filter.1 h).1
      rw [List.mem_range] at hs
      exact key s t ht (by omega)
/-- The walk's tests in the words of the order of integers. -/
theorem in_sgn {lo hi : GP} {a b : Int} (hw : Win lo hi) (ha : -20000 ≤ a ∧ a ≤ 20000) (hb : -700 ≤ b ∧ b ≤ 700) : inC lo hi (a, b) = (decide (0 ≤ sgn a b) && mated lo.1 lo.2 hi.1 hi.2 a b) := by
  have hl1 := hw.l1; have hl2 := hw.l2; have hh1 := hw.h1; have hh2 := hw.h2
  have e1 := sgn_ge_lin (a := a) (b := b) (bd_of (by omega) (by omega)) (bd_of (by omega) (by omega))
  have e2 := sgn_ge_lin (a := a + b - lo.1) (b := -b - lo.2) (bd_of (by omega) (by omega)) (bd_of (by omega) (by omega))
  have e3 := sgn_ge_lin (a := a + b - hi.1) (b := -b - hi.2) (bd_of (by omega) (by omega)) (bd_of (by omega) (by omega))
  rw [Bool.eq_iff_iff, inC_iff]
  unfold mated
  simp only [Bool.and_eq_true, decide_eq_true_eq]
  rw [e1, e2]
  constructor
  · rintro ⟨h1, h2, h3⟩
    exact ⟨h1, h2, by have := mt e3.1 (by omega); omega⟩
  · rintro ⟨h1, h2, h3⟩
    exact ⟨h1, h2, by have := mt e3.2 (by omega); omega⟩
end Go.Proofs.YtilbhingfnjppaaDoor
