/- Chains: the kinds of steps, in plain lists. -/
import Derived.Test.YtilbhingfnjppaaDoorChE
import Derived.Lib.SlicesCompact
set_option linter.unusedSimpArgs false
set_option linter.unusedVariables false
namespace Go.Proofs.YtilbhingfnjppaaDoor
open Go.RowKit
theorem key_inj {x y : GP} (hx : bg x) (hy : bg y) (h : key x = key y) : x = y := by
  obtain ⟨⟨x1, x2⟩, ⟨x3, x4⟩⟩ := hx
  obtain ⟨⟨y1, y2⟩, ⟨y3, y4⟩⟩ := hy
  obtain ⟨h1, h2⟩ := vl_inj (a := x.1) (b := x.2) (c := y.1) (d := y.2) (bd_of (by omega) (by omega)) (bd_of (by omega) (by omega)) h
  exact Prod.ext h1 h2
/-- Is the number among these? -/
def kn (L : List GP) (x : GP) : Bool := L.any (fun y => (x.1 == y.1) && (x.2 == y.2))
theorem kn_iff (L : List GP) (x : GP) : kn L x = true ↔ x ∈ L := by
  unfold kn
  rw [List.any_eq_true]
  constructor
  · rintro ⟨y, hy, h⟩
    rw [Bool.and_eq_true, beq_iff_eq, beq_iff_eq] at h
    have : x = y := Prod.ext h.1 h.2
    rw [this]; exact hy
  · intro h
    exact ⟨x, h, by simp⟩
theorem kn_next (L : List GP) (x : GP) (k : Nat) (h : k < L.length) : kn (L.take (k + 1)) x = (kn (L.take k) x || ((x.1 == (L.getD k (0, 0)).1) && (x.2 == (L.getD k (0, 0)).2))) := by
  have : L.take (k + 1) = L.take k ++ [L.getD k (0, 0)] := by
    rw [List.take_add_one, List.getD_eq_getElem?_getD, List.getElem?_eq_getElem h]; rfl
  unfold kn
  rw [this, List.any_append]
  simp
def kdS (out : List GP) (x : GP) : List GP := if kn out x = true then out else gput out x
def kd (S : List GP) (k : Nat) : List GP := (S.take k).foldl kdS []
theorem kd_next (S : List GP) (k : Nat) (h : k < S.length) : kd S (k + 1) = kdS (kd S k) (S.getD k (0, 0)) := by
  have : S.take (k + 1) = S.take k ++ [S.getD k (0, 0)] := by
    rw [List.take_add_one, List.getD_eq_getElem?_getD, List.getElem?_eq_getElem h]; rfl
  unfold kd
  rw [this, List.foldl_append]; rfl
theorem kdS_fold : ∀ (S L : List GP), (∀ z ∈ S, bg z) → (∀ z ∈ L, bg z) → ascK L → ascK (S.foldl kdS L) ∧ ∀ z, z ∈ S.foldl kdS L ↔ z ∈ L ∨ z ∈ S
  | [], L, _, _, h => ⟨h, fun z => by simp⟩
  | a :: S, L, hS, hL, h => by
    have ha := hS a (by simp)
    have key : ascK (kdS L a) ∧ ∀ z, z ∈ kdS L a ↔ z ∈ L ∨ z = a := by
      unfold kdS
      split
      · rename_i hk
        have hm := (kn_iff L a).1 hk
        exact ⟨h, fun z => ⟨fun q => .inl q, fun q => by rcases q with q | rfl <;> assumption⟩⟩
      · rename_i hk
        have hm : ¬ a ∈ L := fun q => hk ((kn_iff L a).2 q)
        refine ⟨gput_asc h (fun y hy e => hm ?_), fun z => by rw [gput_mem]; exact Or.comm⟩
        rw [← key_inj (hL y hy) ha e]; exact hy
    obtain ⟨h1, h2⟩ := kdS_fold S (kdS L a) (fun z hz => hS z (by simp [hz])) (fun z hz => by
      rcases (key.2 z).1 hz with q | rfl
      · exact hL z q
      · exact ha) key.1
    refine ⟨h1, fun z => ?_⟩
    rw [List.foldl_cons, h2, key.2, List.mem_cons]
    constructor
    · rintro ((q | q) | q)
      · exact .inl q
      · exact .inr (.inl q)
      · exact .inr (.inr q)
    · rintro (q | q | q)
      · exact .inl (.inl q)
      · exact .inl (.inr q)
      · exact .inr q
theorem kd_len (S : List GP) : ∀ k, k ≤ S.length → (kd S k).length ≤ k
  | 0, _ => by simp [kd]
  | k + 1, h => by
    have := kd_len S k (by omega)
    rw [kd_next S k (by omega)]
    unfold kdS
    split
    · omega
    · rw [gput_len]; omega
theorem kd_bg {S : List GP} (hS : ∀ z ∈ S, bg z) (k : Nat) : ∀ z ∈ kd S k, bg z := by
  intro z hz
  have := (kdS_fold (S.take k) [] (fun z hz => hS z (List.mem_of_mem_take hz)) (by simp) List.Pairwise.nil).2 z
  rcases this.1 hz with q | q
  · simp at q
  · exact hS z (List.mem_of_mem_take q)
/-- What Compact leaves of a sorted list. -/
theorem comp_asc {M : List GP} (hM : ∀ z ∈ M, bg z) (hs : M.Pairwise (fun x y => key x ≤ key y)) : ∀ m, m ≤ M.length → ascK (Lib.compactUpTo M.toArray m) ∧ ∀ z, z ∈ Lib.compactUpTo M.toArray m ↔ z ∈ M.take m
  | 0, _ => by simp [Lib.compactUpTo, ascK]
  | m + 1, h => by
    obtain ⟨h1, h2⟩ := comp_asc hM hs m (by omega)
    have ht : M.take (m + 1) = M.take m ++ [M[m]] := by
      rw [List.take_add_one, List.getElem?_eq_getElem (by omega)]; rfl
    have hgm : M.toArray[m]! = M[m] := by rw [getElem!_pos _ _ (by simp; omega)]; simp
    have hle : ∀ y ∈ M.take m, key y ≤ key M[m] := by
      intro y hy
      obtain ⟨i, hi, e⟩ := List.getElem_of_mem hy
      have hi' : i < m := by simp at hi; omega
      rw [List.getElem_take] at e
      have := List.pairwise_iff_getElem.1 hs i m (by omega) (by omega) hi'
      rw [e] at this; exact this
    rw [Lib.compactUpTo_succ]
    cases hk : Lib.keeps M.toArray m
    · rw [if_neg (by simp), List.append_nil]
      refine ⟨h1, fun z => ?_⟩
      have hk' := hk
      unfold Lib.keeps at hk'
      simp only [decide_eq_false_iff_not, not_or, Classical.not_not] at hk'
      obtain ⟨hm0, he⟩ := hk'
      have hgp : M.toArray[m - 1]! = M[m - 1] := by rw [getElem!_pos _ _ (by simp; omega)]; simp
      rw [hgm, hgp] at he
      rw [h2, ht, List.mem_append, List.mem_singleton]
      constructor
      · exact .inl
      · rintro (q | rfl)
        · exact q
        · rw [he]
          exact List.mem_take_iff_getElem.2 ⟨m - 1, by omega, rfl⟩
    · rw [if_pos rfl, hgm]
      constructor
      · unfold ascK
        rw [List.pairwise_append]
        refine ⟨h1, by simp, fun y hy z hz => ?_⟩
        simp at hz; subst hz
        have hy' := (h2 y).1 hy
        have hk' := hk
        unfold Lib.keeps at hk'
        simp only [decide_eq_true_eq] at hk'
        have hm0 : m ≠ 0 := by rintro rfl; simp at hy'
        have hne : M[m] ≠ M[m - 1] := by
          rcases hk' with q | q
          · exact absurd q hm0
          · have hgp : M.toArray[m - 1]! = M[m - 1] := by rw [getElem!_pos _ _ (by simp; omega)]; simp
            rwa [hgm, hgp] at q
        have k1 : key y ≤ key M[m - 1] := by
          obtain ⟨i, hi, e⟩ := List.getElem_of_mem hy'
          have hi' : i < m := by simp at hi; omega
          rw [List.getElem_take] at e
          by_cases hq : i = m - 1
          · subst hq; rw [e]; exact Int.le_refl _
          · have := List.pairwise_iff_getElem.1 hs i (m - 1) (by omega) (by omega) (by omega)
            rw [e] at this; exact this
        have k2 : key M[m - 1] ≤ key M[m] := List.pairwise_iff_getElem.1 hs (m - 1) m (by omega) (by omega) (by omega)
        have k3 : key M[m] ≠ key M[m - 1] := fun e => hne (key_inj (hM _ (List.getElem_mem _)) (hM _ (List.getElem_mem _)) e)
        omega
      · intro z
        rw [ht, List.mem_append, List.mem_append, h2]
theorem kinds_eq {S M : List GP} (hS : ∀ z ∈ S, bg z) (hp : M.Perm S) (hs : M.Pairwise (fun x y => key x ≤ key y)) : Lib.compactUpTo M.toArray M.length = kd S S.length := by
  obtain ⟨h1, h2⟩ := comp_asc (fun z hz => hS z (hp.mem_iff.1 hz)) hs M.length (Nat.le_refl _)
  obtain ⟨h3, h4⟩ := kdS_fold (S.take S.length) [] (fun z hz => hS z (List.mem_of_mem_take hz)) (by simp) List.Pairwise.nil
  refine ascK_eq h1 h3 (fun z => ?_)
  show _ ↔ z ∈ (S.take S.length).foldl kdS []
  rw [h2, h4, List.take_length, List.take_length, hp.mem_iff]
  simp
end Go.Proofs.YtilbhingfnjppaaDoor
