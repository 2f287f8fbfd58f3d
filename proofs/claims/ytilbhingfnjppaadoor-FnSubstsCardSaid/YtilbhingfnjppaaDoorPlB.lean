/- Parents, in plain lists: how many there are, and the least one. -/
import Derived.Test.YtilbhingfnjppaaDoorPlA
set_option linter.unusedSimpArgs false
set_option linter.unusedVariables false
namespace Go.Proofs.YtilbhingfnjppaaDoor
open Go.RowKit
/-- In how many ways the rest can be made (at most a million). -/
def Wy (zs : List ByteArray) (s : ByteArray) (p : Nat) : Int := (wys s zs).getD p 0
def sg (g : Nat → Int) : Nat → Int
  | 0 => 0
  | n + 1 => sg g n + g n
theorem sg_nn {g : Nat → Int} (h : ∀ i, 0 ≤ g i) : ∀ n, 0 ≤ sg g n
  | 0 => by simp [sg]
  | n + 1 => by have := sg_nn h n; have := h n; simp only [sg]; omega
theorem sg_ge {g : Nat → Int} (h : ∀ i, 0 ≤ g i) {j : Nat} : ∀ {n}, j < n → g j ≤ sg g n
  | 0, hj => by omega
  | n + 1, hj => by
    simp only [sg]
    by_cases e : j = n
    · subst e; have := sg_nn h j; omega
    · have := sg_ge h (j := j) (n := n) (by omega); have := h n; omega
theorem sg_two {g : Nat → Int} (h : ∀ i, 0 ≤ g i) {i j : Nat} (hij : i < j) : ∀ {n}, j < n → g i + g j ≤ sg g n
  | 0, hj => by omega
  | n + 1, hj => by
    simp only [sg]
    by_cases e : j = n
    · subst e; have := sg_ge h hij; omega
    · have := sg_two h hij (n := n) (by omega); have := h n; omega
theorem sg_pos {g : Nat → Int} (h : ∀ i, 0 ≤ g i) : ∀ {n}, 0 < sg g n → ∃ j, j < n ∧ 0 < g j
  | 0, hp => by simp [sg] at hp
  | n + 1, hp => by
    simp only [sg] at hp
    by_cases e : 0 < g n
    · exact ⟨n, by omega, e⟩
    · obtain ⟨j, h1, h2⟩ := sg_pos h (n := n) (by omega)
      exact ⟨j, by omega, h2⟩
theorem sg_big {g : Nat → Int} (h : ∀ i, 0 ≤ g i) : ∀ {n}, 2 ≤ sg g n → (∃ i, i < n ∧ 2 ≤ g i) ∨ ∃ i j, i < j ∧ j < n ∧ 0 < g i ∧ 0 < g j
  | 0, hp => by simp [sg] at hp
  | n + 1, hp => by
    simp only [sg] at hp
    by_cases e2 : 2 ≤ g n
    · exact .inl ⟨n, by omega, e2⟩
    · by_cases e : 0 < g n
      · obtain ⟨j, h1, h2⟩ := sg_pos h (n := n) (by omega)
        exact .inr ⟨j, n, h1, by omega, h2, e⟩
      · have h0 := h n
        rcases sg_big h (n := n) (by omega) with ⟨i, h1, h2⟩ | ⟨i, j, h1, h2, h3, h4⟩
        · exact .inl ⟨i, by omega, h2⟩
        · exact .inr ⟨i, j, h1, by omega, h3, h4⟩
theorem Wy_low (zs : List ByteArray) (s : ByteArray) (p : Nat) : 0 ≤ Wy zs s p ∧ Wy zs s p ≤ 1000000 := wq_low s zs s.size p
theorem Wy_end (zs : List ByteArray) (s : ByteArray) : Wy zs s s.size = 1 := by
  unfold Wy
  rw [wys_at s zs 0 s.size (by omega) (by omega), wq, getD_set_eq (by simp)]
noncomputable def gw (zs : List ByteArray) (s : ByteArray) (p i : Nat) : Int := if hitP s (im1 zs i) p = true then Wy zs s (p + (im1 zs i).size) else 0
theorem gw_nn (zs : List ByteArray) (s : ByteArray) (p i : Nat) : 0 ≤ gw zs s p i := by
  unfold gw; split
  · exact (Wy_low zs s _).1
  · omega
theorem take_succ_getD {zs : List ByteArray} {k : Nat} (h : k < zs.length) : zs.take (k + 1) = zs.take k ++ [im1 zs k] := by
  rw [List.take_add_one, List.getElem?_eq_getElem h]
  unfold im1
  rw [List.getD_eq_getElem?_getD, List.getElem?_eq_getElem h]; rfl
theorem Wy_rec {zs : List ByteArray} (hS : sB zs = true) {s : ByteArray} {p : Nat} (hp : p < s.size) : Wy zs s p = min 1000000 (sg (gw zs s p) zs.length) := by
  have e1 : Wy zs s p = (zs.foldl (stp s p) (wq s zs (s.size - (p + 1)))).getD p 0 := by
    unfold Wy
    rw [wys_at s zs (s.size - p) p (by omega) (by omega), wq_next s zs p hp]
  obtain ⟨X, hX⟩ : ∃ X, wq s zs (s.size - (p + 1)) = X := ⟨_, rfl⟩
  have hlow : low X := by rw [← hX]; exact wq_low s zs _
  have hX0 : X.getD p 0 = 0 := by rw [← hX]; exact wq_zero s zs _ p (by omega)
  have hXW : ∀ j, p + 1 ≤ j → X.getD j 0 = Wy zs s j := fun j hj => by
    rw [← hX]; unfold Wy; rw [wys_at s zs (s.size - (p + 1)) j (by omega) (by omega)]
  have hXl : X.length = s.size + 1 := by rw [← hX]; exact wq_len s zs _
  rw [hX] at e1
  have key : ∀ k, k ≤ zs.length → ((zs.take k).foldl (stp s p) X).getD p 0 = min 1000000 (sg (gw zs s p) k) := by
    intro k
    induction k with
    | zero => intro _; rw [List.take_zero, List.foldl_nil, hX0]; rfl
    | succ k ih =>
      intro hk
      have ih := ih (by omega)
      rw [take_succ_getD (by omega), List.foldl_append, List.foldl_cons, List.foldl_nil]
      obtain ⟨Y, hY⟩ : ∃ Y, (zs.take k).foldl (stp s p) X = Y := ⟨_, rfl⟩
      have hYl : Y.length = s.size + 1 := by rw [← hY, fold_len, hXl]
      have hYlow : low Y := by rw [← hY]; exact fold_low _ _ hlow
      have hge := im1_ge hS (show k < zs.length by omega)
      have hYj : ∀ j, p + 1 ≤ j → Y.getD j 0 = Wy zs s j := fun j hj => by rw [← hY, fold_other (by omega), hXW j hj]
      rw [hY] at ih ⊢
      simp only [sg]
      have hs0 := sg_nn (gw_nn zs s p) k
      unfold stp
      by_cases hh : hitP s (im1 zs k) p = true
      · rw [if_pos hh, getD_set_eq (by omega), ih, hYj _ (by omega)]
        have hg : gw zs s p k = Wy zs s (p + (im1 zs k).size) := by unfold gw; rw [if_pos hh]
        have hl := Wy_low zs s (p + (im1 zs k).size)
        rw [hg, IntWalk.wrap64_in _ (by omega)]
        omega
      · rw [if_neg hh, ih]
        have hg : gw zs s p k = 0 := by unfold gw; rw [if_neg hh]
        rw [hg]; simp
  have := key zs.length (Nat.le_refl _)
  rw [List.take_length] at this
  rw [e1, this]
theorem gw_pos {zs : List ByteArray} {s : ByteArray} {p i : Nat} (h : 0 < gw zs s p i) : hitP s (im1 zs i) p = true ∧ gw zs s p i = Wy zs s (p + (im1 zs i).size) := by
  unfold gw at h ⊢
  by_cases hh : hitP s (im1 zs i) p = true
  · exact ⟨hh, by rw [if_pos hh]⟩
  · rw [if_neg hh] at h; omega
theorem gw_hit {zs : List ByteArray} {s : ByteArray} {p i : Nat} (h : hitP s (im1 zs i) p = true) : gw zs s p i = Wy zs s (p + (im1 zs i).size) := by unfold gw; rw [if_pos h]
/-- What can be made has a way. -/
theorem Wy_some {zs : List ByteArray} (hS : sB zs = true) {s : ByteArray} : ∀ {ks : List Nat} {p : Nat}, p ≤ s.size → prt zs s p ks s.size → 0 < Wy zs s p
  | [], p, hp, h => by have h : p = s.size := h
                       rw [h, Wy_end]; omega
  | k :: ks, p, hp, h => by
    have hk := im1_ge hS h.1
    have h1 := (hit_iff.1 h.2.1).1
    have h2 := Wy_some hS h1 h.2.2
    rw [Wy_rec hS (by omega)]
    have h3 := sg_ge (gw_nn zs s p) h.1
    rw [gw_hit h.2.1] at h3
    omega
theorem Wy_way {zs : List ByteArray} (hS : sB zs = true) {s : ByteArray} : ∀ (c p : Nat), s.size - p ≤ c → p ≤ s.size → 0 < Wy zs s p → ∃ ks, prt zs s p ks s.size
  | 0, p, hc, hp, _ => ⟨[], by show p = s.size; omega⟩
  | c + 1, p, hc, hp, h => by
    by_cases e : p = s.size
    · exact ⟨[], e⟩
    · rw [Wy_rec hS (by omega)] at h
      obtain ⟨i, hi, hg⟩ := sg_pos (gw_nn zs s p) (n := zs.length) (by omega)
      obtain ⟨h1, h2⟩ := gw_pos hg
      have h3 := (hit_iff.1 h1).1
      have h4 := im1_ge hS hi
      obtain ⟨ks, hk⟩ := Wy_way hS c (p + (im1 zs i).size) (by omega) h3 (by omega)
      exact ⟨i :: ks, hi, h1, hk⟩
/-- One way alone: all parents are one. -/
theorem Wy_one {zs : List ByteArray} (hS : sB zs = true) {s : ByteArray} : ∀ {ks js : List Nat} {p : Nat}, p ≤ s.size → Wy zs s p = 1 → prt zs s p ks s.size → prt zs s p js s.size → ks = js
  | [], js, p, hp, _, h1, h2 => by
    have h1 : p = s.size := h1
    subst h1
    exact (prt_end hS h2).symm
  | k :: ks, [], p, hp, _, h1, h2 => by
    have h2 : p = s.size := h2
    subst h2
    exact prt_end hS h1
  | k :: ks, j :: js, p, hp, hw, h1, h2 => by
    have k1 := im1_ge hS h1.1
    have a1 := (hit_iff.1 h1.2.1).1
    have a2 := (hit_iff.1 h2.2.1).1
    have b1 := Wy_some hS a1 h1.2.2
    have b2 := Wy_some hS a2 h2.2.2
    have g1 := gw_hit h1.2.1
    have g2 := gw_hit h2.2.1
    rw [Wy_rec hS (by omega)] at hw
    have e : k = j := by
      rcases Nat.lt_trichotomy k j with q | q | q
      · have := sg_two (gw_nn zs s p) q h2.1; omega
      · exact q
      · have := sg_two (gw_nn zs s p) q h1.1; omega
    subst e
    have := sg_ge (gw_nn zs s p) h1.1
    rw [Wy_one hS a1 (by omega) h1.2.2 h2.2.2]
/-- Two ways or more: two parents. -/
theorem Wy_two {zs : List ByteArray} (hS : sB zs = true) {s : ByteArray} : ∀ (c p : Nat), s.size - p ≤ c → p ≤ s.size → 2 ≤ Wy zs s p → ∃ ks js, ks ≠ js ∧ prt zs s p ks s.size ∧ prt zs s p js s.size
  | 0, p, hc, hp, h => by
    have e : p = s.size := by omega
    rw [e, Wy_end] at h; omega
  | c + 1, p, hc, hp, h => by
    by_cases e : p = s.size
    · rw [e, Wy_end] at h; omega
    · rw [Wy_rec hS (by omega)] at h
      rcases sg_big (gw_nn zs s p) (n := zs.length) (by omega) with ⟨i, hi, hg⟩ | ⟨i, j, hij, hj, gi, gj⟩
      · obtain ⟨h1, h2⟩ := gw_pos (show 0 < gw zs s p i by omega)
        have h3 := (hit_iff.1 h1).1
        have h4 := im1_ge hS hi
        obtain ⟨ks, js, hne, hk, hj⟩ := Wy_two hS c (p + (im1 zs i).size) (by omega) h3 (by omega)
        exact ⟨i :: ks, i :: js, fun q => hne (List.cons.inj q).2, ⟨hi, h1, hk⟩, hi, h1, hj⟩
      · obtain ⟨h1, h2⟩ := gw_pos gi
        obtain ⟨h3, h4⟩ := gw_pos gj
        obtain ⟨ks, hk⟩ := Wy_way hS s.size (p + (im1 zs i).size) (by omega) (hit_iff.1 h1).1 (by omega)
        obtain ⟨js, hj'⟩ := Wy_way hS s.size (p + (im1 zs j).size) (by omega) (hit_iff.1 h3).1 (by omega)
        exact ⟨i :: ks, j :: js, fun q => by have := (List.cons.inj q).1; omega, ⟨by omega, h1, hk⟩, hj, h3, hj'⟩
end Go.Proofs.YtilbhingfnjppaaDoor
