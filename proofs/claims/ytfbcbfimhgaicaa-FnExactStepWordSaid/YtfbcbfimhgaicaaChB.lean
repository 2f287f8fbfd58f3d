/- Chains: lists in ascending order, and the first of them. -/
import Derived.Test.YtfbcbfimhgaicaaChA
set_option linter.unusedSimpArgs false
set_option linter.unusedVariables false
namespace Go.Proofs.Ytfbcbfimhgaicaa
open Go.RowKit
abbrev GP := Int × Int
def key (x : GP) : Int := vl x.1 x.2
def ascK (L : List GP) : Prop := L.Pairwise (fun x y => key x < key y)
theorem ascK_eq : ∀ {L M : List GP}, ascK L → ascK M → (∀ z, z ∈ L ↔ z ∈ M) → L = M
  | [], [], _, _, _ => rfl
  | [], b :: M, _, _, h => by have := (h b).2 (by simp); simp at this
  | a :: L, [], _, _, h => by have := (h a).1 (by simp); simp at this
  | a :: L, b :: M, hL, hM, h => by
    have hL' := List.pairwise_cons.1 hL
    have hM' := List.pairwise_cons.1 hM
    have hab : a = b := by
      have h1 := (h a).1 (by simp)
      have h2 := (h b).2 (by simp)
      simp only [List.mem_cons] at h1 h2
      rcases h1 with h1 | h1
      · exact h1
      · rcases h2 with h2 | h2
        · exact h2.symm
        · have := hM'.1 a h1; have := hL'.1 b h2; omega
    subst hab
    congr 1
    refine ascK_eq hL'.2 hM'.2 (fun z => ?_)
    have hz := h z
    simp only [List.mem_cons] at hz
    constructor
    · intro q
      rcases hz.1 (.inr q) with e | e
      · subst e; have := hL'.1 z q; omega
      · exact e
    · intro q
      rcases hz.2 (.inr q) with e | e
      · subst e; have := hM'.1 z q; omega
      · exact e
/-- The first n are among those that q takes, where n of the others' better are. -/
theorem take_q {L : List GP} (hL : ascK L) (p q : GP → Bool) (n : Nat) (hn : n ≤ (L.filter p).length) (h : ∀ e ∈ L, p e = true → ∀ y ∈ L, q y = false → key e < key y) : L.take n = (L.filter q).take n := by
  have hall : ∀ y ∈ L.take n, q y = true := by
    intro y hy
    cases hq : q y
    · exfalso
      obtain ⟨i, hi, e⟩ := List.getElem_of_mem hy
      have hi' : i < n ∧ i < L.length := by simp at hi; omega
      rw [List.getElem_take] at e
      have hyL : y ∈ L := by rw [← e]; exact List.getElem_mem _
      have hs : L = L.take i ++ L.drop i := (List.take_append_drop i L).symm
      have hd : (L.drop i).filter p = [] := by
        rw [List.filter_eq_nil_iff]
        intro z hz hp
        obtain ⟨j, hj, e2⟩ := List.getElem_of_mem hz
        rw [List.getElem_drop] at e2
        have hzL : z ∈ L := by rw [← e2]; exact List.getElem_mem _
        have h1 := h z hzL hp y hyL hq
        by_cases hj0 : j = 0
        · subst hj0
          simp only [Nat.add_zero] at e2
          rw [e] at e2; subst e2; omega
        · have := List.pairwise_iff_getElem.1 hL i (i + j) (by omega) (by simp at hj; omega) (by omega)
          rw [e, e2] at this; omega
      have h2 : (L.filter p).length = ((L.take i).filter p).length := by
        conv => lhs; rw [hs]
        rw [List.filter_append, hd, List.append_nil]
      have h3 := List.length_filter_le p (L.take i)
      simp at h3
      omega
    · rfl
  have hf : (L.take n).filter q = L.take n := List.filter_eq_self.2 hall
  have hs : L.filter q = L.take n ++ (L.drop n).filter q := by
    conv => lhs; rw [← List.take_append_drop n L]
    rw [List.filter_append, hf]
  rw [hs]
  have hlen : n ≤ L.length := Nat.le_trans hn (List.length_filter_le p L)
  exact (List.take_left' (by rw [List.length_take]; omega)).symm
theorem nodup_len : ∀ {l m : List GP}, l.Nodup → (∀ x ∈ l, x ∈ m) → l.length ≤ m.length
  | [], _, _, _ => Nat.zero_le _
  | a :: l, m, h, hs => by
    have h' := List.nodup_cons.1 h
    have ha := hs a (by simp)
    have := nodup_len (m := m.erase a) h'.2 (fun x hx => (List.mem_erase_of_ne (by intro e; subst e; exact h'.1 hx)).2 (hs x (by simp [hx])))
    rw [List.length_erase_of_mem ha] at this
    have := List.length_pos_of_mem ha
    simp only [List.length_cons]; omega
/-- Behind how many of the first k a number belongs. -/
def kkg (L : List GP) (x : GP) : Nat → Nat
  | 0 => 0
  | k + 1 => if key x < key (L.getD k (0, 0)) then kkg L x k else k + 1
theorem kkg_le (L : List GP) (x : GP) : ∀ n, kkg L x n ≤ n
  | 0 => Nat.le_refl _
  | n + 1 => by
    have := kkg_le L x n
    unfold kkg; split <;> omega
theorem kkg_above (L : List GP) (x : GP) : ∀ n j, kkg L x n ≤ j → j < n → key x < key (L.getD j (0, 0))
  | 0, j, _, h => absurd h (by omega)
  | n + 1, j, h1, h2 => by
    by_cases hg : key x < key (L.getD n (0, 0))
    · rw [kkg, if_pos hg] at h1
      by_cases e : j = n
      · subst e; exact hg
      · exact kkg_above L x n j h1 (by omega)
    · rw [kkg, if_neg hg] at h1; omega
theorem kkg_at (L : List GP) (x : GP) : ∀ n, 0 < kkg L x n → key (L.getD (kkg L x n - 1) (0, 0)) ≤ key x
  | 0, h => absurd h (by simp [kkg])
  | n + 1, h => by
    by_cases hg : key x < key (L.getD n (0, 0))
    · rw [kkg, if_pos hg] at h ⊢
      exact kkg_at L x n h
    · rw [kkg, if_neg hg]; simp only [Nat.add_sub_cancel]; omega
def gput (L : List GP) (x : GP) : List GP := (L.take (kkg L x L.length) ++ [x]) ++ L.drop (kkg L x L.length)
theorem gput_len (L : List GP) (x : GP) : (gput L x).length = L.length + 1 := by
  have := kkg_le L x L.length
  unfold gput; simp; omega
theorem gput_mem (L : List GP) (x z : GP) : z ∈ gput L x ↔ z = x ∨ z ∈ L := by
  unfold gput
  rw [List.mem_append, List.mem_append]
  have : z ∈ L ↔ z ∈ L.take (kkg L x L.length) ∨ z ∈ L.drop (kkg L x L.length) := by
    conv => lhs; rw [← List.take_append_drop (kkg L x L.length) L]
    rw [List.mem_append]
  rw [this, List.mem_singleton]
  constructor
  · rintro ((h | h) | h)
    · exact .inr (.inl h)
    · exact .inl h
    · exact .inr (.inr h)
  · rintro (h | h | h)
    · exact .inl (.inr h)
    · exact .inl (.inl h)
    · exact .inr h
theorem gput_asc {L : List GP} (h : ascK L) {x : GP} (hx : ∀ y ∈ L, key y ≠ key x) : ascK (gput L x) := by
  have hk := kkg_le L x L.length
  have hab := kkg_above L x L.length
  have hat := kkg_at L x L.length
  unfold gput
  obtain ⟨k, hkk⟩ : ∃ k, kkg L x L.length = k := ⟨_, rfl⟩
  rw [hkk] at hk hab hat ⊢
  have hg : ∀ {i j : Nat}, i < j → j < L.length → key (L.getD i (0, 0)) < key (L.getD j (0, 0)) := fun {i j} hij hj => by
    have := List.pairwise_iff_getElem.1 h i j (by omega) hj hij
    simpa [List.getD_eq_getElem?_getD, hj, show i < L.length by omega] using this
  have hlow : ∀ j, j < k → key (L.getD j (0, 0)) < key x := by
    intro j hj
    have hm : L.getD (k - 1) (0, 0) ∈ L := by rw [List.getD_eq_getElem?_getD, List.getElem?_eq_getElem (by omega)]; exact List.getElem_mem _
    have h1 := hat (by omega)
    have h2 := hx _ hm
    by_cases e : j = k - 1
    · subst e; omega
    · have := hg (show j < k - 1 by omega) (by omega); omega
  have hmt : ∀ z ∈ L.take k, key z < key x := by
    intro z hz
    obtain ⟨j, hj, e⟩ := List.getElem_of_mem hz
    have hjk : j < k := by simp at hj; omega
    have := hlow j hjk
    rw [List.getElem_take] at e
    rw [show L.getD j (0, 0) = z by simp [List.getD_eq_getElem?_getD, show j < L.length by omega, e]] at this
    exact this
  have hmd : ∀ z ∈ L.drop k, key x < key z := by
    intro z hz
    obtain ⟨j, hj, e⟩ := List.getElem_of_mem hz
    simp at hj
    have := hab (k + j) (by omega) (by omega)
    rw [List.getElem_drop] at e
    rw [show L.getD (k + j) (0, 0) = z by simp [List.getD_eq_getElem?_getD, show k + j < L.length by omega, e]] at this
    exact this
  unfold ascK
  rw [List.pairwise_append, List.pairwise_append]
  refine ⟨⟨List.Pairwise.sublist (List.take_sublist _ _) h, by simp, fun a ha b hb => by simp at hb; subst hb; exact hmt a ha⟩, List.Pairwise.sublist (List.drop_sublist _ _) h, fun a ha b hb => ?_⟩
  rw [List.mem_append] at ha
  rcases ha with ha | ha
  · have := hmt a ha; have := hmd b hb; omega
  · simp at ha; subst ha; exact hmd b hb
theorem fold_gput : ∀ (zs L : List GP), ascK L → (L ++ zs).Pairwise (fun x y => key x ≠ key y) → ascK (zs.foldl gput L) ∧ ∀ z, z ∈ zs.foldl gput L ↔ z ∈ L ∨ z ∈ zs
  | [], L, h, _ => ⟨h, fun z => by simp⟩
  | a :: zs, L, h, hp => by
    rw [List.pairwise_append] at hp
    obtain ⟨p1, p2, p3⟩ := hp
    have h1 := gput_asc h (x := a) (fun y hy => p3 y hy a (by simp))
    have p2' := List.pairwise_cons.1 p2
    have hq : ((gput L a) ++ zs).Pairwise (fun x y => key x ≠ key y) := by
      rw [List.pairwise_append]
      refine ⟨h1.imp (fun {x y} hxy => by omega), p2'.2, fun x hx y hy => ?_⟩
      rcases (gput_mem L a x).1 hx with e | e
      · subst e; exact p2'.1 y hy
      · exact p3 x e y (by simp [hy])
    obtain ⟨h3, h4⟩ := fold_gput zs (gput L a) h1 hq
    refine ⟨h3, fun z => ?_⟩
    rw [List.foldl_cons, h4, gput_mem, List.mem_cons]
    constructor
    · rintro ((h | h) | h)
      · exact .inr (.inl h)
      · exact .inl h
      · exact .inr (.inr h)
    · rintro (h | h | h)
      · exact .inl (.inr h)
      · exact .inl (.inl h)
      · exact .inr h
end Go.Proofs.Ytfbcbfimhgaicaa
