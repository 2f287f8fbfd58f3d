/- Several texts in one, in their order: ChA ChB ChC ChD. -/
import Derived.Test.YtilbhingfnjppaaDoorMGold
set_option linter.unusedSimpArgs false
set_option linter.unusedVariables false
namespace Go.Proofs.YtilbhingfnjppaaDoor
open Go.RowKit
/-- Numbers at which 204668310 a + 331160282 b has the sign of a + b t. -/
def bd (a : Int) : Prop := -100000 ≤ a ∧ a ≤ 100000
def vl (a b : Int) : Int := 204668310 * a + 331160282 * b
theorem vl_eq (a b : Int) : vl a b = 204668310 * a + 331160282 * b := rfl
theorem sq_ge1 {x y : Int} (h : y < x) : y + 1 ≤ x := h
/-- A fraction near the root of 5 that is too near for numbers as small as these. -/
theorem pos_lin {r s : Int} (hr : -400000 ≤ r ∧ r ≤ 400000) (hs : -400000 ≤ s ∧ s ≤ 400000) (h : pos r s) : 0 < 102334155 * r + 228826127 * s := by
  have sqs : ∀ t : Int, -400000 ≤ t ∧ t ≤ 400000 → 0 ≤ t * t ∧ t * t ≤ 160000000000 := fun t ht => by
    have h1 := sqnn t
    have h2 := prod_le t t 400000 ht ht
    omega
  have hss := sqs s hs
  have hrr := sqs r hr
  rcases h with ⟨h1, h2⟩ | ⟨h1, h2⟩
  · by_cases h0 : 0 ≤ s
    · omega
    · by_cases hq : 0 < 102334155 * r + 228826127 * s
      · exact hq
      · exfalso
        have e1 : 102334155 * r ≤ 228826127 * (-s) := by omega
        have e2 : (102334155 * r) * (102334155 * r) ≤ (228826127 * (-s)) * (228826127 * (-s)) := Int.mul_le_mul e1 e1 (by omega) (by omega)
        have e3 : (102334155 * r) * (102334155 * r) = 10472279279564025 * (r * r) := by grind
        have e4 : (228826127 * (-s)) * (228826127 * (-s)) = 52361396397820129 * (s * s) := by grind
        rw [e3, e4] at e2
        omega
  · by_cases h0 : 0 ≤ r
    · omega
    · by_cases hq : 0 < 102334155 * r + 228826127 * s
      · exact hq
      · exfalso
        have e1 : 228826127 * s ≤ 102334155 * (-r) := by omega
        have e2 : (228826127 * s) * (228826127 * s) ≤ (102334155 * (-r)) * (102334155 * (-r)) := Int.mul_le_mul e1 e1 (by omega) (by omega)
        have e3 : (102334155 * (-r)) * (102334155 * (-r)) = 10472279279564025 * (r * r) := by grind
        have e4 : (228826127 * s) * (228826127 * s) = 52361396397820129 * (s * s) := by grind
        rw [e3, e4] at e2
        omega
set_option maxRecDepth 20000 in
set_option maxHeartbeats 1000000 in
theorem sgn_lin {a b : Int} (ha : bd a) (hb : bd b) : (sgn a b = 1 ↔ 0 < vl a b) ∧ (sgn a b = 0 ↔ vl a b = 0) ∧ (sgn a b = -1 ↔ vl a b < 0) := by
  obtain ⟨a1, a2⟩ := ha
  obtain ⟨b1, b2⟩ := hb
  have hz := @sgn_zero a b
  have hp := @sgn_pos a b
  have hn := @sgn_pos (-a) (-b)
  have ho := sgn_opp a b
  have hr := sgn_range a b
  have k1 : sgn a b = 1 → 0 < vl a b := fun h => by
    have := pos_lin (r := 2 * a + b) (s := b) (by omega) (by omega) (hp.1 h)
    unfold vl; omega
  have k2 : sgn a b = -1 → vl a b < 0 := fun h => by
    have := pos_lin (r := 2 * -a + -b) (s := -b) (by omega) (by omega) (hn.1 (by omega))
    unfold vl; omega
  have k3 : sgn a b = 0 → vl a b = 0 := fun h => by
    have := hz.1 h
    unfold vl; omega
  refine ⟨⟨k1, fun h => ?_⟩, ⟨k3, fun h => ?_⟩, ⟨k2, fun h => ?_⟩⟩
  · rcases hr with q | q | q
    · have := k3 q; omega
    · exact q
    · have := k2 q; omega
  · rcases hr with q | q | q
    · exact q
    · have := k1 q; omega
    · have := k2 q; omega
  · rcases hr with q | q | q
    · have := k3 q; omega
    · have := k1 q; omega
    · exact q
theorem vl_sub (a b c d : Int) : vl (a - c) (b - d) = vl a b - vl c d := by
  rw [vl_eq, vl_eq, vl_eq, Int.mul_sub, Int.mul_sub]; omega
theorem vl_inj {a b c d : Int} (ha : bd (a - c)) (hb : bd (b - d)) (h : vl a b = vl c d) : a = c ∧ b = d := by
  have e : vl (a - c) (b - d) = 0 := by rw [vl_sub, h, Int.sub_self]
  have h3 := sgn_zero.1 ((sgn_lin ha hb).2.1.2 e)
  clear ha hb h e
  omega
end Go.Proofs.YtilbhingfnjppaaDoor

namespace Go.Proofs.YtilbhingfnjppaaDoor
open Go.RowKit
abbrev GP := Int × Int
def key (x : GP) : Int := vl x.1 x.2
def ascK (L : List GP) : Prop := L.Pairwise (fun x y => key x < key y)
theorem ascK_eq : ∀ {L M : List GP}, ascK L → ascK M → (∀ z, z ∈ L ↔ z ∈ M) → L = M
  | [], [], _, _, _ => rfl
  | [], b :: M, _, _, h => by have := (h b).2 (by simp); simp at this
  | a :: L, [], _, _, h => by have := (h a).1 (by simp); simp at this
  | a :: L, b :: M, hL, hM, h => by
    have hL' := List.pairwise_cons.1 hL
    have hM' := List.pairwise_cons.1 hM
    have hab : a = b := by
      have h1 := (h a).1 (by simp)
      have h2 := (h b).2 (by simp)
      simp only [List.mem_cons] at h1 h2
      rcases h1 with h1 | h1
      · exact h1
      · rcases h2 with h2 | h2
        · exact h2.symm
        · have := hM'.1 a h1; have := hL'.1 b h2; omega
    subst hab
    congr 1
    refine ascK_eq hL'.2 hM'.2 (fun z => ?_)
    have hz := h z
    simp only [List.mem_cons] at hz
    constructor
    · intro q
      rcases hz.1 (.inr q) with e | e
      · subst e; have := hL'.1 z q; omega
      · exact e
    · intro q
      rcases hz.2 (.inr q) with e | e
      · subst e; have := hM'.1 z q; omega
      · exact e
/-- The first n are among those that q takes, where n of the others' better are. -/
theorem take_q {L : List GP} (hL : ascK L) (p q : GP → Bool) (n : Nat) (hn : n ≤ (L.filter p).length) (h : ∀ e ∈ L, p e = true → ∀ y ∈ L, q y = false → key e < key y) : L.take n = (L.filter q).take n := by
  have hall : ∀ y ∈ L.take n, q y = true := by
    intro y hy
    cases hq : q y
    · exfalso
      obtain ⟨i, hi, e⟩ := List.getElem_of_mem hy
      have hi' : i < n ∧ i < L.length := by simp at hi; omega
      rw [List.getElem_take] at e
      have hyL : y ∈ L := by rw [← e]; exact List.getElem_mem _
      have hs : L = L.take i ++ L.drop i := (List.take_append_drop i L).symm
      have hd : (L.drop i).filter p = [] := by
        rw [List.filter_eq_nil_iff]
        intro z hz hp
        obtain ⟨j, hj, e2⟩ := List.getElem_of_mem hz
        rw [List.getElem_drop] at e2
        have hzL : z ∈ L := by rw [← e2]; exact List.getElem_mem _
        have h1 := h z hzL hp y hyL hq
        by_cases hj0 : j = 0
        · subst hj0
          simp only [Nat.add_zero] at e2
          rw [e] at e2; subst e2; omega
        · have := List.pairwise_iff_getElem.1 hL i (i + j) (by omega) (by simp at hj; omega) (by omega)
          rw [e, e2] at this; omega
      have h2 : (L.filter p).length = ((L.take i).filter p).length := by
        conv => lhs; rw [hs]
        rw [List.filter_append, hd, List.append_nil]
      have h3 := List.length_filter_le p (L.take i)
      simp at h3
      omega
    · rfl
  have hf : (L.take n).filter q = L.take n := List.filter_eq_self.2 hall
  have hs : L.filter q = L.take n ++ (L.drop n).filter q := by
    conv => lhs; rw [← List.take_append_drop n L]
    rw [List.filter_append, hf]
  rw [hs]
  have hlen : n ≤ L.length := Nat.le_trans hn (List.length_filter_le p L)
  exact (List.take_left' (by rw [List.length_take]; omega)).symm
theorem nodup_len : ∀ {l m : List GP}, l.Nodup → (∀ x ∈ l, x ∈ m) → l.length ≤ m.length
  | [], _, _, _ => Nat.zero_le _
  | a :: l, m, h, hs => by
    have h' := List.nodup_cons.1 h
    have ha := hs a (by simp)
    have := nodup_len (m := m.erase a) h'.2 (fun x hx => (List.mem_erase_of_ne (by intro e; subst e; exact h'.1 hx)).2 (hs x (by simp [hx])))
    rw [List.length_erase_of_mem ha] at this
    have := List.length_pos_of_mem ha
    simp only [List.length_cons]; omega
/-- Behind how many of the first k a number belongs. -/
def kkg (L : List GP) (x : GP) : Nat → Nat
  | 0 => 0
  | k + 1 => if key x < key (L.getD k (0, 0)) then kkg L x k else k + 1
theorem kkg_le (L : List GP) (x : GP) : ∀ n, kkg L x n ≤ n
  | 0 => Nat.le_refl _
  | n + 1 => by
    have := kkg_le L x n
    unfold kkg; split <;> omega
theorem kkg_above (L : List GP) (x : GP) : ∀ n j, kkg L x n ≤ j → j < n → key x < key (L.getD j (0, 0))
  | 0, j, _, h => absurd h (by omega)
  | n + 1, j, h1, h2 => by
    by_cases hg : key x < key (L.getD n (0, 0))
    · rw [kkg, if_pos hg] at h1
      by_cases e : j = n
      · subst e; exact hg
      · exact kkg_above L x n j h1 (by omega)
    · rw [kkg, if_neg hg] at h1; omega
theorem kkg_at (L : List GP) (x : GP) : ∀ n, 0 < kkg L x n → key (L.getD (kkg L x n - 1) (0, 0)) ≤ key x
  | 0, h => absurd h (by simp [kkg])
  | n + 1, h => by
    by_cases hg : key x < key (L.getD n (0, 0))
    · rw [kkg, if_pos hg] at h ⊢
      exact kkg_at L x n h
    · rw [kkg, if_neg hg]; simp only [Nat.add_sub_cancel]; omega
def gput (L : List GP) (x : GP) : List GP := (L.take (kkg L x L.length) ++ [x]) ++ L.drop (kkg L x L.length)
theorem gput_len (L : List GP) (x : GP) : (gput L x).length = L.length + 1 := by
  have := kkg_le L x L.length
  unfold gput; simp; omega
theorem gput_mem (L : List GP) (x z : GP) : z ∈ gput L x ↔ z = x ∨ z ∈ L := by
  unfold gput
  rw [List.mem_append, List.mem_append]
  have : z ∈ L ↔ z ∈ L.take (kkg L x L.length) ∨ z ∈ L.drop (kkg L x L.length) := by
    conv => lhs; rw [← List.take_append_drop (kkg L x L.length) L]
    rw [List.mem_append]
  rw [this, List.mem_singleton]
  constructor
  · rintro ((h | h) | h)
    · exact .inr (.inl h)
    · exact .inl h
    · exact .inr (.inr h)
  · rintro (h | h | h)
    · exact .inl (.inr h)
    · exact .inl (.inl h)
    · exact .inr h
theorem gput_asc {L : List GP} (h : ascK L) {x : GP} (hx : ∀ y ∈ L, key y ≠ key x) : ascK (gput L x) := by
  have hk := kkg_le L x L.length
  have hab := kkg_above L x L.length
  have hat := kkg_at L x L.length
  unfold gput
  obtain ⟨k, hkk⟩ : ∃ k, kkg L x L.length = k := ⟨_, rfl⟩
  rw [hkk] at hk hab hat ⊢
  have hg : ∀ {i j : Nat}, i < j → j < L.length → key (L.getD i (0, 0)) < key (L.getD j (0, 0)) := fun {i j} hij hj => by
    have := List.pairwise_iff_getElem.1 h i j (by omega) hj hij
    simpa [List.getD_eq_getElem?_getD, hj, show i < L.length by omega] using this
  have hlow : ∀ j, j < k → key (L.getD j (0, 0)) < key x := by
    intro j hj
    have hm : L.getD (k - 1) (0, 0) ∈ L := by rw [List.getD_eq_getElem?_getD, List.getElem?_eq_getElem (by omega)]; exact List.getElem_mem _
    have h1 := hat (by omega)
    have h2 := hx _ hm
    by_cases e : j = k - 1
    · subst e; omega
    · have := hg (show j < k - 1 by omega) (by omega); omega
  have hmt : ∀ z ∈ L.take k, key z < key x := by
    intro z hz
    obtain ⟨j, hj, e⟩ := List.getElem_of_mem hz
    have hjk : j < k := by simp at hj; omega
    have := hlow j hjk
    rw [List.getElem_take] at e
    rw [show L.getD j (0, 0) = z by simp [List.getD_eq_getElem?_getD, show j < L.length by omega, e]] at this
    exact this
  have hmd : ∀ z ∈ L.drop k, key x < key z := by
    intro z hz
    obtain ⟨j, hj, e⟩ := List.getElem_of_mem hz
    simp at hj
    have := hab (k + j) (by omega) (by omega)
    rw [List.getElem_drop] at e
    rw [show L.getD (k + j) (0, 0) = z by simp [List.getD_eq_getElem?_getD, show k + j < L.length by omega, e]] at this
    exact this
  unfold ascK
  rw [List.pairwise_append, List.pairwise_append]
  refine ⟨⟨List.Pairwise.sublist (List.take_sublist _ _) h, by simp, fun a ha b hb => by simp at hb; subst hb; exact hmt a ha⟩, List.Pairwise.sublist (List.drop_sublist _ _) h, fun a ha b hb => ?_⟩
  rw [List.mem_append] at ha
  rcases ha with ha | ha
  · have := hmt a ha; have := hmd b hb; omega
  · simp at ha; subst ha; exact hmd b hb
theorem fold_gput : ∀ (zs L : List GP), ascK L → (L ++ zs).Pairwise (fun x y => key x ≠ key y) → ascK (zs.foldl gput L) ∧ ∀ z, z ∈ zs.foldl gput L ↔ z ∈ L ∨ z ∈ zs
  | [], L, h, _ => ⟨h, fun z => by simp⟩
  | a :: zs, L, h, hp => by
    rw [List.pairwise_append] at hp
    obtain ⟨p1, p2, p3⟩ := hp
    have h1 := gput_asc h (x := a) (fun y hy => p3 y hy a (by simp))
    have p2' := List.pairwise_cons.1 p2
    have hq : ((gput L a) ++ zs).Pairwise (fun x y => key x ≠ key y) := by
      rw [List.pairwise_append]
      refine ⟨h1.imp (fun {x y} hxy => by omega), p2'.2, fun x hx y hy => ?_⟩
      rcases (gput_mem L a x).1 hx with e | e
      · subst e; exact p2'.1 y hy
      · exact p3 x e y (by simp [hy])
    obtain ⟨h3, h4⟩ := fold_gput zs (gput L a) h1 hq
    refine ⟨h3, fun z => ?_⟩
    rw [List.foldl_cons, h4, gput_mem, List.mem_cons]
    constructor
    · rintro ((h | h) | h)
      · exact .inr (.inl h)
      · exact .inl h
      · exact .inr (.inr h)
    · rintro (h | h | h)
      · exact .inl (.inr h)
      · exact .inl (.inl h)
      · exact .inr h
end Go.Proofs.YtilbhingfnjppaaDoor

namespace Go.Proofs.YtilbhingfnjppaaDoor
open Go.RowKit
theorem bd_of {a : Int} (h1 : -100000 ≤ a) (h2 : a ≤ 100000) : bd a := ⟨h1, h2⟩
theorem sgn_ge_lin {a b : Int} (ha : bd a) (hb : bd b) : 0 ≤ sgn a b ↔ 0 ≤ vl a b := by
  obtain ⟨h1, h2, h3⟩ := sgn_lin ha hb
  have hr := sgn_range a b
  clear ha hb
  omega
theorem flo_lin {a b : Int} (ha : -2000 ≤ a ∧ a ≤ 2000) (hb : -2000 ≤ b ∧ b ≤ 2000) : (-10000 ≤ flo a b ∧ flo a b ≤ 10000) ∧ 0 ≤ vl (a - flo a b) b ∧ vl (a - flo a b - 1) b < 0 := by
  obtain ⟨h1, h2⟩ := flo_is a b (by omega) (by omega)
  obtain ⟨G, hG⟩ : ∃ G, flo a b = G := ⟨_, rfl⟩
  rw [hG] at h1 h2 ⊢
  have hbb : bd b := ⟨by omega, by omega⟩
  have hup : G ≤ 10000 := by
    by_cases h : G ≤ 10000
    · exact h
    · exfalso
      have h3 := sgn_mono h1 (show a - G ≤ -8000 by omega)
      have h4 := (sgn_ge_lin (bd_of (by omega) (by omega)) hbb).1 h3
      rw [vl_eq] at h4
      clear hbb h1 h2 h3
      omega
  have hlo : -10000 ≤ G := by
    by_cases h : -10000 ≤ G
    · exact h
    · exfalso
      have h4 : 0 ≤ sgn 8000 b := (sgn_ge_lin (bd_of (by omega) (by omega)) hbb).2 (by rw [vl_eq]; clear hbb h1 h2; omega)
      exact h2 (sgn_mono h4 (by omega))
  refine ⟨⟨hlo, hup⟩, (sgn_ge_lin (bd_of (by omega) (by omega)) hbb).1 h1, ?_⟩
  have h5 := mt (sgn_ge_lin (a := a - (G + 1)) (bd_of (by omega) (by omega)) hbb).2 h2
  rw [vl_eq] at h5 ⊢
  clear hbb h1 h2
  omega
structure Win (lo hi : GP) : Prop where
  l1 : -100 ≤ lo.1 ∧ lo.1 ≤ 100
  l2 : -100 ≤ lo.2 ∧ lo.2 ≤ 100
  h1 : -100 ≤ hi.1 ∧ hi.1 ≤ 100
  h2 : -100 ≤ hi.2 ∧ hi.2 ≤ 100
  w1 : 0 ≤ vl (hi.1 - lo.1 - 1) (hi.2 - lo.2)
  w4 : vl (hi.1 - lo.1 - 4) (hi.2 - lo.2) < 0
def inC (lo hi x : GP) : Bool := decide (0 ≤ vl x.1 x.2) && (decide (0 ≤ vl (x.1 + x.2 - lo.1) (-x.2 - lo.2)) && decide (vl (x.1 + x.2 - hi.1) (-x.2 - hi.2) < 0))
theorem inC_iff (lo hi x : GP) : inC lo hi x = true ↔ 0 ≤ vl x.1 x.2 ∧ 0 ≤ vl (x.1 + x.2 - lo.1) (-x.2 - lo.2) ∧ vl (x.1 + x.2 - hi.1) (-x.2 - hi.2) < 0 := by
  unfold inC; simp only [Bool.and_eq_true, decide_eq_true_eq]
def frst (lo : GP) (b : Int) : Int := -flo (-lo.1 + b) (-lo.2 - b)
def low0 (lo : GP) (b : Int) : Int := flo (lo.1 - b) (lo.2 + b)
def clS (lo hi : GP) (b : Int) : List GP := ((List.range 5).map (fun (s : Nat) => ((frst lo b + (s : Int), b) : GP))).filter (inC lo hi)
def clI (lo hi : GP) (b : Int) : List GP := ((List.range 7).map (fun (s : Nat) => ((low0 lo b + (s : Int) - 1, b) : GP))).filter (inC lo hi)
def frm (hi : GP) : Int := if flo hi.1 hi.2 < 0 then (-(flo hi.1 hi.2 + 1)).tdiv 3 - 2 else (-(max (flo hi.1 hi.2 + 1) 0)).tdiv 2 - 2
theorem clS_mem {lo hi : GP} {b : Int} {x : GP} : x ∈ clS lo hi b ↔ inC lo hi x = true ∧ x.2 = b ∧ frst lo b ≤ x.1 ∧ x.1 < frst lo b + 5 := by
  unfold clS
  rw [List.mem_filter, List.mem_map]
  constructor
  · rintro ⟨⟨s, hs, rfl⟩, h⟩
    rw [List.mem_range] at hs
    exact ⟨h, rfl, by show _ ≤ frst lo b + (s : Int); omega, by show frst lo b + (s : Int) < _; omega⟩
  · rintro ⟨h, h2, h3, h4⟩
    refine ⟨⟨(x.1 - frst lo b).toNat, by rw [List.mem_range]; omega, ?_⟩, h⟩
    obtain ⟨xa, xb⟩ := x
    simp only at h2 h3 h4 ⊢
    subst h2
    congr 1; omega
theorem clI_mem {lo hi : GP} {b : Int} {x : GP} : x ∈ clI lo hi b ↔ inC lo hi x = true ∧ x.2 = b ∧ low0 lo b - 1 ≤ x.1 ∧ x.1 < low0 lo b + 6 := by
  unfold clI
  rw [List.mem_filter, List.mem_map]
  constructor
  · rintro ⟨⟨s, hs, rfl⟩, h⟩
    rw [List.mem_range] at hs
    exact ⟨h, rfl, by show _ ≤ low0 lo b + (s : Int) - 1; omega, by show low0 lo b + (s : Int) - 1 < _; omega⟩
  · rintro ⟨h, h2, h3, h4⟩
    refine ⟨⟨(x.1 - low0 lo b + 1).toNat, by rw [List.mem_range]; omega, ?_⟩, h⟩
    obtain ⟨xa, xb⟩ := x
    simp only at h2 h3 h4 ⊢
    subst h2
    congr 1; omega
/-- What a number of the chain must be like. -/
theorem inC_first {lo hi x : GP} (hw : Win lo hi) (hb : -600 ≤ x.2 ∧ x.2 ≤ 600) (h : inC lo hi x = true) : (frst lo x.2 ≤ x.1 ∧ x.1 < frst lo x.2 + 5) ∧ (low0 lo x.2 - 1 ≤ x.1 ∧ x.1 < low0 lo x.2 + 6) := by
  obtain ⟨q1, q2, q3⟩ := (inC_iff lo hi x).1 h
  have hl1 := hw.l1; have hl2 := hw.l2; have hw1 := hw.w1; have hw4 := hw.w4
  obtain ⟨_, g1, g2⟩ := flo_lin (a := -lo.1 + x.2) (b := -lo.2 - x.2) (by omega) (by omega)
  obtain ⟨_, k1, k2⟩ := flo_lin (a := lo.1 - x.2) (b := lo.2 + x.2) (by omega) (by omega)
  unfold frst low0
  obtain ⟨G, hG⟩ : ∃ G, flo (-lo.1 + x.2) (-lo.2 - x.2) = G := ⟨_, rfl⟩
  obtain ⟨H, hH⟩ : ∃ H, flo (lo.1 - x.2) (lo.2 + x.2) = H := ⟨_, rfl⟩
  rw [hG] at g1 g2 ⊢
  rw [hH] at k1 k2 ⊢
  rw [vl_eq] at q1 q2 q3 g1 g2 k1 k2 hw1 hw4
  clear hw h hG hH
  omega
theorem inC_low {lo hi x : GP} (hw : Win lo hi) (h : inC lo hi x = true) : frm hi ≤ x.2 ∧ -180 ≤ frm hi ∧ frm hi ≤ 110 := by
  obtain ⟨q1, q2, q3⟩ := (inC_iff lo hi x).1 h
  have hh1 := hw.h1; have hh2 := hw.h2
  obtain ⟨_, g1, g2⟩ := flo_lin (a := hi.1) (b := hi.2) (by omega) (by omega)
  unfold frm
  obtain ⟨F, hF⟩ : ∃ F, flo hi.1 hi.2 = F := ⟨_, rfl⟩
  rw [hF] at g1 g2 ⊢
  rw [vl_eq] at q1 q2 q3 g1 g2
  clear hw h hF
  split
  · rw [Int.tdiv_eq_ediv_of_nonneg (by omega)]
    omega
  · rw [Int.neg_tdiv, Int.tdiv_eq_ediv_of_nonneg (by omega)]
    omega
theorem frm_b {lo hi : GP} (hw : Win lo hi) : -180 ≤ frm hi ∧ frm hi ≤ 110 := by
  have hh1 := hw.h1; have hh2 := hw.h2
  obtain ⟨_, g1, g2⟩ := flo_lin (a := hi.1) (b := hi.2) (by omega) (by omega)
  unfold frm
  obtain ⟨F, hF⟩ : ∃ F, flo hi.1 hi.2 = F := ⟨_, rfl⟩
  rw [hF] at g1 g2 ⊢
  rw [vl_eq] at g1 g2
  clear hw hF
  split
  · rw [Int.tdiv_eq_ediv_of_nonneg (by omega)]
    omega
  · rw [Int.neg_tdiv, Int.tdiv_eq_ediv_of_nonneg (by omega)]
    omega
/-- Numbers whose second parts are far apart stand in their order. -/
theorem far_key {lo hi e y : GP} (hw : Win lo hi) (he : inC lo hi e = true) (hy : inC lo hi y = true) (h1 : e.2 ≤ 196) (h2 : 199 ≤ y.2) : key e < key y := by
  obtain ⟨_, q2, q3⟩ := (inC_iff lo hi e).1 he
  obtain ⟨_, r2, r3⟩ := (inC_iff lo hi y).1 hy
  have hw4 := hw.w4
  unfold key
  rw [vl_eq] at q2 q3 r2 r3 hw4 ⊢
  rw [vl_eq]
  clear hw he hy
  omega
/-- At each second part from 118 on there is one. -/
theorem some_at {lo hi : GP} (hw : Win lo hi) {b : Int} (h1 : 118 ≤ b) (h2 : b ≤ 196) : inC lo hi (frst lo b, b) = true := by
  rw [inC_iff]
  have hl1 := hw.l1; have hl2 := hw.l2; have hw1 := hw.w1
  obtain ⟨_, g1, g2⟩ := flo_lin (a := -lo.1 + b) (b := -lo.2 - b) (by omega) (by omega)
  unfold frst
  obtain ⟨G, hG⟩ : ∃ G, flo (-lo.1 + b) (-lo.2 - b) = G := ⟨_, rfl⟩
  rw [hG] at g1 g2 ⊢
  simp only
  rw [vl_eq] at g1 g2 hw1
  rw [vl_eq, vl_eq, vl_eq]
  clear hw hG
  omega
end Go.Proofs.YtilbhingfnjppaaDoor

namespace Go.Proofs.YtilbhingfnjppaaDoor
open Go.RowKit
def allS (lo hi : GP) (N : Nat) : List GP := (List.range N).flatMap (fun (t : Nat) => clS lo hi ((t : Int) - 200))
def allI (lo hi : GP) (N : Nat) : List GP := (List.range N).flatMap (fun (t : Nat) => clI lo hi (frm hi + (t : Int)))
def specL (lo hi : GP) : List GP := (allS lo hi 401).foldl gput []
theorem allS_next (lo hi : GP) (N : Nat) : allS lo hi (N + 1) = allS lo hi N ++ clS lo hi ((N : Int) - 200) := by simp [allS, List.range_succ]
theorem allI_next (lo hi : GP) (N : Nat) : allI lo hi (N + 1) = allI lo hi N ++ clI lo hi (frm hi + (N : Int)) := by simp [allI, List.range_succ]
def lexR (x y : GP) : Prop := x.2 < y.2 ∨ (x.2 = y.2 ∧ x.1 < y.1)
theorem pw_cl {N : Nat} (g : Nat → GP) (p : GP → Bool) (h : ∀ i j, i < j → lexR (g i) (g j)) : (((List.range N).map g).filter p).Pairwise lexR := by
  refine List.Pairwise.sublist List.filter_sublist ?_
  rw [List.pairwise_map]
  exact (List.pairwise_lt_range (n := N)).imp (fun {a b} q => h a b q)
theorem clS_pw (lo hi : GP) (b : Int) : (clS lo hi b).Pairwise lexR := pw_cl _ _ (fun i j h => .inr ⟨rfl, by show frst lo b + (i : Int) < frst lo b + (j : Int); omega⟩)
theorem clI_pw (lo hi : GP) (b : Int) : (clI lo hi b).Pairwise lexR := pw_cl _ _ (fun i j h => .inr ⟨rfl, by show low0 lo b + (i : Int) - 1 < low0 lo b + (j : Int) - 1; omega⟩)
theorem allS_mem {lo hi : GP} {N : Nat} {x : GP} : x ∈ allS lo hi N ↔ ∃ t : Nat, t < N ∧ x ∈ clS lo hi ((t : Int) - 200) := by
  unfold allS; rw [List.mem_flatMap]; simp only [List.mem_range]
theorem allI_mem {lo hi : GP} {N : Nat} {x : GP} : x ∈ allI lo hi N ↔ ∃ t : Nat, t < N ∧ x ∈ clI lo hi (frm hi + (t : Int)) := by
  unfold allI; rw [List.mem_flatMap]; simp only [List.mem_range]
theorem allS_pw (lo hi : GP) : ∀ N, (allS lo hi N).Pairwise lexR
  | 0 => List.Pairwise.nil
  | N + 1 => by
    rw [allS_next, List.pairwise_append]
    refine ⟨allS_pw lo hi N, clS_pw _ _ _, fun x hx y hy => ?_⟩
    obtain ⟨t, ht, hxt⟩ := allS_mem.1 hx
    have h1 := (clS_mem.1 hxt).2.1
    have h2 := (clS_mem.1 hy).2.1
    exact .inl (by omega)
theorem allI_pw (lo hi : GP) : ∀ N, (allI lo hi N).Pairwise lexR
  | 0 => List.Pairwise.nil
  | N + 1 => by
    rw [allI_next, List.pairwise_append]
    refine ⟨allI_pw lo hi N, clI_pw _ _ _, fun x hx y hy => ?_⟩
    obtain ⟨t, ht, hxt⟩ := allI_mem.1 hx
    have h1 := (clI_mem.1 hxt).2.1
    have h2 := (clI_mem.1 hy).2.1
    exact .inl (by omega)
def bp (x : GP) : Prop := (-20000 ≤ x.1 ∧ x.1 ≤ 20000) ∧ (-20000 ≤ x.2 ∧ x.2 ≤ 20000)
theorem allS_bp {lo hi : GP} (hw : Win lo hi) {x : GP} (h : x ∈ allS lo hi 401) : bp x := by
  obtain ⟨t, ht, hx⟩ := allS_mem.1 h
  obtain ⟨_, h2, h3, h4⟩ := clS_mem.1 hx
  have hl1 := hw.l1; have hl2 := hw.l2
  obtain ⟨g0, _, _⟩ := flo_lin (a := -lo.1 + ((t : Int) - 200)) (b := -lo.2 - ((t : Int) - 200)) (by omega) (by omega)
  unfold frst at h3 h4
  exact ⟨⟨by omega, by omega⟩, ⟨by omega, by omega⟩⟩
theorem allI_bp {lo hi : GP} (hw : Win lo hi) {x : GP} (h : x ∈ allI lo hi 400) : bp x := by
  obtain ⟨t, ht, hx⟩ := allI_mem.1 h
  obtain ⟨_, h2, h3, h4⟩ := clI_mem.1 hx
  have hl1 := hw.l1; have hl2 := hw.l2
  have hf := frm_b hw
  obtain ⟨g0, _, _⟩ := flo_lin (a := lo.1 - (frm hi + (t : Int))) (b := lo.2 + (frm hi + (t : Int))) (by omega) (by omega)
  unfold low0 at h3 h4
  exact ⟨⟨by omega, by omega⟩, ⟨by omega, by omega⟩⟩
theorem key_ne_of {x y : GP} (hx : bp x) (hy : bp y) (h : lexR x y) : key x ≠ key y := by
  intro e
  obtain ⟨⟨x1, x2⟩, ⟨x3, x4⟩⟩ := hx
  obtain ⟨⟨y1, y2⟩, ⟨y3, y4⟩⟩ := hy
  have := vl_inj (bd_of (by omega) (by omega)) (bd_of (by omega) (by omega)) e
  rcases h with h | h <;> omega
theorem specL_asc {lo hi : GP} (hw : Win lo hi) : ascK (specL lo hi) ∧ ∀ z, z ∈ specL lo hi ↔ z ∈ allS lo hi 401 := by
  obtain ⟨h1, h2⟩ := fold_gput (allS lo hi 401) [] List.Pairwise.nil (by
    rw [List.nil_append]
    exact List.Pairwise.imp_of_mem (fun {a b} ha hb h => key_ne_of (allS_bp hw ha) (allS_bp hw hb) h) (allS_pw lo hi 401))
  exact ⟨h1, fun z => by unfold specL; rw [h2]; simp⟩
theorem allS_iff {lo hi : GP} (hw : Win lo hi) (z : GP) : z ∈ allS lo hi 401 ↔ inC lo hi z = true ∧ -200 ≤ z.2 ∧ z.2 ≤ 200 := by
  rw [allS_mem]
  constructor
  · rintro ⟨t, ht, h⟩
    obtain ⟨h1, h2, _⟩ := clS_mem.1 h
    exact ⟨h1, by omega, by omega⟩
  · rintro ⟨h1, h2, h3⟩
    have := (inC_first hw ⟨by omega, by omega⟩ h1).1
    refine ⟨(z.2 + 200).toNat, by omega, clS_mem.2 ⟨h1, by omega, ?_⟩⟩
    rw [show (((z.2 + 200).toNat : Nat) : Int) - 200 = z.2 by omega]
    exact this
theorem allI_iff {lo hi : GP} (hw : Win lo hi) (z : GP) : z ∈ allI lo hi 400 ↔ inC lo hi z = true ∧ z.2 < frm hi + 400 := by
  have hf := frm_b hw
  rw [allI_mem]
  constructor
  · rintro ⟨t, ht, h⟩
    obtain ⟨h1, h2, _⟩ := clI_mem.1 h
    exact ⟨h1, by omega⟩
  · rintro ⟨h1, h2⟩
    have h0 := (inC_low hw h1).1
    have := (inC_first hw ⟨by omega, by omega⟩ h1).2
    refine ⟨(z.2 - frm hi).toNat, by omega, clI_mem.2 ⟨h1, by omega, ?_⟩⟩
    rw [show frm hi + (((z.2 - frm hi).toNat : Nat) : Int) = z.2 by omega]
    exact this
theorem many {lo hi : GP} (hw : Win lo hi) {L : List GP} (hL : ∀ z, inC lo hi z = true → -180 ≤ z.2 → z.2 ≤ 196 → z ∈ L) : 79 ≤ (L.filter (fun e => decide (e.2 ≤ 196))).length := by
  have h1 : ((List.range 79).map (fun (t : Nat) => ((frst lo (118 + (t : Int)), 118 + (t : Int)) : GP))).Nodup := by
    rw [List.nodup_iff_pairwise_ne, List.pairwise_map]
    refine (List.pairwise_lt_range (n := 79)).imp (fun {a b} q e => ?_)
    have := congrArg Prod.snd e
    simp only at this
    omega
  have := nodup_len h1 (m := L.filter (fun e => decide (e.2 ≤ 196))) (fun x hx => by
    obtain ⟨t, ht, rfl⟩ := List.mem_map.1 hx
    rw [List.mem_range] at ht
    rw [List.mem_filter]
    exact ⟨hL _ (some_at hw (by omega) (by omega)) (by show -180 ≤ 118 + (t : Int); omega) (by show 118 + (t : Int) ≤ 196; omega), by simp; omega⟩)
  simpa using this
/-- The first 60 numbers agree. -/
theorem first_eq {lo hi : GP} (hw : Win lo hi) {M : List GP} (hM : ascK M) (hm : ∀ z, z ∈ M ↔ z ∈ allI lo hi 400) (n : Nat) (hn : n ≤ 60) : (specL lo hi).take n = M.take n ∧ 60 ≤ (specL lo hi).length ∧ 60 ≤ M.length := by
  obtain ⟨hS, hs⟩ := specL_asc hw
  have hf := frm_b hw
  have c1 := many hw (L := specL lo hi) (fun z h1 h2 h3 => (hs z).2 ((allS_iff hw z).2 ⟨h1, by omega, by omega⟩))
  have c2 := many hw (L := M) (fun z h1 h2 h3 => (hm z).2 ((allI_iff hw z).2 ⟨h1, by omega⟩))
  have e1 := take_q hS (fun e => decide (e.2 ≤ 196)) (fun e => decide (e.2 ≤ 198)) n (by omega) (fun e he hp y hy hq => by
    simp only [decide_eq_true_eq, decide_eq_false_iff_not] at hp hq
    exact far_key hw ((allS_iff hw e).1 ((hs e).1 he)).1 ((allS_iff hw y).1 ((hs y).1 hy)).1 hp (by omega))
  have e2 := take_q hM (fun e => decide (e.2 ≤ 196)) (fun e => decide (e.2 ≤ 198)) n (by omega) (fun e he hp y hy hq => by
    simp only [decide_eq_true_eq, decide_eq_false_iff_not] at hp hq
    exact far_key hw ((allI_iff hw e).1 ((hm e).1 he)).1 ((allI_iff hw y).1 ((hm y).1 hy)).1 hp (by omega))
  have hfe : (specL lo hi).filter (fun e => decide (e.2 ≤ 198)) = M.filter (fun e => decide (e.2 ≤ 198)) := by
    refine ascK_eq (List.Pairwise.sublist List.filter_sublist hS) (List.Pairwise.sublist List.filter_sublist hM) (fun z => ?_)
    rw [List.mem_filter, List.mem_filter, hs, hm, allS_iff hw, allI_iff hw]
    simp only [decide_eq_true_eq]
    constructor
    · rintro ⟨⟨h1, h2, h3⟩, h4⟩; exact ⟨⟨h1, by omega⟩, h4⟩
    · rintro ⟨⟨h1, h2⟩, h4⟩
      have := (inC_low hw h1).1
      exact ⟨⟨h1, by omega, by omega⟩, h4⟩
  refine ⟨by rw [e1, e2, hfe], ?_, ?_⟩
  · have := List.length_filter_le (fun e : GP => decide (e.2 ≤ 196)) (specL lo hi); omega
  · have := List.length_filter_le (fun e : GP => decide (e.2 ≤ 196)) M; omega
end Go.Proofs.YtilbhingfnjppaaDoor
