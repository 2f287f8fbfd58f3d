/- Chains: both ways of finding the first numbers agree. -/
import Derived.Test.YtfbcbfimhgaicaaChB
set_option linter.unusedSimpArgs false
set_option linter.unusedVariables false
namespace Go.Proofs.Ytfbcbfimhgaicaa
open Go.RowKit
theorem bd_of {a : Int} (h1 : -100000 ≤ a) (h2 : a ≤ 100000) : bd a := ⟨h1, h2⟩
theorem sgn_ge_lin {a b : Int} (ha : bd a) (hb : bd b) : 0 ≤ sgn a b ↔ 0 ≤ vl a b := by
  obtain ⟨h1, h2, h3⟩ := sgn_lin ha hb
  have hr := sgn_range a b
  clear ha hb
  omega
theorem flo_lin {a b : Int} (ha : -2000 ≤ a ∧ a ≤ 2000) (hb : -2000 ≤ b ∧ b ≤ 2000) : (-10000 ≤ flo a b ∧ flo a b ≤ 10000) ∧ 0 ≤ vl (a - flo a b) b ∧ vl (a - flo a b - 1) b < 0 := by
  obtain ⟨h1, h2⟩ := flo_is a b (by omega) (by omega)
  obtain ⟨G, hG⟩ : ∃ G, flo a b = G := ⟨_, rfl⟩
  rw [hG] at h1 h2 ⊢
  have hbb : bd b := ⟨by omega, by omega⟩
  have hup : G ≤ 10000 := by
    by_cases h : G ≤ 10000
    · exact h
    · exfalso
      have h3 := sgn_mono h1 (show a - G ≤ -8000 by omega)
      have h4 := (sgn_ge_lin (bd_of (by omega) (by omega)) hbb).1 h3
      rw [vl_eq] at h4
      clear hbb h1 h2 h3
      omega
  have hlo : -10000 ≤ G := by
    by_cases h : -10000 ≤ G
    · exact h
    · exfalso
      have h4 : 0 ≤ sgn 8000 b := (sgn_ge_lin (bd_of (by omega) (by omega)) hbb).2 (by rw [vl_eq]; clear hbb h1 h2; omega)
      exact h2 (sgn_mono h4 (by omega))
  refine ⟨⟨hlo, hup⟩, (sgn_ge_lin (bd_of (by omega) (by omega)) hbb).1 h1, ?_⟩
  have h5 := mt (sgn_ge_lin (a := a - (G + 1)) (bd_of (by omega) (by omega)) hbb).2 h2
  rw [vl_eq] at h5 ⊢
  clear hbb h1 h2
  omega
structure Win (lo hi : GP) : Prop where
  l1 : -100 ≤ lo.1 ∧ lo.1 ≤ 100
  l2 : -100 ≤ lo.2 ∧ lo.2 ≤ 100
  h1 : -100 ≤ hi.1 ∧ hi.1 ≤ 100
  h2 : -100 ≤ hi.2 ∧ hi.2 ≤ 100
  w1 : 0 ≤ vl (hi.1 - lo.1 - 1) (hi.2 - lo.2)
  w4 : vl (hi.1 - lo.1 - 4) (hi.2 - lo.2) < 0
def inC (lo hi x : GP) : Bool := decide (0 ≤ vl x.1 x.2) && (decide (0 ≤ vl (x.1 + x.2 - lo.1) (-x.2 - lo.2)) && decide (vl (x.1 + x.2 - hi.1) (-x.2 - hi.2) < 0))
theorem inC_iff (lo hi x : GP) : inC lo hi x = true ↔ 0 ≤ vl x.1 x.2 ∧ 0 ≤ vl (x.1 + x.2 - lo.1) (-x.2 - lo.2) ∧ vl (x.1 + x.2 - hi.1) (-x.2 - hi.2) < 0 := by
  unfold inC; simp only [Bool.and_eq_true, decide_eq_true_eq]
def frst (lo : GP) (b : Int) : Int := -flo (-lo.1 + b) (-lo.2 - b)
def low0 (lo : GP) (b : Int) : Int := flo (lo.1 - b) (lo.2 + b)
def clS (lo hi : GP) (b : Int) : List GP := ((List.range 5).map (fun (s : Nat) => ((frst lo b + (s : Int), b) : GP))).filter (inC lo hi)
def clI (lo hi : GP) (b : Int) : List GP := ((List.range 7).map (fun (s : Nat) => ((low0 lo b + (s : Int) - 1, b) : GP))).filter (inC lo hi)
def frm (hi : GP) : Int := if flo hi.1 hi.2 < 0 then (-(flo hi.1 hi.2 + 1)).tdiv 3 - 2 else (-(max (flo hi.1 hi.2 + 1) 0)).tdiv 2 - 2
theorem clS_mem {lo hi : GP} {b : Int} {x : GP} : x ∈ clS lo hi b ↔ inC lo hi x = true ∧ x.2 = b ∧ frst lo b ≤ x.1 ∧ x.1 < frst lo b + 5 := by
  unfold clS
  rw [List.mem_filter, List.mem_map]
  constructor
  · rintro ⟨⟨s, hs, rfl⟩, h⟩
    rw [List.mem_range] at hs
    exact ⟨h, rfl, by show _ ≤ frst lo b + (s : Int); omega, by show frst lo b + (s : Int) < _; omega⟩
  · rintro ⟨h, h2, h3, h4⟩
    refine ⟨⟨(x.1 - frst lo b).toNat, by rw [List.mem_range]; omega, ?_⟩, h⟩
    obtain ⟨xa, xb⟩ := x
    simp only at h2 h3 h4 ⊢
    subst h2
    congr 1; omega
theorem clI_mem {lo hi : GP} {b : Int} {x : GP} : x ∈ clI lo hi b ↔ inC lo hi x = true ∧ x.2 = b ∧ low0 lo b - 1 ≤ x.1 ∧ x.1 < low0 lo b + 6 := by
  unfold clI
  rw [List.mem_filter, List.mem_map]
  constructor
  · rintro ⟨⟨s, hs, rfl⟩, h⟩
    rw [List.mem_range] at hs
    exact ⟨h, rfl, by show _ ≤ low0 lo b + (s : Int) - 1; omega, by show low0 lo b + (s : Int) - 1 < _; omega⟩
  · rintro ⟨h, h2, h3, h4⟩
    refine ⟨⟨(x.1 - low0 lo b + 1).toNat, by rw [List.mem_range]; omega, ?_⟩, h⟩
    obtain ⟨xa, xb⟩ := x
    simp only at h2 h3 h4 ⊢
    subst h2
    congr 1; omega
/-- What a number of the chain must be like. -/
theorem inC_first {lo hi x : GP} (hw : Win lo hi) (hb : -600 ≤ x.2 ∧ x.2 ≤ 600) (h : inC lo hi x = true) : (frst lo x.2 ≤ x.1 ∧ x.1 < frst lo x.2 + 5) ∧ (low0 lo x.2 - 1 ≤ x.1 ∧ x.1 < low0 lo x.2 + 6) := by
  obtain ⟨q1, q2, q3⟩ := (inC_iff lo hi x).1 h
  have hl1 := hw.l1; have hl2 := hw.l2; have hw1 := hw.w1; have hw4 := hw.w4
  obtain ⟨_, g1, g2⟩ := flo_lin (a := -lo.1 + x.2) (b := -lo.2 - x.2) (by omega) (by omega)
  obtain ⟨_, k1, k2⟩ := flo_lin (a := lo.1 - x.2) (b := lo.2 + x.2) (by omega) (by omega)
  unfold frst low0
  obtain ⟨G, hG⟩ : ∃ G, flo (-lo.1 + x.2) (-lo.2 - x.2) = G := ⟨_, rfl⟩
  obtain ⟨H, hH⟩ : ∃ H, flo (lo.1 - x.2) (lo.2 + x.2) = H := ⟨_, rfl⟩
  rw [hG] at g1 g2 ⊢
  rw [hH] at k1 k2 ⊢
  rw [vl_eq] at q1 q2 q3 g1 g2 k1 k2 hw1 hw4
  clear hw h hG hH
  omega
theorem inC_low {lo hi x : GP} (hw : Win lo hi) (h : inC lo hi x = true) : frm hi ≤ x.2 ∧ -180 ≤ frm hi ∧ frm hi ≤ 110 := by
  obtain ⟨q1, q2, q3⟩ := (inC_iff lo hi x).1 h
  have hh1 := hw.h1; have hh2 := hw.h2
  obtain ⟨_, g1, g2⟩ := flo_lin (a := hi.1) (b := hi.2) (by omega) (by omega)
  unfold frm
  obtain ⟨F, hF⟩ : ∃ F, flo hi.1 hi.2 = F := ⟨_, rfl⟩
  rw [hF] at g1 g2 ⊢
  rw [vl_eq] at q1 q2 q3 g1 g2
  clear hw h hF
  split
  · rw [Int.tdiv_eq_ediv_of_nonneg (by omega)]
    omega
  · rw [Int.neg_tdiv, Int.tdiv_eq_ediv_of_nonneg (by omega)]
    omega
theorem frm_b {lo hi : GP} (hw : Win lo hi) : -180 ≤ frm hi ∧ frm hi ≤ 110 := by
  have hh1 := hw.h1; have hh2 := hw.h2
  obtain ⟨_, g1, g2⟩ := flo_lin (a := hi.1) (b := hi.2) (by omega) (by omega)
  unfold frm
  obtain ⟨F, hF⟩ : ∃ F, flo hi.1 hi.2 = F := ⟨_, rfl⟩
  rw [hF] at g1 g2 ⊢
  rw [vl_eq] at g1 g2
  clear hw hF
  split
  · rw [Int.tdiv_eq_ediv_of_nonneg (by omega)]
    omega
  · rw [Int.neg_tdiv, Int.tdiv_eq_ediv_of_nonneg (by omega)]
    omega
/-- Numbers whose second parts are far apart stand in their order. -/
theorem far_key {lo hi e y : GP} (hw : Win lo hi) (he : inC lo hi e = true) (hy : inC lo hi y = true) (h1 : e.2 ≤ 196) (h2 : 199 ≤ y.2) : key e < key y := by
  obtain ⟨_, q2, q3⟩ := (inC_iff lo hi e).1 he
  obtain ⟨_, r2, r3⟩ := (inC_iff lo hi y).1 hy
  have hw4 := hw.w4
  unfold key
  rw [vl_eq] at q2 q3 r2 r3 hw4 ⊢
  rw [vl_eq]
  clear hw he hy
  omega
/-- At each second part from 118 on there is one. -/
theorem some_at {lo hi : GP} (hw : Win lo hi) {b : Int} (h1 : 118 ≤ b) (h2 : b ≤ 196) : inC lo hi (frst lo b, b) = true := by
  rw [inC_iff]
  have hl1 := hw.l1; have hl2 := hw.l2; have hw1 := hw.w1
  obtain ⟨_, g1, g2⟩ := flo_lin (a := -lo.1 + b) (b := -lo.2 - b) (by omega) (by omega)
  unfold frst
  obtain ⟨G, hG⟩ : ∃ G, flo (-lo.1 + b) (-lo.2 - b) = G := ⟨_, rfl⟩
  rw [hG] at g1 g2 ⊢
  simp only
  rw [vl_eq] at g1 g2 hw1
  rw [vl_eq, vl_eq, vl_eq]
  clear hw hG
  omega
end Go.Proofs.Ytfbcbfimhgaicaa
