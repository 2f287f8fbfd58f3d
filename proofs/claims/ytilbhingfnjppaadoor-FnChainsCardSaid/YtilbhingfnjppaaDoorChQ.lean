/- Chains: how many kinds of steps; the grown chain; the golden window. No program in sight. -/
import Derived.Test.YtilbhingfnjppaaDoorChP
import Derived.Test.YtilbhingfnjppaaDoorChK
import Derived.Test.YtilbhingfnjppaaDoorGoldV
import Derived.Test.YtilbhingfnjppaaDoorGoldG
set_option linter.unusedSimpArgs false
set_option linter.unusedVariables false
namespace Go.Proofs.YtilbhingfnjppaaDoor
open Go.RowKit
theorem Win_win {a b c d : Int} (h : Win (a, b) (c, d)) : win a b c d = true := by
  have h1 := h.l1; have h2 := h.l2; have h3 := h.h1; have h4 := h.h2; have h5 := h.w1; have h6 := h.w4
  simp only at h1 h2 h3 h4 h5 h6
  have e1 := (sgn_ge_lin (a := c - a - 1) (b := d - b) (bd_of (by omega) (by omega)) (bd_of (by omega) (by omega))).2 h5
  have e2 := mt (sgn_ge_lin (a := c - a - 4) (b := d - b) (bd_of (by omega) (by omega)) (bd_of (by omega) (by omega))).1 (by omega)
  unfold win wide
  have i1 : inW a b = true := by unfold inW; rw [inB_true.2 h1, inB_true.2 h2]; rfl
  have i2 : inW c d = true := by unfold inW; rw [inB_true.2 h3, inB_true.2 h4]; rfl
  rw [i1, i2, decide_eq_true e1, decide_eq_true (show sgn (c - a - 4) (d - b) < 0 by omega)]; rfl
theorem okB_of {a b : Int} (h1 : -1000000 ≤ a ∧ a ≤ 1000000) (h2 : -1000000 ≤ b ∧ b ≤ 1000000) : okB a b = true := by
  unfold okB; rw [inB_true.2 h1, inB_true.2 h2]; rfl
theorem memb_of {a b c d : Int} {x : GP} (hw : Win (a, b) (c, d)) (hx : inC (a, b) (c, d) x = true) (hb : bp x) : member a b c d x.1 x.2 = true ∧ 0 ≤ sgn x.1 x.2 := by
  obtain ⟨q1, q2, q3⟩ := (inC_iff _ _ _).1 hx
  obtain ⟨⟨b1, b2⟩, b3, b4⟩ := hb
  have h1 := hw.l1; have h2 := hw.l2; have h3 := hw.h1; have h4 := hw.h2
  simp only at h1 h2 h3 h4 q2 q3
  have e0 := (sgn_ge_lin (a := x.1) (b := x.2) (bd_of (by omega) (by omega)) (bd_of (by omega) (by omega))).2 q1
  have e1 := (sgn_ge_lin (a := x.1 + x.2 - a) (b := -x.2 - b) (bd_of (by omega) (by omega)) (bd_of (by omega) (by omega))).2 q2
  have e2 := mt (sgn_ge_lin (a := x.1 + x.2 - c) (b := -x.2 - d) (bd_of (by omega) (by omega)) (bd_of (by omega) (by omega))).1 (by omega)
  refine ⟨?_, e0⟩
  unfold member mated
  rw [Win_win hw, okB_of ⟨by omega, by omega⟩ ⟨by omega, by omega⟩, decide_eq_true e0, decide_eq_true e1, decide_eq_true (show sgn (x.1 + x.2 - c) (-x.2 - d) < 0 by omega)]; rfl
/-- The mate times the golden number: the grown window holds it. -/
theorem grown_memb {a b c d : Int} {x : GP} (hw : Win (a, b) (c, d)) (hx : inC (a, b) (c, d) x = true) (hb : bp x) (hg : win (c - d) (-c) (a - b) (-a) = true) (hne : ¬ (x.1 + x.2 = a ∧ -x.2 = b)) : member (c - d) (-c) (a - b) (-a) x.2 (x.1 + x.2) = true := by
  obtain ⟨q1, q2, q3⟩ := (inC_iff _ _ _).1 hx
  obtain ⟨⟨b1, b2⟩, b3, b4⟩ := hb
  have h1 := hw.l1; have h2 := hw.l2; have h3 := hw.h1; have h4 := hw.h2
  simp only at h1 h2 h3 h4 q2 q3
  have e0 := (sgn_ge_lin (a := x.1) (b := x.2) (bd_of (by omega) (by omega)) (bd_of (by omega) (by omega))).2 q1
  have e1 := (sgn_ge_lin (a := x.1 + x.2 - a) (b := -x.2 - b) (bd_of (by omega) (by omega)) (bd_of (by omega) (by omega))).2 q2
  have e2 := mt (sgn_ge_lin (a := x.1 + x.2 - c) (b := -x.2 - d) (bd_of (by omega) (by omega)) (bd_of (by omega) (by omega))).1 (by omega)
  have s1 : sgn 0 1 = 1 := by decide
  have s2 : sgn 1 (-1) = -1 := by decide
  have m0 := sgn_mul x.1 x.2 0 1
  have m1 := sgn_mul (x.1 + x.2 - a) (-x.2 - b) 1 (-1)
  have m2 := sgn_mul (x.1 + x.2 - c) (-x.2 - d) 1 (-1)
  rw [s1, show x.1 * 0 + x.2 * 1 = x.2 by omega, show x.1 * 1 + x.2 * 0 + x.2 * 1 = x.1 + x.2 by omega] at m0
  rw [s2, show (x.1 + x.2 - a) * 1 + (-x.2 - b) * -1 = x.2 + (x.1 + x.2) - (a - b) by omega, show (x.1 + x.2 - a) * -1 + (-x.2 - b) * 1 + (-x.2 - b) * -1 = -(x.1 + x.2) - -a by omega] at m1
  rw [s2, show (x.1 + x.2 - c) * 1 + (-x.2 - d) * -1 = x.2 + (x.1 + x.2) - (c - d) by omega, show (x.1 + x.2 - c) * -1 + (-x.2 - d) * 1 + (-x.2 - d) * -1 = -(x.1 + x.2) - -c by omega] at m2
  have z1 : sgn (x.1 + x.2 - a) (-x.2 - b) ≠ 0 := fun e => by
    have := sgn_zero.1 e
    exact hne ⟨by omega, by omega⟩
  unfold member mated
  rw [hg, okB_of ⟨by omega, by omega⟩ ⟨by omega, by omega⟩, decide_eq_true (show 0 ≤ sgn x.2 (x.1 + x.2) by omega), decide_eq_true (show 0 ≤ sgn (x.2 + (x.1 + x.2) - (c - d)) (-(x.1 + x.2) - -c) by omega), decide_eq_true (show sgn (x.2 + (x.1 + x.2) - (a - b)) (-(x.1 + x.2) - -a) < 0 by omega)]; rfl
theorem grA_eq {a b : Int} (h1 : -1000 ≤ a ∧ a ≤ 1000) (h2 : -1000 ≤ b ∧ b ≤ 1000) : grA a b = a - b ∧ grB a b = -a := by
  unfold grA grB mulA mulB wrap64
  omega
/-! ### How many kinds -/
theorem asc_nodup {L : List GP} (h : ascK L) : L.Nodup := List.Pairwise.imp (fun {x y} q e => by rw [e] at q; omega) h
theorem kinds_three {lo hi g1 g2 : GP} {Dd : Int} (h : Cls lo hi g1 g2 Dd) {S K : List GP} (hS : S.length = 59) (hat : ∀ k, k < 59 → S.getD k (0, 0) = sub2 (chn lo hi (k + 1)) (chn lo hi k)) (hK : ascK K) (hm : ∀ z, z ∈ K ↔ z ∈ S) :
    2 ≤ K.length ∧ K.length ≤ 3 ∧ (K.length = 3 → K = [g1, g2, add2 g1 g2]) := by
  have hin : ∀ z ∈ K, z = g1 ∨ z = g2 ∨ z = add2 g1 g2 := fun z hz => by
    obtain ⟨k, hk, rfl⟩ := List.getElem_of_mem ((hm z).1 hz)
    have := hat k (by omega)
    rw [List.getD_eq_getElem?_getD, List.getElem?_eq_getElem hk, Option.getD_some] at this
    rw [this]
    exact step_three h (by omega)
  have hnd := asc_nodup hK
  have hSm : ∀ k, k < 59 → sub2 (chn lo hi (k + 1)) (chn lo hi k) ∈ K := fun k hk => by
    rw [hm, ← hat k hk, List.getD_eq_getElem?_getD, List.getElem?_eq_getElem (by omega)]
    exact List.getElem_mem _
  have h3 : K.length ≤ 3 := nodup_len hnd (m := [g1, g2, add2 g1 g2]) (fun z hz => by
    rcases hin z hz with rfl | rfl | rfl <;> simp)
  refine ⟨?_, h3, fun e => ?_⟩
  · by_cases q : 2 ≤ K.length
    · exact q
    · exfalso
      match K, q, hSm with
      | [], _, hSm => exact absurd (hSm 0 (by omega)) (by simp)
      | [g], _, hSm => exact step_not h g (fun i hi' => by simpa using hSm i hi')
      | _ :: _ :: _, q, _ => exact q (by simp)
  · have k1 := h.k1
    have k2 := h.k2
    have e3 : key (add2 g1 g2) = key g1 + key g2 := key_add g1 g2
    have full : ∀ z, z = g1 ∨ z = g2 ∨ z = add2 g1 g2 → z ∈ K := by
      intro z hz
      by_cases q : z ∈ K
      · exact q
      · exfalso
        have two : ∀ u v : GP, (∀ y ∈ K, y = u ∨ y = v) → False := fun u v huv => by
          have := nodup_len hnd (m := [u, v]) (fun y hy => by rcases huv y hy with rfl | rfl <;> simp)
          simp at this; omega
        rcases hz with rfl | rfl | rfl
        · exact two g2 (add2 z g2) (fun y hy => by
            rcases hin y hy with rfl | r | r
            · exact absurd hy q
            · exact .inl r
            · exact .inr r)
        · exact two g1 (add2 g1 z) (fun y hy => by
            rcases hin y hy with r | rfl | r
            · exact .inl r
            · exact absurd hy q
            · exact .inr r)
        · exact two g1 g2 (fun y hy => by
            rcases hin y hy with r | r | rfl
            · exact .inl r
            · exact .inr r
            · exact absurd hy q)
    refine ascK_eq hK ?_ (fun z => ⟨fun hz => by rcases hin z hz with rfl | rfl | rfl <;> simp, fun hz => full z (by simpa using hz)⟩)
    refine List.Pairwise.cons ?_ (List.Pairwise.cons ?_ (List.Pairwise.cons (by simp) List.Pairwise.nil))
    · intro z hz
      have : z = g2 ∨ z = add2 g1 g2 := by simpa using hz
      rcases this with rfl | rfl <;> omega
    · intro z hz
      have : z = add2 g1 g2 := by simpa using hz
      rw [this]; omega
/-! ### The golden window -/
theorem clsG : Cls (-1, 0) (-1, 1) (-1, 1) (1, 0) (vl 0 1) := cls0 (-1) 0 (by omega) (by omega)
def nxg (x : GP) : GP := if inC (-1, 0) (-1, 1) (add2 x (-1, 1)) = true then add2 x (-1, 1) else if inC (-1, 0) (-1, 1) (add2 x (1, 0)) = true then add2 x (1, 0) else add2 x (0, 1)
theorem goldw_zero : chn (-1, 0) (-1, 1) 0 = (0, 0) := by
  have hw := clsG.w
  have h0 := chn_low hw (show 0 < 60 by omega)
  have hz : ((0, 0) : GP) ∈ specL (-1, 0) (-1, 1) := (mem_chain hw).2 ⟨by decide, by decide, by decide⟩
  have hk0 : key ((0, 0) : GP) = 0 := by decide
  have hge := ((inC_mt clsG _).1 h0.1).1
  have hle : key (chn (-1, 0) (-1, 1) 0) ≤ 0 := by
    obtain ⟨j, hj, e⟩ := List.getElem_of_mem hz
    have e2 : chn (-1, 0) (-1, 1) j = (0, 0) := by unfold chn; rw [List.getD_eq_getElem?_getD, List.getElem?_eq_getElem hj, Option.getD_some]; exact e
    by_cases q : j = 0
    · rw [q] at e2; rw [e2, hk0]; omega
    · have := chn_asc hw (show 0 < j by omega) hj
      rw [e2, hk0] at this; omega
  have hb := allS_bp hw (((specL_asc hw).2 _).1 (chn_mem hw (show 0 < 60 by omega)))
  obtain ⟨⟨b1, b2⟩, b3, b4⟩ := hb
  obtain ⟨r1, r2⟩ := vl_inj (a := (chn (-1, 0) (-1, 1) 0).1) (b := (chn (-1, 0) (-1, 1) 0).2) (c := 0) (d := 0) (bd_of (by omega) (by omega)) (bd_of (by omega) (by omega)) (by
    show key (chn (-1, 0) (-1, 1) 0) = _
    have : vl 0 0 = 0 := by decide
    rw [this]; omega)
  exact Prod.ext r1 r2
theorem nle1 (k : Int) : ¬ k + 204668310 ≤ k + 126491972 := by omega
theorem nle2 (k : Int) : ¬ k + 331160282 ≤ k + 126491972 := by omega
theorem nle3 (k : Int) : ¬ k + 331160282 ≤ k + 204668310 := by omega
theorem goldw_next {i : Nat} (hi' : i + 1 < 60) : chn (-1, 0) (-1, 1) (i + 1) = nxg (chn (-1, 0) (-1, 1) i) := by
  have h := clsG
  have hst := step_three h hi'
  have hx := (chn_low h.w (show i < 60 by omega)).1
  have hy := (chn_low h.w hi').1
  have hasc := chn_asc h.w (show i < i + 1 by omega) (by have := specL_60 h.w; omega)
  have e := add_sub2 (chn (-1, 0) (-1, 1) (i + 1)) (chn (-1, 0) (-1, 1) i)
  have k1 : key ((-1, 1) : GP) = 126491972 := by decide
  have k2 : key ((1, 0) : GP) = 204668310 := by decide
  have e3 : add2 ((-1, 1) : GP) (1, 0) = (0, 1) := by decide
  have k3 : key ((0, 1) : GP) = 331160282 := by decide
  rw [e3] at hst
  obtain ⟨x, hxe⟩ : ∃ x, chn (-1, 0) (-1, 1) i = x := ⟨_, rfl⟩
  obtain ⟨y, hye⟩ : ∃ y, chn (-1, 0) (-1, 1) (i + 1) = y := ⟨_, rfl⟩
  have n1 : inC (-1, 0) (-1, 1) (add2 x (-1, 1)) = true → key y ≤ key x + 126491972 := fun q => by
    have := chn_next h.w hi' (add_in h (show i < 60 by omega) h.b1 (by rw [hxe]; exact q)) (by rw [key_add, k1]; omega)
    rw [key_add, k1, hxe, hye] at this; exact this
  have n2 : inC (-1, 0) (-1, 1) (add2 x (1, 0)) = true → key y ≤ key x + 204668310 := fun q => by
    have := chn_next h.w hi' (add_in h (show i < 60 by omega) h.b2 (by rw [hxe]; exact q)) (by rw [key_add, k2]; omega)
    rw [key_add, k2, hxe, hye] at this; exact this
  rw [hxe, hye] at hst e
  rw [hye] at hy
  rw [hxe, hye]
  unfold nxg
  have ky : key y = key x + key (sub2 y x) := by rw [← key_add, e]
  rcases hst with q | q | q
  · rw [q] at e
    rw [if_pos (by rw [e]; exact hy), e]
  · rw [q] at e ky
    rw [k2] at ky
    rw [if_neg (fun r => by have := n1 r; rw [ky] at this; exact nle1 _ this), if_pos (by rw [e]; exact hy), e]
  · rw [q] at e ky
    rw [k3] at ky
    rw [if_neg (fun r => by have := n1 r; rw [ky] at this; exact nle2 _ this), if_neg (fun r => by have := n2 r; rw [ky] at this; exact nle3 _ this), e]
/-- The first numbers of the golden window's chain. -/
def gch : Nat → GP
  | 0 => (0, 0)
  | k + 1 => nxg (gch k)
theorem goldw_chn : ∀ k, k < 60 → chn (-1, 0) (-1, 1) k = gch k
  | 0, _ => goldw_zero
  | k + 1, h => by rw [goldw_next h, goldw_chn k (by omega)]; rfl
/-- The steps, all at once: a list that grows at its end. -/
def gst (x : GP) : Nat → List GP
  | 0 => []
  | k + 1 => sub2 (nxg x) x :: gst (nxg x) k
def gchF (x : GP) : Nat → GP
  | 0 => x
  | k + 1 => gchF (nxg x) k
theorem gchF_next (x : GP) : ∀ k, gchF x (k + 1) = nxg (gchF x k)
  | 0 => rfl
  | k + 1 => gchF_next (nxg x) k
theorem gchF_eq : ∀ k, gchF (0, 0) k = gch k
  | 0 => rfl
  | k + 1 => by rw [gchF_next, gchF_eq k]; rfl
theorem gst_at (n : Nat) : ∀ (x : GP) (k : Nat), k < n → (gst x n).getD k (0, 0) = sub2 (gchF x (k + 1)) (gchF x k) := by
  induction n with
  | zero => intro x k h; omega
  | succ n ih =>
    intro x k h
    cases k with
    | zero => rfl
    | succ k => exact ih (nxg x) k (by omega)
theorem gst_len : ∀ (n : Nat) (x : GP), (gst x n).length = n
  | 0, _ => rfl
  | n + 1, x => by rw [gst, List.length_cons, gst_len n]
end Go.Proofs.YtilbhingfnjppaaDoor
