/- The steps of a chain: one of three. No program in sight. -/
import Derived.Test.YtilbhingfnjppaaDoorMCh
set_option linter.unusedSimpArgs false
set_option linter.unusedVariables false
namespace Go.Proofs.YtilbhingfnjppaaDoor
open Go.RowKit
/-- The k-th number of a chain. -/
def chn (lo hi : GP) (k : Nat) : GP := (specL lo hi).getD k (0, 0)
theorem specL_60 {lo hi : GP} (hw : Win lo hi) : 60 ≤ (specL lo hi).length := by
  obtain ⟨h4, h5⟩ := fold_gput (allI lo hi 400) [] List.Pairwise.nil (by
    rw [List.nil_append]
    exact List.Pairwise.imp_of_mem (fun {x y} ha hb h => key_ne_of (allI_bp hw ha) (allI_bp hw hb) h) (allI_pw lo hi 400))
  exact (first_eq hw h4 (fun z => by rw [h5]; simp) 0 (by omega)).2.1
theorem chn_mem {lo hi : GP} (hw : Win lo hi) {k : Nat} (hk : k < 60) : chn lo hi k ∈ specL lo hi := by
  have := specL_60 hw
  unfold chn
  rw [List.getD_eq_getElem?_getD, List.getElem?_eq_getElem (by omega)]
  exact List.getElem_mem _
theorem mem_chain {lo hi : GP} (hw : Win lo hi) {z : GP} : z ∈ specL lo hi ↔ inC lo hi z = true ∧ -200 ≤ z.2 ∧ z.2 ≤ 200 := by
  rw [(specL_asc hw).2, allS_iff hw]
theorem chn_low {lo hi : GP} (hw : Win lo hi) {k : Nat} (hk : k < 60) : inC lo hi (chn lo hi k) = true ∧ -180 ≤ (chn lo hi k).2 ∧ (chn lo hi k).2 ≤ 198 := by
  have hS := (specL_asc hw).1
  have hf := frm_b hw
  have hlen := specL_60 hw
  have c1 := many hw (L := specL lo hi) (fun z h1 h2 h3 => (mem_chain hw).2 ⟨h1, by omega, by omega⟩)
  have e1 := take_q hS (fun e => decide (e.2 ≤ 196)) (fun e => decide (e.2 ≤ 198)) 60 (by omega) (fun e he hp y hy hq => by
    simp only [decide_eq_true_eq, decide_eq_false_iff_not] at hp hq
    exact far_key hw ((mem_chain hw).1 he).1 ((mem_chain hw).1 hy).1 hp (by omega))
  have hin := ((mem_chain hw).1 (chn_mem hw hk)).1
  have hm : chn lo hi k ∈ (specL lo hi).take 60 := by
    unfold chn
    rw [List.getD_eq_getElem?_getD, List.getElem?_eq_getElem (by omega), Option.getD_some]
    have hl : k < ((specL lo hi).take 60).length := by rw [List.length_take]; omega
    have := List.getElem_mem hl
    rwa [List.getElem_take] at this
  rw [e1] at hm
  have := List.mem_filter.1 (List.mem_of_mem_take hm)
  have h2 := inC_low hw hin
  exact ⟨hin, by omega, by simpa using this.2⟩
theorem chn_asc {lo hi : GP} (hw : Win lo hi) {i j : Nat} (hij : i < j) (hj : j < (specL lo hi).length) : key (chn lo hi i) < key (chn lo hi j) := by
  have := List.pairwise_iff_getElem.1 (specL_asc hw).1 i j (by omega) hj hij
  unfold chn
  rw [List.getD_eq_getElem?_getD, List.getD_eq_getElem?_getD, List.getElem?_eq_getElem (by omega), List.getElem?_eq_getElem hj]
  exact this
/-- Nothing lies between one number and the next. -/
theorem chn_next {lo hi : GP} (hw : Win lo hi) {i : Nat} (hi' : i + 1 < 60) {z : GP} (hz : z ∈ specL lo hi) (h : key (chn lo hi i) < key z) : key (chn lo hi (i + 1)) ≤ key z := by
  obtain ⟨j, hj, rfl⟩ := List.getElem_of_mem hz
  have e : chn lo hi j = (specL lo hi)[j] := by unfold chn; rw [List.getD_eq_getElem?_getD, List.getElem?_eq_getElem hj]; rfl
  rw [← e] at h ⊢
  by_cases q : j ≤ i
  · exfalso
    by_cases q2 : j = i
    · rw [q2] at h; omega
    · have := chn_asc hw (show j < i by omega) (by have := specL_60 hw; omega); omega
  · by_cases q2 : j = i + 1
    · rw [q2]; omega
    · have := chn_asc hw (show i + 1 < j by omega) hj; omega
/-- A number's mate, above the window's foot. -/
def mtl (lo x : GP) : Int := vl (x.1 + x.2 - lo.1) (-x.2 - lo.2)
def mk1 (g : GP) : Int := vl (g.1 + g.2) (-g.2)
def add2 (x g : GP) : GP := (x.1 + g.1, x.2 + g.2)
theorem key_add (x g : GP) : key (add2 x g) = key x + key g := by unfold key add2; rw [vl_eq, vl_eq, vl_eq]; simp only; omega
theorem mt_add (lo x g : GP) : mtl lo (add2 x g) = mtl lo x + mk1 g := by unfold mtl mk1 add2; rw [vl_eq, vl_eq, vl_eq]; simp only; omega
/-- A window of the width d, and its two lesser steps. -/
structure Cls (lo hi g1 g2 : GP) (Dd : Int) : Prop where
  w : Win lo hi
  d : vl (hi.1 - lo.1) (hi.2 - lo.2) = Dd
  k1 : 0 < key g1
  k2 : key g1 < key g2
  b1 : -1 ≤ g1.2 ∧ g1.2 ≤ 1
  b2 : -1 ≤ g2.2 ∧ g2.2 ≤ 1
  b3 : -1 ≤ g1.2 + g2.2 ∧ g1.2 + g2.2 ≤ 1
  m : (0 < mk1 g1 ∧ mk1 g2 < 0 ∧ mk1 g1 ≤ Dd ∧ -mk1 g2 ≤ Dd ∧ Dd ≤ mk1 g1 - mk1 g2) ∨ (mk1 g1 < 0 ∧ 0 < mk1 g2 ∧ -mk1 g1 ≤ Dd ∧ mk1 g2 ≤ Dd ∧ Dd ≤ mk1 g2 - mk1 g1)
  q : ∀ p : GP, 0 < key p → key p ≤ key g1 + key g2 → -Dd < mk1 p → mk1 p < Dd → p = g1 ∨ p = g2 ∨ p = add2 g1 g2
  n1 : Dd < 59 * mk1 g1 ∨ Dd < -(59 * mk1 g1)
  n2 : Dd < 59 * mk1 g2 ∨ Dd < -(59 * mk1 g2)
  n3 : Dd < 59 * (mk1 g1 + mk1 g2) ∨ Dd < -(59 * (mk1 g1 + mk1 g2))
theorem inC_mt {lo hi g1 g2 : GP} {Dd : Int} (h : Cls lo hi g1 g2 Dd) (x : GP) : inC lo hi x = true ↔ 0 ≤ key x ∧ 0 ≤ mtl lo x ∧ mtl lo x < Dd := by
  rw [inC_iff]
  have e := h.d
  have : vl (x.1 + x.2 - hi.1) (-x.2 - hi.2) = mtl lo x - Dd := by rw [← e]; unfold mtl; rw [vl_eq, vl_eq, vl_eq]; omega
  rw [this]
  unfold key mtl
  constructor
  · rintro ⟨a, b, c⟩; exact ⟨a, b, by omega⟩
  · rintro ⟨a, b, c⟩; exact ⟨a, b, by omega⟩
theorem step_some {lo hi g1 g2 : GP} {Dd : Int} (h : Cls lo hi g1 g2 Dd) {x : GP} (hx : inC lo hi x = true) : inC lo hi (add2 x g1) = true ∨ inC lo hi (add2 x g2) = true ∨ inC lo hi (add2 x (add2 g1 g2)) = true := by
  obtain ⟨a, b, c⟩ := (inC_mt h x).1 hx
  rw [inC_mt h, inC_mt h, inC_mt h, key_add, key_add, key_add, key_add, mt_add, mt_add, mt_add]
  have e : mk1 (add2 g1 g2) = mk1 g1 + mk1 g2 := by unfold mk1 add2; rw [vl_eq, vl_eq, vl_eq]; simp only; omega
  rw [e]
  have h1 := h.k1
  have h2 := h.k2
  have h3 := h.m
  omega
def sub2 (y x : GP) : GP := (y.1 - x.1, y.2 - x.2)
theorem add_sub2 (y x : GP) : add2 x (sub2 y x) = y := by unfold add2 sub2; exact Prod.ext (by show x.1 + (y.1 - x.1) = y.1; omega) (by show x.2 + (y.2 - x.2) = y.2; omega)
theorem sub_add2 (x g : GP) : sub2 (add2 x g) x = g := by unfold add2 sub2; exact Prod.ext (by show x.1 + g.1 - x.1 = g.1; omega) (by show x.2 + g.2 - x.2 = g.2; omega)
theorem add_in {lo hi g1 g2 : GP} {Dd : Int} (h : Cls lo hi g1 g2 Dd) {i : Nat} (hi' : i < 60) {g : GP} (hg : -1 ≤ g.2 ∧ g.2 ≤ 1) (hin : inC lo hi (add2 (chn lo hi i) g) = true) : add2 (chn lo hi i) g ∈ specL lo hi := by
  obtain ⟨_, c1, c2⟩ := chn_low h.w hi'
  refine (mem_chain h.w).2 ⟨hin, ?_, ?_⟩
  · show -200 ≤ (chn lo hi i).2 + g.2; omega
  · show (chn lo hi i).2 + g.2 ≤ 200; omega
/-- Each step is one of three. -/
theorem step_three {lo hi g1 g2 : GP} {Dd : Int} (h : Cls lo hi g1 g2 Dd) {i : Nat} (hi' : i + 1 < 60) : sub2 (chn lo hi (i + 1)) (chn lo hi i) = g1 ∨ sub2 (chn lo hi (i + 1)) (chn lo hi i) = g2 ∨ sub2 (chn lo hi (i + 1)) (chn lo hi i) = add2 g1 g2 := by
  have hx := (chn_low h.w (show i < 60 by omega)).1
  have hy := (chn_low h.w hi').1
  have hasc := chn_asc h.w (show i < i + 1 by omega) (by have := specL_60 h.w; omega)
  have k1 := h.k1
  have k2 := h.k2
  have hup : key (chn lo hi (i + 1)) ≤ key (chn lo hi i) + (key g1 + key g2) := by
    rcases step_some h hx with q | q | q
    · have := chn_next h.w hi' (add_in h (by omega) h.b1 q) (by rw [key_add]; omega)
      rw [key_add] at this; omega
    · have := chn_next h.w hi' (add_in h (by omega) h.b2 q) (by rw [key_add]; omega)
      rw [key_add] at this; omega
    · have := chn_next h.w hi' (add_in h (by omega) h.b3 q) (by rw [key_add, key_add]; omega)
      rw [key_add, key_add] at this; omega
  obtain ⟨_, a2, a3⟩ := (inC_mt h _).1 hx
  obtain ⟨_, c2, c3⟩ := (inC_mt h _).1 hy
  have e := add_sub2 (chn lo hi (i + 1)) (chn lo hi i)
  have e1 := key_add (chn lo hi i) (sub2 (chn lo hi (i + 1)) (chn lo hi i))
  have e2 := mt_add lo (chn lo hi i) (sub2 (chn lo hi (i + 1)) (chn lo hi i))
  rw [e] at e1 e2
  exact h.q _ (by omega) (by omega) (by omega) (by omega)
/-- Not all steps are the same. -/
theorem step_not {lo hi g1 g2 : GP} {Dd : Int} (h : Cls lo hi g1 g2 Dd) (g : GP) (hall : ∀ i, i < 59 → sub2 (chn lo hi (i + 1)) (chn lo hi i) = g) : False := by
  have hn : ∀ m, m ≤ 59 → mtl lo (chn lo hi m) = mtl lo (chn lo hi 0) + m * mk1 g := by
    intro m
    induction m with
    | zero => intro _; simp
    | succ m ih =>
      intro hm
      have e := add_sub2 (chn lo hi (m + 1)) (chn lo hi m)
      rw [hall m (by omega)] at e
      rw [← e, mt_add, ih (by omega)]
      push_cast
      rw [Int.add_mul]; omega
  obtain ⟨_, a2, a3⟩ := (inC_mt h _).1 (chn_low h.w (show 0 < 60 by omega)).1
  obtain ⟨_, c2, c3⟩ := (inC_mt h _).1 (chn_low h.w (show 59 < 60 by omega)).1
  have h59 := hn 59 (by omega)
  have hg := step_three h (i := 0) (by omega)
  rw [hall 0 (by omega)] at hg
  have n1 := h.n1
  have n2 := h.n2
  have n3 := h.n3
  have e3 : mk1 (add2 g1 g2) = mk1 g1 + mk1 g2 := by unfold mk1 add2; rw [vl_eq, vl_eq, vl_eq]; simp only; omega
  rcases hg with rfl | rfl | rfl
  · omega
  · omega
  · rw [e3] at h59; omega
theorem cls0 (a b : Int) (ha : -3 ≤ a ∧ a ≤ 3) (hb : -2 ≤ b ∧ b ≤ 2) : Cls (a, b) (a + 0, b + 1) (-1, 1) (1, 0) (vl 0 1) := by
  refine ⟨⟨⟨by show -100 ≤ a; omega, by show a ≤ 100; omega⟩, ⟨by show -100 ≤ b; omega, by show b ≤ 100; omega⟩, ⟨by show -100 ≤ a + 0; omega, by show a + 0 ≤ 100; omega⟩, ⟨by show -100 ≤ b + 1; omega, by show b + 1 ≤ 100; omega⟩, ?_, ?_⟩, ?_, by decide, by decide, by decide, by decide, by decide, by decide, ?_, by decide, by decide, by decide⟩
  · show 0 ≤ vl (a + 0 - a - 1) (b + 1 - b); rw [vl_eq]; omega
  · show vl (a + 0 - a - 4) (b + 1 - b) < 0; rw [vl_eq]; omega
  · show vl (a + 0 - a) (b + 1 - b) = _; rw [vl_eq, vl_eq]; omega
  · intro p h1 h2 h3 h4
    obtain ⟨c, e⟩ := p
    unfold key at h1 h2
    unfold mk1 at h3 h4
    rw [vl_eq] at h1 h2 h3 h4
    simp only [vl_eq] at h1 h2 h3 h4
    have he : e = -2 ∨ e = -1 ∨ e = 0 ∨ e = 1 ∨ e = 2 ∨ e = 3 := by omega
    have : (c = -1 ∧ e = 1) ∨ (c = 1 ∧ e = 0) ∨ (c = 0 ∧ e = 1) := by rcases he with rfl | rfl | rfl | rfl | rfl | rfl <;> omega
    rcases this with ⟨rfl, rfl⟩ | ⟨rfl, rfl⟩ | ⟨rfl, rfl⟩
    · exact .inl rfl
    · exact .inr (.inl rfl)
    · exact .inr (.inr rfl)
theorem cls1 (a b : Int) (ha : -3 ≤ a ∧ a ≤ 3) (hb : -2 ≤ b ∧ b ≤ 2) : Cls (a, b) (a + 1, b + 0) (1, 0) (0, 1) (vl 1 0) := by
  refine ⟨⟨⟨by show -100 ≤ a; omega, by show a ≤ 100; omega⟩, ⟨by show -100 ≤ b; omega, by show b ≤ 100; omega⟩, ⟨by show -100 ≤ a + 1; omega, by show a + 1 ≤ 100; omega⟩, ⟨by show -100 ≤ b + 0; omega, by show b + 0 ≤ 100; omega⟩, ?_, ?_⟩, ?_, by decide, by decide, by decide, by decide, by decide, by decide, ?_, by decide, by decide, by decide⟩
  · show 0 ≤ vl (a + 1 - a - 1) (b + 0 - b); rw [vl_eq]; omega
  · show vl (a + 1 - a - 4) (b + 0 - b) < 0; rw [vl_eq]; omega
  · show vl (a + 1 - a) (b + 0 - b) = _; rw [vl_eq, vl_eq]; omega
  · intro p h1 h2 h3 h4
    obtain ⟨c, e⟩ := p
    unfold key at h1 h2
    unfold mk1 at h3 h4
    rw [vl_eq] at h1 h2 h3 h4
    simp only [vl_eq] at h1 h2 h3 h4
    have he : e = -2 ∨ e = -1 ∨ e = 0 ∨ e = 1 ∨ e = 2 ∨ e = 3 := by omega
    have : (c = 1 ∧ e = 0) ∨ (c = 0 ∧ e = 1) ∨ (c = 1 ∧ e = 1) := by rcases he with rfl | rfl | rfl | rfl | rfl | rfl <;> omega
    rcases this with ⟨rfl, rfl⟩ | ⟨rfl, rfl⟩ | ⟨rfl, rfl⟩
    · exact .inl rfl
    · exact .inr (.inl rfl)
    · exact .inr (.inr rfl)
theorem cls2 (a b : Int) (ha : -3 ≤ a ∧ a ≤ 3) (hb : -2 ≤ b ∧ b ≤ 2) : Cls (a, b) (a + 2, b + 0) (-1, 1) (1, 0) (vl 2 0) := by
  refine ⟨⟨⟨by show -100 ≤ a; omega, by show a ≤ 100; omega⟩, ⟨by show -100 ≤ b; omega, by show b ≤ 100; omega⟩, ⟨by show -100 ≤ a + 2; omega, by show a + 2 ≤ 100; omega⟩, ⟨by show -100 ≤ b + 0; omega, by show b + 0 ≤ 100; omega⟩, ?_, ?_⟩, ?_, by decide, by decide, by decide, by decide, by decide, by decide, ?_, by decide, by decide, by decide⟩
  · show 0 ≤ vl (a + 2 - a - 1) (b + 0 - b); rw [vl_eq]; omega
  · show vl (a + 2 - a - 4) (b + 0 - b) < 0; rw [vl_eq]; omega
  · show vl (a + 2 - a) (b + 0 - b) = _; rw [vl_eq, vl_eq]; omega
  · intro p h1 h2 h3 h4
    obtain ⟨c, e⟩ := p
    unfold key at h1 h2
    unfold mk1 at h3 h4
    rw [vl_eq] at h1 h2 h3 h4
    simp only [vl_eq] at h1 h2 h3 h4
    have he : e = -2 ∨ e = -1 ∨ e = 0 ∨ e = 1 ∨ e = 2 ∨ e = 3 := by omega
    have : (c = -1 ∧ e = 1) ∨ (c = 1 ∧ e = 0) ∨ (c = 0 ∧ e = 1) := by rcases he with rfl | rfl | rfl | rfl | rfl | rfl <;> omega
    rcases this with ⟨rfl, rfl⟩ | ⟨rfl, rfl⟩ | ⟨rfl, rfl⟩
    · exact .inl rfl
    · exact .inr (.inl rfl)
    · exact .inr (.inr rfl)
theorem cls3 (a b : Int) (ha : -3 ≤ a ∧ a ≤ 3) (hb : -2 ≤ b ∧ b ≤ 2) : Cls (a, b) (a + 1, b + 1) (2, -1) (-1, 1) (vl 1 1) := by
  refine ⟨⟨⟨by show -100 ≤ a; omega, by show a ≤ 100; omega⟩, ⟨by show -100 ≤ b; omega, by show b ≤ 100; omega⟩, ⟨by show -100 ≤ a + 1; omega, by show a + 1 ≤ 100; omega⟩, ⟨by show -100 ≤ b + 1; omega, by show b + 1 ≤ 100; omega⟩, ?_, ?_⟩, ?_, by decide, by decide, by decide, by decide, by decide, by decide, ?_, by decide, by decide, by decide⟩
  · show 0 ≤ vl (a + 1 - a - 1) (b + 1 - b); rw [vl_eq]; omega
  · show vl (a + 1 - a - 4) (b + 1 - b) < 0; rw [vl_eq]; omega
  · show vl (a + 1 - a) (b + 1 - b) = _; rw [vl_eq, vl_eq]; omega
  · intro p h1 h2 h3 h4
    obtain ⟨c, e⟩ := p
    unfold key at h1 h2
    unfold mk1 at h3 h4
    rw [vl_eq] at h1 h2 h3 h4
    simp only [vl_eq] at h1 h2 h3 h4
    have he : e = -2 ∨ e = -1 ∨ e = 0 ∨ e = 1 ∨ e = 2 ∨ e = 3 := by omega
    have : (c = 2 ∧ e = -1) ∨ (c = -1 ∧ e = 1) ∨ (c = 1 ∧ e = 0) := by rcases he with rfl | rfl | rfl | rfl | rfl | rfl <;> omega
    rcases this with ⟨rfl, rfl⟩ | ⟨rfl, rfl⟩ | ⟨rfl, rfl⟩
    · exact .inl rfl
    · exact .inr (.inl rfl)
    · exact .inr (.inr rfl)
theorem cls4 (a b : Int) (ha : -3 ≤ a ∧ a ≤ 3) (hb : -2 ≤ b ∧ b ≤ 2) : Cls (a, b) (a + 3, b + 0) (2, -1) (-1, 1) (vl 3 0) := by
  refine ⟨⟨⟨by show -100 ≤ a; omega, by show a ≤ 100; omega⟩, ⟨by show -100 ≤ b; omega, by show b ≤ 100; omega⟩, ⟨by show -100 ≤ a + 3; omega, by show a + 3 ≤ 100; omega⟩, ⟨by show -100 ≤ b + 0; omega, by show b + 0 ≤ 100; omega⟩, ?_, ?_⟩, ?_, by decide, by decide, by decide, by decide, by decide, by decide, ?_, by decide, by decide, by decide⟩
  · show 0 ≤ vl (a + 3 - a - 1) (b + 0 - b); rw [vl_eq]; omega
  · show vl (a + 3 - a - 4) (b + 0 - b) < 0; rw [vl_eq]; omega
  · show vl (a + 3 - a) (b + 0 - b) = _; rw [vl_eq, vl_eq]; omega
  · intro p h1 h2 h3 h4
    obtain ⟨c, e⟩ := p
    unfold key at h1 h2
    unfold mk1 at h3 h4
    rw [vl_eq] at h1 h2 h3 h4
    simp only [vl_eq] at h1 h2 h3 h4
    have he : e = -2 ∨ e = -1 ∨ e = 0 ∨ e = 1 ∨ e = 2 ∨ e = 3 := by omega
    have : (c = 2 ∧ e = -1) ∨ (c = -1 ∧ e = 1) ∨ (c = 1 ∧ e = 0) := by rcases he with rfl | rfl | rfl | rfl | rfl | rfl <;> omega
    rcases this with ⟨rfl, rfl⟩ | ⟨rfl, rfl⟩ | ⟨rfl, rfl⟩
    · exact .inl rfl
    · exact .inr (.inl rfl)
    · exact .inr (.inr rfl)
theorem cls5 (a b : Int) (ha : -3 ≤ a ∧ a ≤ 3) (hb : -2 ≤ b ∧ b ≤ 2) : Cls (a, b) (a + -1, b + 2) (-1, 1) (1, 0) (vl (-1) 2) := by
  refine ⟨⟨⟨by show -100 ≤ a; omega, by show a ≤ 100; omega⟩, ⟨by show -100 ≤ b; omega, by show b ≤ 100; omega⟩, ⟨by show -100 ≤ a + -1; omega, by show a + -1 ≤ 100; omega⟩, ⟨by show -100 ≤ b + 2; omega, by show b + 2 ≤ 100; omega⟩, ?_, ?_⟩, ?_, by decide, by decide, by decide, by decide, by decide, by decide, ?_, by decide, by decide, by decide⟩
  · show 0 ≤ vl (a + -1 - a - 1) (b + 2 - b); rw [vl_eq]; omega
  · show vl (a + -1 - a - 4) (b + 2 - b) < 0; rw [vl_eq]; omega
  · show vl (a + -1 - a) (b + 2 - b) = _; rw [vl_eq, vl_eq]; omega
  · intro p h1 h2 h3 h4
    obtain ⟨c, e⟩ := p
    unfold key at h1 h2
    unfold mk1 at h3 h4
    rw [vl_eq] at h1 h2 h3 h4
    simp only [vl_eq] at h1 h2 h3 h4
    have he : e = -2 ∨ e = -1 ∨ e = 0 ∨ e = 1 ∨ e = 2 ∨ e = 3 := by omega
    have : (c = -1 ∧ e = 1) ∨ (c = 1 ∧ e = 0) ∨ (c = 0 ∧ e = 1) := by rcases he with rfl | rfl | rfl | rfl | rfl | rfl <;> omega
    rcases this with ⟨rfl, rfl⟩ | ⟨rfl, rfl⟩ | ⟨rfl, rfl⟩
    · exact .inl rfl
    · exact .inr (.inl rfl)
    · exact .inr (.inr rfl)
theorem cls6 (a b : Int) (ha : -3 ≤ a ∧ a ≤ 3) (hb : -2 ≤ b ∧ b ≤ 2) : Cls (a, b) (a + 2, b + 1) (2, -1) (-1, 1) (vl 2 1) := by
  refine ⟨⟨⟨by show -100 ≤ a; omega, by show a ≤ 100; omega⟩, ⟨by show -100 ≤ b; omega, by show b ≤ 100; omega⟩, ⟨by show -100 ≤ a + 2; omega, by show a + 2 ≤ 100; omega⟩, ⟨by show -100 ≤ b + 1; omega, by show b + 1 ≤ 100; omega⟩, ?_, ?_⟩, ?_, by decide, by decide, by decide, by decide, by decide, by decide, ?_, by decide, by decide, by decide⟩
  · show 0 ≤ vl (a + 2 - a - 1) (b + 1 - b); rw [vl_eq]; omega
  · show vl (a + 2 - a - 4) (b + 1 - b) < 0; rw [vl_eq]; omega
  · show vl (a + 2 - a) (b + 1 - b) = _; rw [vl_eq, vl_eq]; omega
  · intro p h1 h2 h3 h4
    obtain ⟨c, e⟩ := p
    unfold key at h1 h2
    unfold mk1 at h3 h4
    rw [vl_eq] at h1 h2 h3 h4
    simp only [vl_eq] at h1 h2 h3 h4
    have he : e = -2 ∨ e = -1 ∨ e = 0 ∨ e = 1 ∨ e = 2 ∨ e = 3 := by omega
    have : (c = 2 ∧ e = -1) ∨ (c = -1 ∧ e = 1) ∨ (c = 1 ∧ e = 0) := by rcases he with rfl | rfl | rfl | rfl | rfl | rfl <;> omega
    rcases this with ⟨rfl, rfl⟩ | ⟨rfl, rfl⟩ | ⟨rfl, rfl⟩
    · exact .inl rfl
    · exact .inr (.inl rfl)
    · exact .inr (.inr rfl)
theorem cls7 (a b : Int) (ha : -3 ≤ a ∧ a ≤ 3) (hb : -2 ≤ b ∧ b ≤ 2) : Cls (a, b) (a + 4, b + -1) (-1, 1) (1, 0) (vl 4 (-1)) := by
  refine ⟨⟨⟨by show -100 ≤ a; omega, by show a ≤ 100; omega⟩, ⟨by show -100 ≤ b; omega, by show b ≤ 100; omega⟩, ⟨by show -100 ≤ a + 4; omega, by show a + 4 ≤ 100; omega⟩, ⟨by show -100 ≤ b + -1; omega, by show b + -1 ≤ 100; omega⟩, ?_, ?_⟩, ?_, by decide, by decide, by decide, by decide, by decide, by decide, ?_, by decide, by decide, by decide⟩
  · show 0 ≤ vl (a + 4 - a - 1) (b + -1 - b); rw [vl_eq]; omega
  · show vl (a + 4 - a - 4) (b + -1 - b) < 0; rw [vl_eq]; omega
  · show vl (a + 4 - a) (b + -1 - b) = _; rw [vl_eq, vl_eq]; omega
  · intro p h1 h2 h3 h4
    obtain ⟨c, e⟩ := p
    unfold key at h1 h2
    unfold mk1 at h3 h4
    rw [vl_eq] at h1 h2 h3 h4
    simp only [vl_eq] at h1 h2 h3 h4
    have he : e = -2 ∨ e = -1 ∨ e = 0 ∨ e = 1 ∨ e = 2 ∨ e = 3 := by omega
    have : (c = -1 ∧ e = 1) ∨ (c = 1 ∧ e = 0) ∨ (c = 0 ∧ e = 1) := by rcases he with rfl | rfl | rfl | rfl | rfl | rfl <;> omega
    rcases this with ⟨rfl, rfl⟩ | ⟨rfl, rfl⟩ | ⟨rfl, rfl⟩
    · exact .inl rfl
    · exact .inr (.inl rfl)
    · exact .inr (.inr rfl)
/-- The widths of the windows that are drawn. -/
def wds8 : List GP := [(0, 1), (1, 0), (2, 0), (1, 1), (3, 0), (-1, 2), (2, 1), (4, -1)]
theorem cls_of {a b : Int} (ha : -3 ≤ a ∧ a ≤ 3) (hb : -2 ≤ b ∧ b ≤ 2) {d : GP} (hd : d ∈ wds8) : ∃ g1 g2 Dd, Cls (a, b) (a + d.1, b + d.2) g1 g2 Dd := by
  have : d = (0, 1) ∨ d = (1, 0) ∨ d = (2, 0) ∨ d = (1, 1) ∨ d = (3, 0) ∨ d = (-1, 2) ∨ d = (2, 1) ∨ d = (4, -1) := by simpa [wds8] using hd
  rcases this with rfl | rfl | rfl | rfl | rfl | rfl | rfl | rfl
  · exact ⟨_, _, _, cls0 a b ha hb⟩
  · exact ⟨_, _, _, cls1 a b ha hb⟩
  · exact ⟨_, _, _, cls2 a b ha hb⟩
  · exact ⟨_, _, _, cls3 a b ha hb⟩
  · exact ⟨_, _, _, cls4 a b ha hb⟩
  · exact ⟨_, _, _, cls5 a b ha hb⟩
  · exact ⟨_, _, _, cls6 a b ha hb⟩
  · exact ⟨_, _, _, cls7 a b ha hb⟩
end Go.Proofs.YtilbhingfnjppaaDoor
