/- Parents, in plain lists: how many there are, and the least one. -/
import Derived.Test.YtilbhingfnjppabPlA
set_option linter.unusedSimpArgs false
set_option linter.unusedVariables false
namespace Go.Proofs.Ytilbhingfnjppab
open Go.RowKit
/-- In how many ways the rest can be made (at most a million). -/
def Wy (zs : List ByteArray) (s : ByteArray) (p : Nat) : Int := (wys s zs).getD p 0
def sg (g : Nat → Int) : Nat → Int
  | 0 => 0
  | n + 1 => sg g n + g n
theorem sg_nn {g : Nat → Int} (h : ∀ i, 0 ≤ g i) : ∀ n, 0 ≤ sg g n
  | 0 => by simp [sg]
  | n + 1 => by have := sg_nn h n; have := h n; simp only [sg]; omega
theorem sg_ge {g : Nat → Int} (h : ∀ i, 0 ≤ g i) {j : Nat} : ∀ {n}, j < n → g j ≤ sg g n
  | 0, hj => by omega
  | n + 1, hj => by
    simp only [sg]
    by_cases e : j = n
    · subst e; have := sg_nn h j; omega
    · have := sg_ge h (j := j) (n := n) (by omega); have := h n; omega
theorem sg_two {g : Nat → Int} (h : ∀ i, 0 ≤ g i) {i j : Nat} (hij : i < j) : ∀ {n}, j < n → g i + g j ≤ sg g n
  | 0, hj => by omega
  | n + 1, hj => by
    simp only [sg]
    by_cases e : j = n
    · subst e; have := sg_ge h hij; omega
    · have := sg_two h hij (n := n) (by omega); have := h n; omega
theorem sg_pos {g : Nat → Int} (h : ∀ i, 0 ≤ g i) : ∀ {n}, 0 < sg g n → ∃ j, j < n ∧ 0 < g j
  | 0, hp => by simp [sg] at hp
  | n + 1, hp => by
    simp only [sg] at hp
    by_cases e : 0 < g n
    · exact ⟨n, by omega, e⟩
    · obtain ⟨j, h1, h2⟩ := sg_pos h (n := n) (by omega)
      exact ⟨j, by omega, h2⟩
theorem sg_big {g : Nat → Int} (h : ∀ i, 0 ≤ g i) : ∀ {n}, 2 ≤ sg g n → (∃ i, i < n ∧ 2 ≤ g i) ∨ ∃ i j, i < j ∧ j < n ∧ 0 < g i ∧ 0 < g j
  | 0, hp => by simp [sg] at hp
  | n + 1, hp => by
    simp only [sg] at hp
    by_cases e2 : 2 ≤ g n
    · exact .inl ⟨n, by omega, e2⟩
    · by_cases e : 0 < g n
      · obtain ⟨j, h1, h2⟩ := sg_pos h (n := n) (by omega)
        exact .inr ⟨j, n, h1, by omega, h2, e⟩
      · have h0 := h n
        rcases sg_big h (n := n) (by omega) with ⟨i, h1, h2⟩ | ⟨i, j, h1, h2, h3, h4⟩
        · exact .inl ⟨i, by omega, h2⟩
        · exact .inr ⟨i, j, h1, by omega, h3, h4⟩
theorem Wy_low (zs : List ByteArray) (s : ByteArray) (p : Nat) : 0 ≤ Wy zs s p ∧ Wy zs s p ≤ 1000000 := wq_low s zs s.size p
theorem Wy_end (zs : List ByteArray) (s : ByteArray) : Wy zs s s.size = 1 := by
  unfold Wy
  rw [wys_at s zs 0 s.size (by omega) (by omega), wq, getD_set_eq (by simp)]
noncomputable def gw (zs : List ByteArray) (s : ByteArray) (p i : Nat) : Int := if hitP s (im1 zs i) p = true then Wy zs s (p + (im1 zs i).size) else 0
theorem gw_nn (zs : List ByteArray) (s : ByteArray) (p i : Nat) : 0 ≤ gw zs s p i := by
  unfold gw; split
  · exact (Wy_low zs s _).1
  · omega
theorem take_succ_getD {zs : List ByteArray} {k : Nat} (h : k < zs.length) : zs.take (k + 1) = zs.take k ++ [im1 zs k] := by
  rw [List.take_add_one, List.getElem?_eq_getElem h]
  unfold im1
  rw [List.getD_eq_getElem?_getD, List.getElem?_eq_getElem h]; rfl
theorem Wy_rec {zs : List ByteArray} (hS : sB zs = true) {s : ByteArray} {p : Nat} (hp : p < s.size) : Wy zs s p = min 1000000 (sg (gw zs s p) zs.length) := by
  have e1 : Wy zs s p = (zs.foldl (stp s p) (wq s zs (s.size - (p + 1)))).getD p 0 := by
    unfold Wy
    rw [wys_at s zs (s.size - p) p (by omega) (by omega), wq_next s zs p hp]
  obtain ⟨X, hX⟩ : ∃ X, wq s zs (s.size - (p + 1)) = X := ⟨_, rfl⟩
  have hlow : low X := by rw [← hX]; exact wq_low s zs _
  have hX0 : X.getD p 0 = 0 := by rw [← hX]; exact wq_zero s zs _ p (by omega)
  have hXW : ∀ j, p + 1 ≤ j → X.getD j 0 = Wy zs s j := fun j hj => by
    rw [← hX]; unfold Wy; rw [wys_at s zs (s.size - (p + 1)) j (by omega) (by omega)]
  have hXl : X.length = s.size + 1 := by rw [← hX]; exact wq_len s zs _
  rw [hX] at e1
  have key : ∀ k, k ≤ zs.length → ((zs.take k).foldl (stp s p) X).getD p 0 = min 1000000 (sg (gw zs s p) k) := by
    intro k
    induction k with
    | zero => intro _; rw [List.take_zero, List.foldl_nil, hX0]; rfl
    | succ k ih =>
      intro hk
      have ih := ih (by omega)
      rw [take_succ_getD (by omega), List.foldl_append, List.foldl_cons, List.foldl_nil]
      obtain ⟨Y, hY⟩ : ∃ Y, (zs.take k).foldl (stp s p) X = Y := ⟨_, rfl⟩
      have hYl : Y.length = s.size + 1 := by rw [← hY, fold_len, hXl]
      have hYlow : low Y := by rw [← hY]; exact fold_low _ _ hlow
      have hge := im1_ge hS (show k < zs.length by omega)
      have hYj : ∀ j, p + 1 ≤ j → Y.getD j 0 = Wy zs s j := fun j hj => by rw [← hY, fold_other (by omega), hXW j hj]
      rw [hY] at ih ⊢
      simp only [sg]
      have hs0 := sg_nn (gw_nn zs s p) k
      unfold stp
      by_cases hh : hitP s (im1 zs k) p = true
      · rw [if_pos hh, getD_set_eq (by omega), ih, hYj _ (by omega)]
        have hg : gw zs s p k = Wy zs s (p + (im1 zs k).size) := by unfold gw; rw [if_pos hh]
        have hl := Wy_low zs s (p + (im1 zs k).size)
        rw [hg, IntWalk.wrap64_in _ (by omega)]
        omega
      · rw [if_neg hh, ih]
        have hg : gw zs s p k = 0 := by unfold gw; rw [if_neg hh]
        rw [hg]; simp
  have := key zs.length (Nat.le_refl _)
  rw [List.take_length] at this
  rw [e1, this]
theorem gw_pos {zs : List ByteArray} {s : ByteArray} {p i : Nat} (h : 0 < gw zs s p i) : hitP s (im1 zs i) p = true ∧ gw zs s p i = Wy zs s (p + (im1 zs i).size) := by
  unfold gw at h ⊢
  by_cases hh : hitP s (im1 zs i) p = true
  · exact ⟨hh, by rw [if_pos hh]⟩
  · rw [if_neg hh] at h; omega
theorem gw_hit {zs : List ByteArray} {s : ByteArray} {p i : Nat} (h : hitP s (im1 zs i) p = true) : gw zs s p i = Wy zs s (p + (im1 zs i).size) := by unfold gw; rw [if_pos h]
/-- What can be made has a way. -/
theorem Wy_some {zs : List ByteArray} (hS : sB zs = true) {s : ByteArray} : ∀ {ks : List Nat} {p : Nat}, p ≤ s.size → prt zs s p ks s.size → 0 < Wy zs s p
  | [], p, hp, h => by have h : p = s.size := h
                       rw [h, Wy_end]; omega
  | k :: ks, p, hp, h => by
    have hk := im1_ge hS h.1
    have h1 := (hit_iff.1 h.2.1).1
    have h2 := Wy_some hS h1 h.2.2
    rw [Wy_rec hS (by omega)]
    have h3 := sg_ge (gw_nn zs s p) h.1
    rw [gw_hit h.2.1] at h3
    omega
theorem Wy_way {zs : List ByteArray} (hS : sB zs = true) {s : ByteArray} : ∀ (c p : Nat), s.size - p ≤ c → p ≤ s.size → 0 < Wy zs s p → ∃ ks, prt zs s p ks s.size
  | 0, p, hc, hp, _ => ⟨[], by show p = s.size; omega⟩
  | c + 1, p, hc, hp, h => by
    by_cases e : p = s.size
    · exact ⟨[], e⟩
    · rw [Wy_rec hS (by omega)] at h
      obtain ⟨i, hi, hg⟩ := sg_pos (gw_nn zs s p) (n := zs.length) (by omega)
      obtain ⟨h1, h2⟩ := gw_pos hg
      have h3 := (hit_iff.1 h1).1
      have h4 := im1_ge hS hi
      obtain ⟨ks, hk⟩ := Wy_way hS c (p + (im1 zs i).size) (by omega) h3 (by omega)
      exact ⟨i :: ks, hi, h1, hk⟩
/-- One way alone: all parents are one. -/
theorem Wy_one {zs : List ByteArray} (hS : sB zs = true) {s : ByteArray} : ∀ {ks js : List Nat} {p : Nat}, p ≤ s.size → Wy zs s p = 1 → prt zs s p ks s.size → prt zs s p js s.size → ks = js
  | [], js, p, hp, _, h1, h2 => by
    have h1 : p = s.size := h1
    subst h1
    exact (prt_end hS h2).symm
  | k :: ks, [], p, hp, _, h1, h2 => by
    have h2 : p = s.size := h2
    subst h2
    exact prt_end hS h1
  | k :: ks, j :: js, p, hp, hw, h1, h2 => by
    have k1 := im1_ge hS h1.1
    have a1 := (hit_iff.1 h1.2.1).1
    have a2 := (hit_iff.1 h2.2.1).1
    have b1 := Wy_some hS a1 h1.2.2
    have b2 := Wy_some hS a2 h2.2.2
    have g1 := gw_hit h1.2.1
    have g2 := gw_hit h2.2.1
    rw [Wy_rec hS (by omega)] at hw
    have e : k = j := by
      rcases Nat.lt_trichotomy k j with q | q | q
      · have := sg_two (gw_nn zs s p) q h2.1; omega
      · exact q
      · have := sg_two (gw_nn zs s p) q h1.1; omega
    subst e
    have := sg_ge (gw_nn zs s p) h1.1
    rw [Wy_one hS a1 (by omega) h1.2.2 h2.2.2]
/-- Two ways or more: two parents. -/
theorem Wy_two {zs : List ByteArray} (hS : sB zs = true) {s : ByteArray} : ∀ (c p : Nat), s.size - p ≤ c → p ≤ s.size → 2 ≤ Wy zs s p → ∃ ks js, ks ≠ js ∧ prt zs s p ks s.size ∧ prt zs s p js s.size
  | 0, p, hc, hp, h => by
    have e : p = s.size := by omega
    rw [e, Wy_end] at h; omega
  | c + 1, p, hc, hp, h => by
    by_cases e : p = s.size
    · rw [e, Wy_end] at h; omega
    · rw [Wy_rec hS (by omega)] at h
      rcases sg_big (gw_nn zs s p) (n := zs.length) (by omega) with ⟨i, hi, hg⟩ | ⟨i, j, hij, hj, gi, gj⟩
      · obtain ⟨h1, h2⟩ := gw_pos (show 0 < gw zs s p i by omega)
        have h3 := (hit_iff.1 h1).1
        have h4 := im1_ge hS hi
        obtain ⟨ks, js, hne, hk, hj⟩ := Wy_two hS c (p + (im1 zs i).size) (by omega) h3 (by omega)
        exact ⟨i :: ks, i :: js, fun q => hne (List.cons.inj q).2, ⟨hi, h1, hk⟩, hi, h1, hj⟩
      · obtain ⟨h1, h2⟩ := gw_pos gi
        obtain ⟨h3, h4⟩ := gw_pos gj
        obtain ⟨ks, hk⟩ := Wy_way hS s.size (p + (im1 zs i).size) (by omega) (hit_iff.1 h1).1 (by omega)
        obtain ⟨js, hj'⟩ := Wy_way hS s.size (p + (im1 zs j).size) (by omega) (hit_iff.1 h3).1 (by omega)
        exact ⟨i :: ks, j :: js, fun q => by have := (List.cons.inj q).1; omega, ⟨by omega, h1, hk⟩, hj, h3, hj'⟩
/-! ### The least parent -/
/-- In order of the dictionary, not later; earlier at some place. -/
def lx : List Nat → List Nat → Prop
  | [], _ => True
  | _ :: _, [] => False
  | a :: x, b :: y => a < b ∨ (a = b ∧ lx x y)
def lxs : List Nat → List Nat → Prop
  | a :: x, b :: y => a < b ∨ (a = b ∧ lxs x y)
  | _, _ => False
theorem lxs_app : ∀ {x y : List Nat} (t : List Nat), lxs x y → lxs (x ++ t) y
  | [], _, _, h => by cases h
  | a :: x, [], _, h => by cases h
  | a :: x, b :: y, t, h => by
    rcases h with h | ⟨h1, h2⟩
    · exact .inl h
    · exact .inr ⟨h1, lxs_app t h2⟩
theorem lxs_lx : ∀ {x y : List Nat}, lxs x y → lx x y
  | [], _, _ => trivial
  | a :: x, [], h => by cases h
  | a :: x, b :: y, h => by
    rcases h with h | ⟨h1, h2⟩
    · exact .inl h
    · exact .inr ⟨h1, lxs_lx h2⟩
theorem lx_refl : ∀ x : List Nat, lx x x
  | [] => trivial
  | a :: x => .inr ⟨rfl, lx_refl x⟩
theorem lxs_snoc {a b : Nat} {r : List Nat} (h : a < b) : ∀ x : List Nat, lxs (x ++ [a]) (x ++ b :: r)
  | [] => .inl h
  | c :: x => .inr ⟨rfl, lxs_snoc h x⟩
theorem u8_lt {a b : Nat} (ha : a < 4) (hb : b < 4) : ((97 + UInt8.ofNat a < 97 + UInt8.ofNat b) ↔ a < b) ∧ ((97 + UInt8.ofNat a = 97 + UInt8.ofNat b) ↔ a = b) := by
  rw [UInt8.lt_iff_toNat_lt, u8l a ha, u8l b hb]
  refine ⟨by omega, fun h => ?_, fun h => by rw [h]⟩
  have := congrArg UInt8.toNat h
  rw [u8l a ha, u8l b hb] at this; omega
theorem less_lx : ∀ {x y : List Nat}, (∀ k ∈ x, k < 4) → (∀ k ∈ y, k < 4) → lx x y → Op.bytesLess (y.map (fun k => 97 + UInt8.ofNat k)) (x.map (fun k => 97 + UInt8.ofNat k)) = false
  | [], y, _, _, _ => by cases y <;> rfl
  | a :: x, [], _, _, h => by cases h
  | a :: x, b :: y, hx, hy, h => by
    have ha := hx a (by simp)
    have hb := hy b (by simp)
    obtain ⟨q1, q2⟩ := u8_lt hb ha
    rw [List.map_cons, List.map_cons, Op.bytesLess]
    rcases h with h | ⟨rfl, h2⟩
    · have e1 : ¬ (97 + UInt8.ofNat b < 97 + UInt8.ofNat a) := fun q => by have := q1.1 q; omega
      have e2 : ¬ (97 + UInt8.ofNat b = 97 + UInt8.ofNat a) := fun q => by have := q2.1 q; omega
      simp [e1, e2]
    · have ih := less_lx (x := x) (y := y) (fun k hk => hx k (by simp [hk])) (fun k hk => hy k (by simp [hk])) h2
      rw [ih]
      simp
theorem its_inv {zs : List ByteArray} (hS : sB zs = true) {s : ByteArray} (h0 : 0 < Wy zs s 0) : ∀ m, ∃ ks p, its s zs (wys s zs) m = (ks.map (fun k => 97 + UInt8.ofNat k), p) ∧ prt zs s 0 ks p ∧ (m ≤ p ∨ p = s.size) ∧ ∀ js, whole zs s js → lxs ks js ∨ ∃ r, js = ks ++ r ∧ prt zs s p r s.size
  | 0 => ⟨[], 0, rfl, rfl, by omega, fun js h => .inr ⟨js, rfl, h⟩⟩
  | m + 1 => by
    obtain ⟨ks, p, h1, h2, h3, h4⟩ := its_inv hS h0 m
    obtain ⟨o1, o2, _⟩ := its_ok hS h0 m
    rw [h1] at o1 o2
    simp only at o1 o2
    by_cases hp : p < s.size
    · obtain ⟨v, hv, hh, hpos⟩ := wys_pos (ge1_of hS) hp o2
      have hex : ∃ v ∈ zs, good s (wys s zs) p v = true := ⟨v, hv, by simp only [good, hh, Bool.true_and, decide_eq_true_eq]; exact hpos⟩
      have hlt := ch_lt hex
      have hg : good s (wys s zs) p (im1 zs (ch s zs (wys s zs) p)) = true := by
        have := List.findIdx_getElem (w := hlt)
        unfold im1
        rw [List.getD_eq_getElem?_getD, List.getElem?_eq_getElem hlt]
        exact this
      have hmin : ∀ j, j < ch s zs (wys s zs) p → good s (wys s zs) p (im1 zs j) = false := fun j hj => by
        have h5 : j < zs.length := by omega
        have := List.not_of_lt_findIdx (p := good s (wys s zs) p) hj
        unfold im1
        rw [List.getD_eq_getElem?_getD, List.getElem?_eq_getElem h5]
        simpa using this
      have hn := its_next h1 hp rfl
      obtain ⟨k, hk⟩ : ∃ k, ch s zs (wys s zs) p = k := ⟨_, rfl⟩
      rw [hk] at hlt hg hmin hn
      simp only [good, Bool.and_eq_true, decide_eq_true_eq] at hg
      have hge := im1_ge hS hlt
      refine ⟨ks ++ [k], p + (im1 zs k).size, by rw [hn]; simp [im1], prt_app h2 ⟨hlt, hg.1, rfl⟩, by rcases h3 with h3 | h3 <;> omega, fun js hj => ?_⟩
      rcases h4 js hj with h5 | ⟨r, rfl, h6⟩
      · exact .inl (lxs_app _ h5)
      · cases r with
        | nil => have h6 : p = s.size := h6
                 omega
        | cons b r =>
          rcases Nat.lt_trichotomy k b with q | q | q
          · exact .inl (lxs_snoc q ks)
          · subst q
            exact .inr ⟨r, by simp, h6.2.2⟩
          · exfalso
            have hb := hmin b q
            have hW := Wy_some hS (hit_iff.1 h6.2.1).1 h6.2.2
            rw [good, h6.2.1, Bool.true_and, decide_eq_false_iff_not] at hb
            exact hb hW
    · have e : p = s.size := by omega
      refine ⟨ks, p, ?_, h2, .inr e, h4⟩
      rw [its, h1, nxt1, if_neg (by simp only; omega)]
/-- The parent that is told is the least one. -/
theorem par_is {zs : List ByteArray} (hS : sB zs = true) {s : ByteArray} (h0 : 0 < Wy zs s 0) : ∃ ks, (⟨(par s zs).toArray⟩ : ByteArray) = wd ks ∧ whole zs s ks ∧ ∀ js, whole zs s js → lx ks js := by
  obtain ⟨ks, p, h1, h2, h3, h4⟩ := its_inv hS h0 s.size
  obtain ⟨o1, _, _⟩ := its_ok hS h0 s.size
  rw [h1] at o1
  simp only at o1
  have e : p = s.size := by omega
  subst e
  refine ⟨ks, ?_, h2, fun js hj => ?_⟩
  · unfold par wd; rw [h1]
  · rcases h4 js hj with h5 | ⟨r, rfl, h6⟩
    · exact lxs_lx h5
    · rw [prt_end hS h6, List.append_nil]; exact lx_refl ks
end Go.Proofs.Ytilbhingfnjppab
