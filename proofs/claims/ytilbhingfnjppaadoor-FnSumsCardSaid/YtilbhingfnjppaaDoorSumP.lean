/- Plain laws of the numerals: what a numeral's digits sum to, the shift, the ways, the golden word. No program in sight. -/
import Derived.Test.YtilbhingfnjppaaDoorSumsF
import Derived.Test.YtilbhingfnjppaaDoorSumsT
set_option linter.unusedSimpArgs false
set_option linter.unusedVariables false
namespace Go.Proofs.YtilbhingfnjppaaDoor
open Go.RowKit
/-- The digits of the weights below the k-th, all of them. -/
def D : Nat → Int → List UInt8
  | 0, _ => []
  | k + 1, n => if wt k ≤ n then 49 :: D k (n - wt k) else 48 :: D k n
theorem D_yes {k : Nat} {n : Int} (h : wt k ≤ n) : D (k + 1) n = 49 :: D k (n - wt k) := by simp [D, h]
theorem D_no {k : Nat} {n : Int} (h : ¬ wt k ≤ n) : D (k + 1) n = 48 :: D k n := by simp [D, h]
theorem D_len : ∀ (k : Nat) (n : Int), (D k n).length = k
  | 0, _ => rfl
  | k + 1, n => by
    by_cases h : wt k ≤ n
    · rw [D_yes h, List.length_cons, D_len k]
    · rw [D_no h, List.length_cons, D_len k]
theorem gr_D : ∀ (k : Nat) (n : Int) (acc : List UInt8), acc ≠ [] → gr k n acc = acc ++ D k n
  | 0, _, _, _ => by simp [gr, D]
  | k + 1, n, acc, ha => by
    by_cases h : wt k ≤ n
    · rw [gr_yes h, gr_D k _ _ (by simp), D_yes h]; simp
    · rw [gr_no h ha, gr_D k _ _ (by simp), D_no h]; simp
/-- What the digits sum to. -/
def V : List UInt8 → Int
  | [] => 0
  | b :: l => (if b = 49 then wt l.length else 0) + V l
theorem V_hi (l : List UInt8) : V (49 :: l) = wt l.length + V l := by simp [V]
theorem V_lo (l : List UInt8) : V (48 :: l) = V l := by simp [V]
theorem V_pos : ∀ l, 0 ≤ V l
  | [] => Int.le_refl _
  | b :: l => by
    have h := V_pos l
    have h2 := (wt_pos l.length).1
    unfold V
    by_cases e : b = 49
    · rw [if_pos e]; omega
    · rw [if_neg e]; omega
theorem wt_two (k : Nat) : wt (k + 1) ≤ wt k + wt k := by
  cases k with
  | zero => decide
  | succ k => have e := wtSS k; have h := wt_lt k; rw [show k + 1 + 1 = k + 2 from rfl, e]; omega
theorem V_D : ∀ (k : Nat) (n : Int), 0 ≤ n → n < wt k → V (D k n) = n
  | 0, n, h0, h => by rw [wt0] at h; have : n = 0 := by omega
                      subst this; rfl
  | k + 1, n, h0, h => by
    have h2 := wt_two k
    by_cases hw : wt k ≤ n
    · rw [D_yes hw, V_hi, D_len, V_D k _ (by omega) (by omega)]; omega
    · rw [D_no hw, V_lo, V_D k n h0 (by omega)]
theorem V_gr : ∀ (k : Nat) (n : Int), 0 ≤ n → n < wt k → V (gr k n []) = n
  | 0, n, h0, h => by rw [wt0] at h; have : n = 0 := by omega
                      subst this; rfl
  | k + 1, n, h0, h => by
    have h2 := wt_two k
    by_cases hw : wt k ≤ n
    · rw [gr_yes hw, gr_D k _ _ (by simp)]
      show V (49 :: D k (n - wt k)) = n
      rw [V_hi, D_len, V_D k _ (by omega) (by omega)]; omega
    · rw [gr_nil hw]; exact V_gr k n h0 (by omega)
theorem bt49L (l : List UInt8) (j : Nat) (h : j < l.length) : bt ⟨l.toArray⟩ j = 49 ↔ l[j] = 49 := by
  rw [bt_list l j h, List.getD_eq_getElem?_getD, List.getElem?_eq_getElem h]
  constructor
  · intro e
    have h : ((l[j].toNat : Nat) : Int) = 49 := by simpa using e
    apply UInt8.toNat_inj.1; show (l[j]).toNat = 49; omega
  · intro e; simp [e]
/-- The sum that the program makes is that sum: nothing wraps. -/
theorem sm_V (l : List UInt8) (hV : V l ≤ 9000000000000000000) : ∀ k, k ≤ l.length → sm ⟨l.toArray⟩ k = V l - V (l.drop k)
  | 0, _ => by simp [sm]
  | k + 1, hk => by
    have ih := sm_V l hV k (by omega)
    have hd : l.drop k = l[k] :: l.drop (k + 1) := by rw [List.drop_eq_getElem_cons]
    have hs : (⟨l.toArray⟩ : ByteArray).size = l.length := by simp [ByteArray.size]
    have p1 := V_pos (l.drop (k + 1))
    have p0 := V_pos (l.drop k)
    have hle : ∀ j, V (l.drop j) ≤ V l := by
      intro j
      induction j with
      | zero => simp
      | succ j ih =>
        refine Int.le_trans ?_ ih
        by_cases hj : j < l.length
        · rw [List.drop_eq_getElem_cons hj]
          have := (wt_pos (l.drop (j + 1)).length).1
          show _ ≤ (if l[j] = 49 then _ else _) + _
          split <;> omega
        · rw [List.drop_of_length_le (by omega), List.drop_of_length_le (by omega)]; exact Int.le_refl _
    have q1 := hle (k + 1)
    have hlen : (l.drop (k + 1)).length = l.length - 1 - k := by rw [List.length_drop]; omega
    by_cases e : l[k] = 49
    · rw [sm_yes ((bt49L l k hk).2 e), ih, hs]
      rw [hd, e, V_hi, hlen] at *
      unfold wrap64; omega
    · rw [sm_no (fun h => e ((bt49L l k hk).1 h)), ih, hd]
      show _ - ((if l[k] = 49 then _ else _) + _) = _
      rw [if_neg e]; omega
theorem smm_V (l : List UInt8) (hV : V l ≤ 9000000000000000000) : smm ⟨l.toArray⟩ = V l := by
  have hs : (⟨l.toArray⟩ : ByteArray).size = l.length := by simp [ByteArray.size]
  unfold smm
  rw [hs, sm_V l hV _ (Nat.le_refl _), List.drop_length]
  simp [V]
theorem smm_num {n : Int} (h0 : 0 ≤ n) (h : n ≤ 1000000000000) : smm (num n) = n := by
  have h60 : n < wt 60 := by rw [wt60]; omega
  have e := V_gr 60 n h0 h60
  unfold num
  rw [smm_V _ (by rw [e]; omega), e]
theorem nok_num {n : Int} (h0 : 0 ≤ n) (h : n ≤ 1000000000000) : Nok (num n) :=
  nok_of_gd (gr_gd 60 n [] gd_nil h0 (by rw [wt60]; omega) (fun h => absurd rfl h)) (gr_le 60 n)
theorem nv_num {n : Int} (h0 : 0 ≤ n) (h : n ≤ 1000000000000) : nv (num n) = n := by
  unfold nv; rw [nokB_true (nok_num h0 h), if_pos rfl, smm_num h0 h]
theorem nxt_num {n : Int} (h0 : 0 ≤ n) (h : n ≤ 100000000) : nxt (num n) = num (n + 1) := by
  unfold nxt
  rw [nokB_true (nok_num h0 (by omega)), if_pos rfl, smm_num h0 (by omega), show wrap64 (n + 1) = n + 1 by unfold wrap64; omega, nx_yes (by rw [wt60]; omega)]
/-! ### The shift -/
theorem gr_low : ∀ (k j : Nat) (n : Int), j ≤ k → n < wt j → gr k n [] = gr j n []
  | 0, j, n, h, _ => by rw [show j = 0 by omega]
  | k + 1, j, n, h, hn => by
    by_cases e : j = k + 1
    · rw [e]
    · rw [gr_nil (by have := wt_mono (show j ≤ k by omega); omega)]
      exact gr_low k j n (by omega) hn
def shV (m : Nat) : Int := V (gr 13 m [] ++ [48])
theorem V_small : ∀ (l : List UInt8), l.length ≤ 60 → V l ≤ 9000000000000000000 := by
  have w61 : wt 61 ≤ 10000000000000 := by decide +kernel
  have : ∀ (l : List UInt8), l.length ≤ 60 → V l ≤ l.length * 10000000000000 := by
    intro l
    induction l with
    | nil => intro _; simp [V]
    | cons b l ih =>
      intro h
      rw [List.length_cons] at h
      have h1 := ih (by omega)
      have h2 := wt_mono (show l.length ≤ 61 by omega)
      have h3 := (wt_pos l.length).1
      rw [List.length_cons]
      unfold V
      split <;> push_cast <;> omega
  intro l h
  have h1 := this l h
  have : (l.length : Int) ≤ 60 := by omega
  omega
theorem sh_V (m : Nat) (h : m ≤ 400) : sh (m : Int) = shV m := by
  have w13 : wt 13 = 610 := by decide +kernel
  have hi : inB (m : Int) 0 1000000000 = true := inB_true.2 (by omega)
  unfold sh shV shiftS
  rw [if_pos hi, gr_low 60 13 m (by omega) (by rw [w13]; omega), smm_V _ (V_small _ (by have := gr_le 13 (m : Int); simp; omega))]
theorem sh_step (m : Nat) (h : m < 400) : 1 ≤ sh ((m : Int) + 1) - sh (m : Int) ∧ sh ((m : Int) + 1) - sh (m : Int) ≤ 2 := by
  have hc : ∀ m : Fin 400, 1 ≤ shV (m + 1) - shV m ∧ shV (m + 1) - shV m ≤ 2 := by decide +kernel
  have := hc ⟨m, h⟩
  rw [show (m : Int) + 1 = ((m + 1 : Nat) : Int) by omega, sh_V m (by omega), sh_V (m + 1) (by omega)]
  exact this
theorem sh_num {m : Nat} (h0 : 0 < m) (h : m ≤ 400) : nv (shiftS m) = sh (m : Int) := by
  have hi : inB (m : Int) 0 1000000000 = true := inB_true.2 (by omega)
  have hk : nokB (shiftS (m : Int)) = true := nokB_true (nok_shift (by omega) (by omega))
  unfold nv sh
  rw [if_pos hk, if_pos hi]
/-! ### The ways -/
theorem inn_at (v : Nat) (hv : 1 ≤ v) : ∀ (x : Nat) (xs : List Int), x < xs.length → ∀ i, (inn v x xs).getD i 0 = if v ≤ i ∧ i ≤ x then wrap64 (xs.getD i 0 + xs.getD (i - v) 0) else xs.getD i 0
  | 0, xs, _, i => by rw [if_neg (by omega)]; rfl
  | x + 1, xs, hx, i => by
    by_cases h : v ≤ x + 1
    · rw [inn_yes h, inn_at v hv x _ (by rw [List.length_set]; omega)]
      have gs : ∀ (j : Nat) (z : Int), (xs.set (x + 1) z).getD j 0 = if j = x + 1 then z else xs.getD j 0 := by
        intro j z
        rw [List.getD_eq_getElem?_getD, List.getElem?_set]
        by_cases e : x + 1 = j
        · subst e; rw [if_pos rfl, if_pos hx, if_pos rfl]; rfl
        · rw [if_neg e, if_neg (fun q => e q.symm), List.getD_eq_getElem?_getD]
      rw [gs, gs]
      by_cases e : i = x + 1
      · subst e
        rw [if_neg (by omega), if_pos rfl, if_pos (by omega)]
      · by_cases e2 : v ≤ i ∧ i ≤ x
        · rw [if_pos e2, if_neg e, if_neg (by omega), if_pos (by omega)]
        · rw [if_neg e2, if_neg e, if_neg (by omega)]
    · rw [inn_no h, if_neg (by omega)]
theorem outer_ge (n : Nat) (hn : n ≤ 1000) : ∀ m, m ≤ 16 → ∀ i, i ≤ n → 0 ≤ (outer n m).getD i 0 ∧ (outer n m).getD i 0 ≤ 2 ^ m ∧ ((i : Int) < wt m → 1 ≤ (outer n m).getD i 0)
  | 0, _, i, hi => by
    cases i with
    | zero => simp [outer]
    | succ i =>
      have e : (outer n 0).getD (i + 1) 0 = 0 := by
        simp only [outer, List.getD_eq_getElem?_getD, List.getElem?_cons_succ, List.getElem?_replicate]
        split <;> rfl
      rw [e, wt0]
      exact ⟨by omega, by decide, fun h => by omega⟩
  | m + 1, hm, i, hi => by
    have ih := outer_ge n hn m (by omega)
    have hw := wn_eq m
    have hp := (wt_pos m).1
    have h2 := wt_two m
    have hpw : (2 : Int) ^ m ≤ 2 ^ 16 := by
      have : (2 : Nat) ^ m ≤ 2 ^ 16 := Nat.pow_le_pow_right (by omega) (by omega)
      exact_mod_cast this
    rw [outer, inn_at _ (by omega) _ _ (by rw [outer_len]; omega)]
    obtain ⟨a1, a2, a3⟩ := ih i hi
    have e2 : (2 : Int) ^ (m + 1) = 2 ^ m + 2 ^ m := by rw [Int.pow_succ]; omega
    by_cases e : wn m ≤ i ∧ i ≤ n
    · obtain ⟨b1, b2, b3⟩ := ih (i - wn m) (by omega)
      rw [if_pos e, show wrap64 ((outer n m).getD i 0 + (outer n m).getD (i - wn m) 0) = (outer n m).getD i 0 + (outer n m).getD (i - wn m) 0 by unfold wrap64; omega]
      refine ⟨by omega, by omega, fun h => ?_⟩
      have := b3 (by omega)
      omega
    · rw [if_neg e]
      exact ⟨a1, by omega, fun h => a3 (by omega)⟩
theorem wy_ge (n : Nat) (h : n < 1000) : 1 ≤ wy (n : Int) := by
  have w16 : wt 16 = 2584 := by decide +kernel
  have hi : inB (n : Int) 0 1000 = true := inB_true.2 (by omega)
  unfold wy
  rw [if_pos hi, Int.toNat_natCast]
  exact (outer_ge n (by omega) 16 (by omega) n (Nat.le_refl _)).2.2 (by rw [w16]; omega)
theorem wy_12 : wy 12 = 1 := by
  have : (outer 12 16).getD 12 0 = 1 := by decide +kernel
  have hi : inB 12 0 1000 = true := inB_true.2 (by omega)
  unfold wy
  rw [if_pos hi]; exact this
/-! ### The last digit -/
theorem gr_last : ∀ (k : Nat) (n : Int), 1 ≤ k → ((gr k n []).getLast? = some 49 ↔ (D k n).getLast? = some 49)
  | 0, _, h => by omega
  | k + 1, n, _ => by
    by_cases h : wt k ≤ n
    · rw [gr_yes h, gr_D k _ _ (by simp), D_yes h]; rfl
    · rw [gr_nil h, D_no h]
      cases k with
      | zero => simp [gr, D]
      | succ k =>
        rw [gr_last (k + 1) n (by omega)]
        have : D (k + 1) n ≠ [] := by intro e; have := D_len (k + 1) n; rw [e] at this; simp at this
        rw [List.getLast?_cons_of_ne_nil this]
/-- The golden words: each the last two, one behind the other. -/
def gw : Nat → List UInt8 × List UInt8
  | 0 => ([97], [97, 98])
  | k + 1 => ((gw k).2, (gw k).2 ++ (gw k).1)
def fw (k : Nat) : List UInt8 := (gw k).1
theorem fw0 : fw 0 = [97] := rfl
theorem fw1 : fw 1 = [97, 98] := rfl
theorem fwS (k : Nat) : fw (k + 2) = fw (k + 1) ++ fw k := rfl
theorem fw_len : ∀ k, ((fw k).length : Int) = wt k ∧ ((fw (k + 1)).length : Int) = wt (k + 1)
  | 0 => by decide
  | k + 1 => by
    obtain ⟨h1, h2⟩ := fw_len k
    refine ⟨h2, ?_⟩
    rw [show k + 1 + 1 = k + 2 from rfl, fwS, wtSS, List.length_append]; push_cast; omega
def lastL (k : Nat) (n : Int) : UInt8 := if (D k n).getLast? = some 49 then 98 else 97
theorem lastL_next {k : Nat} (hk : 1 ≤ k) (b : UInt8) (n : Int) : (b :: D k n).getLast? = (D k n).getLast? := by
  have : D k n ≠ [] := by intro e; have := D_len k n; rw [e] at this; simp at this; omega
  rw [List.getLast?_cons_of_ne_nil this]
theorem fw_at : ∀ (k : Nat), (∀ n : Nat, (n : Int) < wt (k + 1) → (fw (k + 1))[n]? = some (lastL (k + 1) n)) ∧ (∀ n : Nat, (n : Int) < wt (k + 2) → (fw (k + 2))[n]? = some (lastL (k + 2) n))
  | 0 => by
    have e1 : wt 1 = 2 := rfl
    have e2 : wt 2 = 3 := rfl
    constructor
    · intro n h
      rw [show (0 : Nat) + 1 = 1 from rfl, e1] at h
      have : n = 0 ∨ n = 1 := by omega
      rcases this with rfl | rfl <;> decide +kernel
    · intro n h
      rw [show (0 : Nat) + 2 = 2 from rfl, e2] at h
      have : n = 0 ∨ n = 1 ∨ n = 2 := by omega
      rcases this with rfl | rfl | rfl <;> decide +kernel
  | k + 1 => by
    obtain ⟨h1, h2⟩ := fw_at k
    refine ⟨h2, fun n h => ?_⟩
    have l2 := (fw_len (k + 1)).2
    have e3 := wtSS (k + 1)
    have e4 := wt_lt (k + 1)
    rw [show k + 1 + 2 = (k + 1) + 2 from rfl] at h ⊢
    rw [fwS]
    rw [e3] at h
    rw [show k + 1 + 1 = k + 2 from rfl] at *
    by_cases hlt : (n : Int) < wt (k + 2)
    · rw [List.getElem?_append_left (by omega), h2 n hlt]
      unfold lastL
      rw [show k + 1 + 2 = (k + 2) + 1 from rfl, D_no (k := k + 2) (n := (n : Int)) (by omega), lastL_next (by omega)]
    · rw [List.getElem?_append_right (by omega)]
      have e5 : n - (fw (k + 2)).length = n - (wt (k + 2)).toNat := by omega
      have hp := (wt_pos (k + 2)).1
      obtain ⟨m, hm⟩ : ∃ m : Nat, n = m + (wt (k + 2)).toNat := ⟨n - (wt (k + 2)).toNat, by omega⟩
      rw [e5, show n - (wt (k + 2)).toNat = m by omega, h1 m (by omega)]
      unfold lastL
      rw [show k + 1 + 2 = (k + 2) + 1 from rfl, D_yes (k := k + 2) (n := (n : Int)) (by omega), lastL_next (by omega), show (n : Int) - wt (k + 2) = (m : Int) by omega]
      rw [show D (k + 2) (m : Int) = 48 :: D (k + 1) (m : Int) from D_no (k := k + 1) (by omega), lastL_next (by omega)]
theorem D_up : ∀ (d k : Nat) (n : Int), 1 ≤ k → n < wt k → (D (k + d) n).getLast? = (D k n).getLast?
  | 0, _, _, _, _ => rfl
  | d + 1, k, n, hk, h => by
    rw [show k + (d + 1) = (k + d) + 1 from rfl, D_no (by have := wt_mono (show k ≤ k + d by omega); omega), lastL_next (by omega), D_up d k n hk h]
/-- The letter of the golden word at a number, told by the number's last digit. -/
theorem golden_at (n : Nat) (h : n ≤ 10000) : (fw 20)[n]? = some (if (gr 60 n []).getLast? = some 49 then 98 else 97) := by
  have w20 : wt 20 = 17711 := by decide +kernel
  have e1 : (D 60 (n : Int)).getLast? = (D 20 (n : Int)).getLast? := D_up 40 20 n (by omega) (by rw [w20]; omega)
  have e2 := gr_last 60 (n : Int) (by omega)
  have e3 : (fw 20)[n]? = some (lastL 20 n) := (fw_at 18).2 n (by show _ < wt 20; rw [w20]; omega)
  rw [e3]
  unfold lastL
  rw [← e1]
  by_cases e : (gr 60 (n : Int) []).getLast? = some 49
  · rw [if_pos e, if_pos (e2.1 e)]
  · rw [if_neg e, if_neg (fun q => e (e2.2 q))]
/-! ### The fixed word of the golden substitution -/
def phi (l : List UInt8) : List UInt8 := l.flatMap (fun b => if b = 97 then [97, 98] else [97])
theorem phi_app (x y : List UInt8) : phi (x ++ y) = phi x ++ phi y := by simp [phi]
theorem phi_fw : ∀ k, phi (fw k) = fw (k + 1) ∧ phi (fw (k + 1)) = fw (k + 2)
  | 0 => by decide
  | k + 1 => by
    obtain ⟨h1, h2⟩ := phi_fw k
    refine ⟨h2, ?_⟩
    show phi (fw (k + 2)) = fw (k + 1 + 2)
    rw [fwS, phi_app, h2, h1]; rfl
theorem phi_take (i : Nat) (hl : (phi ((fw 20).take i)).length ≤ 17711) : phi ((fw 20).take i) = (fw 20).take (phi ((fw 20).take i)).length := by
  have w20 : wt 20 = 17711 := by decide +kernel
  have h20 : (fw 20).length = 17711 := by have := (fw_len 20).1; rw [w20] at this; omega
  have h1 : phi (fw 20) = fw 20 ++ fw 19 := by rw [(phi_fw 20).1]; rfl
  have h2 : phi (fw 20) = phi ((fw 20).take i) ++ phi ((fw 20).drop i) := by rw [← phi_app, List.take_append_drop]
  have h3 := congrArg (List.take (phi ((fw 20).take i)).length) (h2.symm.trans h1)
  rw [List.take_left, List.take_append_of_le_length (by omega)] at h3
  exact h3
end Go.Proofs.YtilbhingfnjppaaDoor
