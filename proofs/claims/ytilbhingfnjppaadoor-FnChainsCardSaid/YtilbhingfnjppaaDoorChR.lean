/- Chains: what the law's lists are, place by place. No program in sight. -/
import Derived.Test.YtilbhingfnjppaaDoorChN
import Derived.Test.YtilbhingfnjppaaDoorChQ
import Derived.Test.YtilbhingfnjppaaDoorMSums
set_option linter.unusedSimpArgs false
set_option linter.unusedVariables false
namespace Go.Proofs.YtilbhingfnjppaaDoor
open Go.RowKit
theorem chL_eq {a b c d : Int} (hw : win a b c d = true) {m : Nat} (h1 : 1 ≤ m) (h2 : m ≤ 60) : chL a b c d m = (specL (a, b) (c, d)).take m := by
  unfold chL
  rw [hw, inB_true.2 (show (1 : Int) ≤ (m : Int) ∧ (m : Int) ≤ 60 by omega), Int.toNat_natCast]; rfl
theorem chL_length {a b c d : Int} (hw : win a b c d = true) {m : Nat} (h1 : 1 ≤ m) (h2 : m ≤ 60) : (chL a b c d m).length = m := by
  rw [chL_eq hw h1 h2]; exact specL_take_len (win_Win hw) h2
theorem chL_at {a b c d : Int} (hw : win a b c d = true) {m : Nat} (h1 : 1 ≤ m) (h2 : m ≤ 60) {k : Nat} (hk : k < m) : (chL a b c d m).getD k (0, 0) = chn (a, b) (c, d) k := by
  rw [chL_eq hw h1 h2]
  unfold chn
  rw [List.getD_eq_getElem?_getD, List.getElem?_take_of_lt hk, List.getD_eq_getElem?_getD]
theorem stL_eq {a b c d : Int} (hw : win a b c d = true) {m : Nat} (h1 : 1 ≤ m) (h2 : m ≤ 59) : stL a b c d m = dfs ((specL (a, b) (c, d)).take (m + 1)) m := by
  unfold stL
  rw [hw, inB_true.2 (show (1 : Int) ≤ (m : Int) ∧ (m : Int) ≤ 59 by omega), Int.toNat_natCast]; rfl
theorem stL_length {a b c d : Int} (hw : win a b c d = true) {m : Nat} (h1 : 1 ≤ m) (h2 : m ≤ 59) : (stL a b c d m).length = m := by
  rw [stL_eq hw h1 h2, dfs_len]
theorem stL_at {a b c d : Int} (hw : win a b c d = true) {m : Nat} (h1 : 1 ≤ m) (h2 : m ≤ 59) {k : Nat} (hk : k < m) : (stL a b c d m).getD k (0, 0) = sub2 (chn (a, b) (c, d) (k + 1)) (chn (a, b) (c, d) k) := by
  rw [stL_eq hw h1 h2]
  unfold dfs
  rw [List.getD_eq_getElem?_getD, List.getElem?_map, List.getElem?_range hk]
  unfold chn sub2
  simp only [List.getD_eq_getElem?_getD, Option.map_some, Option.getD_some]
  rw [List.getElem?_take_of_lt (by omega), List.getElem?_take_of_lt (by omega)]
theorem chn_bp {a b c d : Int} (hw : win a b c d = true) {k : Nat} (hk : k < 60) : bp (chn (a, b) (c, d) k) :=
  allS_bp (win_Win hw) (((specL_asc (win_Win hw)).2 _).1 (chn_mem (win_Win hw) hk))
/-- How many kinds, and which. -/
theorem kdL_three {a b c d : Int} {g1 g2 : GP} {Dd : Int} (h : Cls (a, b) (c, d) g1 g2 Dd) : 2 ≤ (kdL a b c d).length ∧ (kdL a b c d).length ≤ 3 ∧ ((kdL a b c d).length = 3 → kdL a b c d = [g1, g2, add2 g1 g2]) := by
  have hw := Win_win h.w
  obtain ⟨h1, h2⟩ := kdL_asc a b c d
  exact kinds_three h (stL_length hw (m := 59) (by omega) (by omega)) (fun k hk => stL_at hw (m := 59) (by omega) (by omega) hk) h1 h2
theorem kdL_bg (a b c d : Int) : ∀ z ∈ kdL a b c d, bg z := kd_bg (stL_bg a b c d 59) _
/-- A step's place among the kinds, told by the letter. -/
theorem wordL_at {a b c d : Int} (hw : win a b c d = true) {m : Nat} (h1 : 1 ≤ m) (h2 : m ≤ 59) {k : Nat} (hk : k < m) : ∃ i, i < (kdL a b c d).length ∧ (kdL a b c d).getD i (0, 0) = (stL a b c d m).getD k (0, 0) ∧ bt (wordL a b c d m) k = 97 + ((kdL a b c d).length : Int) - 1 - i := by
  have hl := stL_length hw h1 h2
  have hmem : (stL a b c d m).getD k (0, 0) ∈ kdL a b c d := by
    refine stL_sub a b c d m _ ?_
    rw [List.getD_eq_getElem?_getD, List.getElem?_eq_getElem (by omega)]
    exact List.getElem_mem _
  refine ⟨ixl (kdL a b c d) ((stL a b c d m).getD k (0, 0)), ixl_lt hmem, ixl_at hmem, ?_⟩
  rw [← lt8_nat (kdL_len a b c d) (ixl_lt hmem)]
  unfold wordL
  have hsl := swL_len (kdL a b c d) (stL a b c d m) (stL a b c d m).length (Nat.le_refl _)
  rw [bt_list _ _ (by rw [hsl, hl]; exact hk)]
  unfold swL
  rw [List.take_length, List.getD_eq_getElem?_getD, List.getElem?_map, List.getD_eq_getElem?_getD, List.getElem?_eq_getElem (by omega)]
  rfl
theorem wordL_size {a b c d : Int} (hw : win a b c d = true) {m : Nat} (h1 : 1 ≤ m) (h2 : m ≤ 59) : (wordL a b c d m).size = m := by
  have hl := stL_length hw h1 h2
  have hsl := swL_len (kdL a b c d) (stL a b c d m) (stL a b c d m).length (Nat.le_refl _)
  unfold wordL
  show (swL _ _ _).toArray.size = m
  rw [List.size_toArray, hsl, hl]
/-! ### The golden window's word -/
theorem winG : win (-1) 0 (-1) 1 = true := Win_win clsG.w
theorem stG (m : Nat) (h1 : 1 ≤ m) (h2 : m ≤ 59) : stL (-1) 0 (-1) 1 m = gst (0, 0) m := by
  have hl := stL_length winG h1 h2
  apply List.ext_getElem (by rw [hl, gst_len])
  intro k hk1 hk2
  have q1 := stL_at winG h1 h2 (k := k) (by omega)
  have q2 := gst_at m (0, 0) k (by omega)
  rw [List.getD_eq_getElem?_getD, List.getElem?_eq_getElem hk1, Option.getD_some] at q1
  rw [List.getD_eq_getElem?_getD, List.getElem?_eq_getElem hk2, Option.getD_some] at q2
  rw [q1, q2, gchF_eq, gchF_eq, goldw_chn (k + 1) (by omega), goldw_chn k (by omega)]
theorem kdG : kdL (-1) 0 (-1) 1 = [(1, 0), (0, 1)] := by
  have hs : stL (-1) 0 (-1) 1 59 = gst (0, 0) 59 := stG 59 (by omega) (by omega)
  unfold kdL
  rw [hs]
  decide +kernel
theorem gst_take : ∀ (m n : Nat) (x : GP), m ≤ n → gst x m = (gst x n).take m
  | 0, _, _, _ => by simp [gst]
  | m + 1, 0, _, h => by omega
  | m + 1, n + 1, x, h => by
    rw [gst, gst, List.take_succ_cons, gst_take m n _ (by omega)]
theorem fw_take (m k : Nat) (hm : (m : Int) ≤ wt (k + 1)) : ∀ d, (fw (k + 1 + d)).take m = (fw (k + 1)).take m
  | 0 => rfl
  | d + 1 => by
    have hl := (fw_len (k + d)).2
    have hmo := wt_mono (show k + 1 ≤ k + d + 1 by omega)
    rw [show k + 1 + (d + 1) = (k + d) + 2 by omega, fwS, List.take_append_of_le_length (by omega), ← fw_take m k hm d]
    congr 2; omega
theorem wordG (n : Nat) (h1 : 1 ≤ n) (h2 : n ≤ 40) : wordL (-1) 0 (-1) 1 n = ⟨((fw 20).take n).toArray⟩ := by
  have hw8 : wt 8 = 55 := by decide +kernel
  unfold wordL
  rw [kdG, stG n h1 (by omega), gst_len]
  unfold swL
  rw [List.take_of_length_le (by rw [gst_len]; exact Nat.le_refl _), gst_take n 40 _ h2, List.map_take]
  have e1 : (gst (0, 0) 40).map (fun x => lt8 ([(1, 0), (0, 1)] : List GP).length (ixl [(1, 0), (0, 1)] x)) = (fw 8).take 40 := by decide +kernel
  rw [e1, List.take_take, Nat.min_eq_left h2]
  have e2 := fw_take n 7 (by rw [show 7 + 1 = 8 from rfl, hw8]; omega) 12
  rw [show 7 + 1 + 12 = 20 from rfl, show 7 + 1 = 8 from rfl] at e2
  rw [e2]
end Go.Proofs.YtilbhingfnjppaaDoor
