/- A word is balanced exactly if no palindrome parts it: the plain law. -/
import Derived.Test.YtilbhingfnjppabBlE
import Derived.Test.YtilbhingfnjppabMStd
import Derived.Test.YtilbhingfnjppabRtE
set_option linter.unusedSimpArgs false
set_option linter.unusedVariables false
namespace Go.Proofs.Ytilbhingfnjppab
open Go.RowKit
theorem bt_exB (s : ByteArray) (k q j : Nat) (hj : j < (s.extract k q).size) : bt (s.extract k q) j = bt s (k + j) := by
  have h1 : (s.extract k q).size = min q s.size - k := by rw [ByteArray.size_extract]
  have h2 : k + j < s.size := by omega
  unfold bt
  rw [dif_pos hj, dif_pos h2]
  simp [ByteArray.getElem_extract]
theorem eq_of_btB {s t : ByteArray} (hs : s.size = t.size) (h : ∀ j, j < s.size → bt s j = bt t j) : s = t := by
  apply same_of
  rw [ByteArray.toList_eq, ByteArray.toList_eq]
  apply List.ext_getElem?
  intro j
  by_cases hj : j < s.size
  · rw [list_at s j hj, list_at t j (by omega)]
    have := h j hj
    rw [byteAt_bt s j hj, byteAt_bt t j (by omega)] at this
    congr 1
    exact UInt8.toNat_inj.1 (by omega)
  · rw [List.getElem?_eq_none (by simp; omega), List.getElem?_eq_none (by simp; omega)]
theorem win_one (s : ByteArray) (i : Nat) (h : i < s.size) : win s 1 i = if bt s i = 98 then 1 else 0 := by
  have h1 := win_eq s 1 i (by omega)
  have h2 := cb_next s i h
  omega
theorem win_last (s : ByteArray) (L i : Nat) (h : i + (L + 1) ≤ s.size) : win s (L + 1) i = win s L i + (if bt s (i + L) = 98 then 1 else 0) := by
  rw [win_split s L 1 i h, win_one s (i + L) (by omega)]
theorem win_first (s : ByteArray) (L i : Nat) (h : i + (L + 1) ≤ s.size) : win s (L + 1) i = (if bt s i = 98 then 1 else 0) + win s L (i + 1) := by
  rw [show L + 1 = 1 + L by omega] at h ⊢
  rw [win_split s 1 L i h, win_one s i (by omega)]
theorem win_congr (s : ByteArray) (a b : Nat) : ∀ n, a + n ≤ s.size → b + n ≤ s.size → (∀ t, t < n → bt s (a + t) = bt s (b + t)) → win s n a = win s n b
  | 0, _, _, _ => by unfold win; simp
  | n + 1, h1, h2, h => by
    rw [win_last s n a h1, win_last s n b h2, win_congr s a b n (by omega) (by omega) (fun t ht => h t (by omega)), h n (by omega)]
theorem bub_at (u : ByteArray) : bt (bub u) 0 = 98 ∧ (∀ t, t < u.size → bt (bub u) (t + 1) = bt u t) ∧ bt (bub u) (u.size + 1) = 98 := by
  have e1 : (⟨#[98]⟩ : ByteArray).size = 1 := rfl
  have hs : ((⟨#[98]⟩ : ByteArray) ++ u).size = u.size + 1 := by rw [ByteArray.size_append]; omega
  unfold bub
  refine ⟨?_, fun t ht => ?_, ?_⟩
  · rw [bt_catL _ _ 0 (by omega), bt_catL _ _ 0 (by omega)]; rfl
  · rw [bt_catL _ _ (t + 1) (by omega), Nat.add_comm t 1]
    exact bt_catR (⟨#[98]⟩ : ByteArray) u t
  · have := bt_catR ((⟨#[98]⟩ : ByteArray) ++ u) (⟨#[98]⟩ : ByteArray) 0
    rw [hs, Nat.add_zero] at this
    rw [this]; rfl
/-- Where a word lies in another one. -/
theorem contains_at {s x : ByteArray} (h : Lib.contains s.data.toList x.data.toList = true) (hx : 0 < x.size) : ∃ j, j + x.size ≤ s.size ∧ ∀ t, t < x.size → bt s (j + t) = bt x t := by
  unfold Lib.contains at h
  rcases Lib.index_spec s.data.toList x.data.toList with ⟨e, _⟩ | ⟨j, _, hj, ho, _⟩
  · rw [e] at h; simp at h
  · unfold Lib.occAt at ho
    rw [List.isPrefixOf_iff_prefix] at ho
    obtain ⟨r, hr⟩ := ho
    have hl := congrArg List.length hr
    have l1 : x.data.toList.length = x.size := by simp
    have l2 : s.data.toList.length = s.size := by simp
    rw [List.length_append, List.length_drop] at hl
    refine ⟨j, by omega, fun t ht => ?_⟩
    have h1 : (s.data.toList.drop j)[t]? = x.data.toList[t]? := by
      rw [← hr, List.getElem?_append_left (by omega)]
    rw [List.getElem?_drop, list_at s (j + t) (by omega), list_at x t ht] at h1
    rw [byteAt_bt s (j + t) (by omega), byteAt_bt x t ht]
    rw [Option.some.inj h1]
theorem bal_noF {s : ByteArray} (hb : balP s) (n : Nat) (f : ByteArray) (hn : n + 2 ≤ s.size) (hf : f ∈ facs s (n + 2)) : ¬ CondF s n f := by
  intro h
  obtain ⟨i, hi, rfl⟩ := mem_facs.1 hf
  have hfs : (s.extract i (i + (n + 2))).size = n + 2 := by rw [ByteArray.size_extract]; omega
  have hus : ((s.extract i (i + (n + 2))).extract 1 (n + 1)).size = n := by rw [ByteArray.size_extract, hfs]; omega
  have a0 := h.a0
  have a1 := h.a1
  rw [bt_exB s _ _ 0 (by omega), Nat.add_zero] at a0
  rw [bt_exB s _ _ (n + 1) (by omega)] at a1
  obtain ⟨j, hj, hl⟩ := contains_at h.con (by rw [bub_size]; omega)
  rw [bub_size, hus] at hj hl
  obtain ⟨b0, b1, b2⟩ := bub_at ((s.extract i (i + (n + 2))).extract 1 (n + 1))
  rw [hus] at b1 b2
  have l0 := hl 0 (by omega)
  rw [b0, Nat.add_zero] at l0
  have l2 := hl (n + 1) (by omega)
  rw [b2] at l2
  have hmid : win s n (j + 1) = win s n (i + 1) := win_congr s _ _ n (by omega) (by omega) (fun t ht => by
    have := hl (t + 1) (by omega)
    rw [b1 t ht, bt_exB _ _ _ t (by omega), bt_exB s _ _ (1 + t) (by omega)] at this
    rw [show j + 1 + t = j + (t + 1) by omega, this]
    congr 1; omega)
  have w1 : win s (n + 2) j = _ := win_first s (n + 1) j (by omega)
  have w2 := win_last s n (j + 1) (by omega)
  have w3 : win s (n + 2) i = _ := win_first s (n + 1) i (by omega)
  have w4 := win_last s n (i + 1) (by omega)
  rw [if_pos l0] at w1
  rw [show j + 1 + n = j + (n + 1) by omega, if_pos l2] at w2
  rw [if_neg (by omega)] at w3
  rw [show i + 1 + n = i + (n + 1) by omega, if_neg (by omega)] at w4
  have := win_of_bal hb (n + 2) j i (by omega) (by omega) (by omega)
  omega
theorem bin_at {s : ByteArray} (hB : binB s = true) (j : Nat) (hj : j < s.size) : bt s j = 97 ∨ bt s j = 98 := by
  have h1 : isWB s = true := ((Bool.and_eq_true _ _).mp hB).1
  have h2 : wiB 2 s = true := ((Bool.and_eq_true _ _).mp hB).2
  obtain ⟨h3, h4⟩ := lt_eq ((isW_of h1).2 j hj)
  have h5 : ∀ j, j < s.size → lt s j < 2 := of_decide_eq_true h2
  have := h5 j hj
  omega
theorem unbal_F {s : ByteArray} (hB : binB s = true) (hb : ¬ balP s) : ∃ n f, n + 2 ≤ s.size ∧ f ∈ facs s (n + 2) ∧ CondF s n f := by
  obtain ⟨n, i, j, hi, hj, hL, htot⟩ := unbal hb
  have hfs : (s.extract i (i + (n + 2))).size = n + 2 := by rw [ByteArray.size_extract]; omega
  have hus : ((s.extract i (i + (n + 2))).extract 1 (n + 1)).size = n := by rw [ByteArray.size_extract, hfs]; omega
  have one : ∀ x, x < s.size → win s 1 x = if bt s x = 98 then 1 else 0 := win_one s
  have e1 := hL 1 (by omega) (by omega)
  rw [one i (by omega), one j (by omega), one (i + (n + 2 - 1)) (by omega)] at e1
  have ni : bt s i ≠ 98 := fun q => by rw [if_pos q] at e1; split at e1 <;> omega
  have yj : bt s j = 98 := Classical.byContradiction fun q => by rw [if_neg q] at e1; omega
  rw [if_neg ni] at e1
  have nl : bt s (i + (n + 1)) ≠ 98 := fun q => by
    have := e1.2
    rw [show i + (n + 2 - 1) = i + (n + 1) by omega, if_pos q] at this
    omega
  have e2 := hL (n + 1) (by omega) (by omega)
  have t1 : win s (n + 2) i = _ := win_last s (n + 1) i (by omega)
  have t2 : win s (n + 2) j = _ := win_last s (n + 1) j (by omega)
  rw [if_neg nl] at t1
  have yl : bt s (j + (n + 1)) = 98 := Classical.byContradiction fun q => by rw [if_neg q] at t2; omega
  have mid : ∀ t, 1 ≤ t → t ≤ n → bt s (i + t) = bt s (j + t) := fun t h1 h2 => by
    have q1 := hL t (by omega) (by omega)
    have q2 := hL (t + 1) (by omega) (by omega)
    have q3 := win_last s t i (by omega)
    have q4 := win_last s t j (by omega)
    have b1 := bin_at hB (i + t) (by omega)
    have b2 := bin_at hB (j + t) (by omega)
    by_cases c1 : bt s (i + t) = 98
    · by_cases c2 : bt s (j + t) = 98
      · omega
      · rw [if_pos c1] at q3; rw [if_neg c2] at q4; omega
    · by_cases c2 : bt s (j + t) = 98
      · rw [if_neg c1] at q3; rw [if_pos c2] at q4; omega
      · omega
  have pal : ∀ t, 1 ≤ t → t ≤ n → bt s (i + t) = bt s (i + (n + 1 - t)) := fun t h1 h2 => by
    have q1 := (hL t (by omega) (by omega)).2
    have q2 := (hL (t + 1) (by omega) (by omega)).2
    have q3 := win_last s t i (by omega)
    have q4 := win_first s t (i + (n + 1 - t)) (by omega)
    rw [show i + (n + 2 - (t + 1)) = i + (n + 1 - t) by omega] at q2
    rw [show i + (n + 1 - t) + 1 = i + (n + 2 - t) by omega] at q4
    have b1 := bin_at hB (i + t) (by omega)
    have b2 := bin_at hB (i + (n + 1 - t)) (by omega)
    by_cases c1 : bt s (i + t) = 98
    · by_cases c2 : bt s (i + (n + 1 - t)) = 98
      · omega
      · rw [if_pos c1] at q3; rw [if_neg c2] at q4; omega
    · by_cases c2 : bt s (i + (n + 1 - t)) = 98
      · rw [if_neg c1] at q3; rw [if_pos c2] at q4; omega
      · omega
  have hu : ∀ t, t < n → bt ((s.extract i (i + (n + 2))).extract 1 (n + 1)) t = bt s (i + (t + 1)) := fun t ht => by
    rw [bt_exB _ _ _ t (by omega), bt_exB s _ _ (1 + t) (by omega)]
    congr 1; omega
  refine ⟨n, s.extract i (i + (n + 2)), by omega, mem_facs.2 ⟨i, by omega, rfl⟩, ⟨?_, ?_, ?_, ?_⟩⟩
  · rw [bt_exB s _ _ 0 (by omega), Nat.add_zero]
    exact (bin_at hB i (by omega)).resolve_right ni
  · rw [bt_exB s _ _ (n + 1) (by omega)]
    exact (bin_at hB _ (by omega)).resolve_right nl
  · refine pal_of (fun t ht => ?_)
    rw [hus] at ht ⊢
    rw [hu t ht, hu (n - 1 - t) (by omega), pal (t + 1) (by omega) (by omega)]
    congr 1; omega
  · have e : bub ((s.extract i (i + (n + 2))).extract 1 (n + 1)) = s.extract j (j + (n + 2)) := by
      have hjs : (s.extract j (j + (n + 2))).size = n + 2 := by rw [ByteArray.size_extract]; omega
      obtain ⟨b0, b1, b2⟩ := bub_at ((s.extract i (i + (n + 2))).extract 1 (n + 1))
      rw [hus] at b1 b2
      refine eq_of_btB (by rw [bub_size, hus, hjs]) (fun t ht => ?_)
      rw [bub_size, hus] at ht
      rw [bt_exB s _ _ t (by omega)]
      by_cases c0 : t = 0
      · subst c0; rw [b0, Nat.add_zero, yj]
      · by_cases c1 : t = n + 1
        · subst c1; rw [b2, yl]
        · have := b1 (t - 1) (by omega)
          rw [show t - 1 + 1 = t by omega] at this
          rw [this, hu (t - 1) (by omega), show t - 1 + 1 = t by omega, mid t (by omega) (by omega)]
    rw [e]
    exact has_part (by omega) (by omega)
end Go.Proofs.Ytilbhingfnjppab
