/- What the walk of FnBalance wants besides. -/
import Derived.Test.YtilbhingfnjppabBlC
import Derived.Test.YtilbhingfnjppabBlD
import Derived.Test.YtilbhingfnjppabBlB
import Derived.Test.YtilbhingfnjppabBlF
import Derived.Test.YtilbhingfnjppabFlp
import Derived.Test.YtilbhingfnjppabRtG
set_option linter.unusedSimpArgs false
set_option linter.unusedVariables false
namespace Go.Proofs.Ytilbhingfnjppab
open Go.RowKit
theorem isWB_bin {s : ByteArray} (h : binB s = true) : isWB s = true := ((Bool.and_eq_true _ _).mp h).1
theorem bin_rev {s : ByteArray} (h : binB s = true) : binB (rev s) = true := bin_of (by rw [rev_sizeB]; exact bin_400 h) (fun j hj => by
  rw [rev_sizeB] at hj
  rw [bt_revB s j hj]
  exact bin_at h _ (by omega))
theorem balB_rev {s : ByteArray} (h : binB s = true) : balB (rev s) = balB s := by
  by_cases hb : balP s
  · simp [balB, h, bin_rev h, hb, (bal_rev_iff s).2 hb]
  · have : ¬ balP (rev s) := fun q => hb ((bal_rev_iff s).1 q)
    simp [balB, h, bin_rev h, hb, this]
def aua (u : ByteArray) : ByteArray := (⟨#[97]⟩ : ByteArray) ++ u ++ (⟨#[97]⟩ : ByteArray)
theorem wrap_at (b : UInt8) (u : ByteArray) : ((⟨#[b]⟩ : ByteArray) ++ u ++ (⟨#[b]⟩ : ByteArray)).size = u.size + 2 ∧ bt ((⟨#[b]⟩ : ByteArray) ++ u ++ (⟨#[b]⟩ : ByteArray)) 0 = (b.toNat : Int) ∧ (∀ t, t < u.size → bt ((⟨#[b]⟩ : ByteArray) ++ u ++ (⟨#[b]⟩ : ByteArray)) (t + 1) = bt u t) ∧ bt ((⟨#[b]⟩ : ByteArray) ++ u ++ (⟨#[b]⟩ : ByteArray)) (u.size + 1) = (b.toNat : Int) := by
  have e1 : (⟨#[b]⟩ : ByteArray).size = 1 := rfl
  have hs : ((⟨#[b]⟩ : ByteArray) ++ u).size = u.size + 1 := by rw [ByteArray.size_append]; omega
  refine ⟨by rw [ByteArray.size_append]; omega, ?_, fun t ht => ?_, ?_⟩
  · rw [bt_catL _ _ 0 (by omega), bt_catL _ _ 0 (by omega)]; rfl
  · rw [bt_catL _ _ (t + 1) (by omega), Nat.add_comm t 1]
    exact bt_catR (⟨#[b]⟩ : ByteArray) u t
  · have := bt_catR ((⟨#[b]⟩ : ByteArray) ++ u) (⟨#[b]⟩ : ByteArray) 0
    rw [hs, Nat.add_zero] at this
    rw [this]; rfl
/-- What is known of the palindrome that parts a word. -/
structure Parts (s r v : ByteArray) (n : Nat) : Prop where
  n4 : n + 2 ≤ 400
  vs : v.size = n
  pal : (v.toList == (rev v).toList) = true
  aw : isWB (aua v) = true
  ac : Lib.contains s.data.toList (aua v).data.toList = true
  bw : isWB (bub v) = true
  bc : Lib.contains s.data.toList (bub v).data.toList = true
  rs : r.size = n + 2
  r0 : bt r 0 = 42
  r1 : bt r (n + 1) = 42
  rv : r.extract 1 (n + 1) = v
theorem parts_of {s f : ByteArray} {n : Nat} (hB : binB s = true) (hn : n + 2 ≤ s.size) (hf : f ∈ facs s (n + 2)) (h : CondF s n f) : Parts s (sus (f.extract 1 (n + 1))) (f.extract 1 (n + 1)) n := by
  have h4 := bin_400 hB
  obtain ⟨i, hi, rfl⟩ := mem_facs.1 hf
  have hfs : (s.extract i (i + (n + 2))).size = n + 2 := by rw [ByteArray.size_extract]; omega
  have hus : ((s.extract i (i + (n + 2))).extract 1 (n + 1)).size = n := by rw [ByteArray.size_extract, hfs]; omega
  have hu : ∀ t, t < n → bt ((s.extract i (i + (n + 2))).extract 1 (n + 1)) t = bt s (i + (t + 1)) := fun t ht => by
    rw [bt_exB _ _ _ t (by omega), bt_exB s _ _ (1 + t) (by omega)]
    congr 1; omega
  have a0 := h.a0
  have a1 := h.a1
  have hpal := h.pal
  have hcon := h.con
  rw [bt_exB s _ _ 0 (by omega), Nat.add_zero] at a0
  rw [bt_exB s _ _ (n + 1) (by omega)] at a1
  have ea : aua ((s.extract i (i + (n + 2))).extract 1 (n + 1)) = s.extract i (i + (n + 2)) := by
    obtain ⟨b9, b0, b1, b2⟩ := wrap_at 97 ((s.extract i (i + (n + 2))).extract 1 (n + 1))
    rw [hus] at b9 b1 b2
    refine eq_of_btB (by unfold aua; rw [b9, hfs]) (fun t ht => ?_)
    unfold aua at ht ⊢
    rw [b9] at ht
    rw [bt_exB s _ _ t (by omega)]
    by_cases c0 : t = 0
    · subst c0; rw [b0, Nat.add_zero, a0]; rfl
    · by_cases c1 : t = n + 1
      · subst c1; rw [b2, a1]; rfl
      · have := b1 (t - 1) (by omega)
        rw [show t - 1 + 1 = t by omega] at this
        rw [this, hu (t - 1) (by omega), show t - 1 + 1 = t by omega]
  have hfb : binB (s.extract i (i + (n + 2))) = true := bin_of (by omega) (fun j hj => by
    rw [bt_exB s _ _ j hj]
    exact bin_at hB _ (by omega))
  have hvb : ∀ t, t < n → bt ((s.extract i (i + (n + 2))).extract 1 (n + 1)) t = 97 ∨ bt ((s.extract i (i + (n + 2))).extract 1 (n + 1)) t = 98 := fun t ht => by
    rw [hu t ht]; exact bin_at hB _ (by omega)
  obtain ⟨b0, b1, b2⟩ := bub_at ((s.extract i (i + (n + 2))).extract 1 (n + 1))
  have b9 := bub_size ((s.extract i (i + (n + 2))).extract 1 (n + 1))
  obtain ⟨s9, s0, s1, s2⟩ := wrap_at 42 ((s.extract i (i + (n + 2))).extract 1 (n + 1))
  rw [hus] at b1 b2 b9 s9 s1 s2
  refine ⟨by omega, hus, hpal, by rw [ea]; exact isWB_bin hfb, by rw [ea]; exact has_part (by omega) (by omega), isWB_bin (bin_of (by omega) (fun j hj => ?_)), hcon, s9, s0, s2, ?_⟩
  · rw [b9] at hj
    by_cases c0 : j = 0
    · subst c0; exact .inr b0
    · by_cases c1 : j = n + 1
      · subst c1; exact .inr b2
      · have := b1 (j - 1) (by omega)
        rw [show j - 1 + 1 = j by omega] at this
        rw [this]
        exact hvb (j - 1) (by omega)
  · have e9 : ((sus ((s.extract i (i + (n + 2))).extract 1 (n + 1))).extract 1 (n + 1)).size = n := by
      rw [ByteArray.size_extract]
      unfold sus
      rw [s9]; omega
    refine eq_of_btB (by rw [e9, hus]) (fun t ht => ?_)
    rw [e9] at ht
    rw [bt_exB _ _ _ t (by rw [e9]; exact ht), Nat.add_comm 1 t]
    unfold sus
    exact s1 t ht
theorem wds_tab : ((List.range 6).all fun m => Nat.ble (wds 2 m).length 63) = true := by decide +kernel
theorem wds_63 {m : Nat} (h : m ≤ 5) : (wds 2 m).length ≤ 63 := ble_le ((List.all_eq_true.1 wds_tab) m (List.mem_range.2 (by omega)))
theorem filt_next (L : List ByteArray) (p : ByteArray → Bool) (k : Nat) (h : k < L.length) : ((L.take (k + 1)).filter p).length = ((L.take k).filter p).length + (if p (L.getD k ByteArray.empty) then 1 else 0) := by
  rw [List.take_add_one, List.getElem?_eq_getElem h, List.filter_append, List.length_append]
  congr 1
  have e : L.getD k ByteArray.empty = L[k] := by rw [List.getD_eq_getElem?_getD, List.getElem?_eq_getElem h]; rfl
  rw [e]
  cases hp : p L[k] <;> simp [hp]
end Go.Proofs.Ytilbhingfnjppab
