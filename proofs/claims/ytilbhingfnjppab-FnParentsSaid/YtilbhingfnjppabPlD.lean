/- Parents, in plain lists: what the law on parents asks. -/
import Derived.Test.YtilbhingfnjppabPlC
import Derived.Test.YtilbhingfnjppabInj
set_option linter.unusedSimpArgs false
set_option linter.unusedVariables false
namespace Go.Proofs.Ytilbhingfnjppab
open Go.RowKit
theorem wd_snoc (ks : List Nat) (k : Nat) : wd (ks ++ [k]) = wd ks ++ wd [k] := by
  apply ByteArray.ext
  simp [wd, ByteArray.data_append]
theorem letS_wd (k : Nat) (h : k < 4) : letS k = wd [k] := by
  match k, h with
  | 0, _ => decide
  | 1, _ => decide
  | 2, _ => decide
  | 3, _ => decide
theorem wd_lev {n : Nat} (hn : n ≤ 4) : ∀ (i : Nat) (ks : List Nat), ks.length = i → (∀ k ∈ ks, k < n) → wd ks ∈ lev n i
  | 0, ks, hl, _ => by
    have : ks = [] := List.length_eq_zero_iff.1 hl
    subst this
    simp [lev, wd]
  | i + 1, ks, hl, h => by
    have hne : ks ≠ [] := by intro e; subst e; simp at hl
    obtain ⟨js, k, rfl⟩ : ∃ js k, ks = js ++ [k] := ⟨ks.dropLast, ks.getLast hne, (List.dropLast_concat_getLast hne).symm⟩
    have hk := h k (by simp)
    have ih := wd_lev hn i js (by simpa using hl) (fun j hj => h j (by simp [hj]))
    rw [wd_snoc, ← letS_wd k (by omega)]
    unfold lev extL
    refine List.mem_flatMap.2 ⟨_, ih, ?_⟩
    unfold ext1
    exact List.mem_map.2 ⟨k, by simpa using hk, rfl⟩
theorem lev_wds (n : Nat) {j : Nat} {z : ByteArray} : ∀ {i}, j ≤ i → z ∈ lev n j → z ∈ wds n i
  | 0, h, hz => by
    obtain rfl : j = 0 := by omega
    exact hz
  | i + 1, h, hz => by
    rw [wds, List.mem_append]
    by_cases e : j = i + 1
    · subst e; exact .inr hz
    · exact .inl (lev_wds n (by omega) hz)
theorem nodup_map_inj {α β : Type} {f : α → β} {L : List α} (h : (L.map f).Nodup) {a b : α} (ha : a ∈ L) (hb : b ∈ L) (e : f a = f b) : a = b := by
  obtain ⟨i, hi, rfl⟩ := List.getElem_of_mem ha
  obtain ⟨j, hj, rfl⟩ := List.getElem_of_mem hb
  rw [List.nodup_iff_pairwise_ne, List.pairwise_iff_getElem] at h
  rcases Nat.lt_trichotomy i j with q | q | q
  · have := h i j (by simpa using hi) (by simpa using hj) q
    simp only [List.getElem_map] at this
    exact (this e).elim
  · subst q; rfl
  · have := h j i (by simpa using hj) (by simpa using hi) q
    simp only [List.getElem_map] at this
    exact (this e.symm).elim
theorem inj_two {zs : List ByteArray} (hS : sB zs = true) (hI : injB zs 2 = true) {a b : ByteArray} (ha : letP zs.length a) (hb : letP zs.length b) (sa : a.size ≤ 2) (sb : b.size ≤ 2) (e : img zs a = img zs b) : a = b := by
  have h4 := (s_of hS).1.2
  have hP : injP zs 2 := by simpa [injB] using hI
  have mem : ∀ {d : ByteArray}, letP zs.length d → d.size ≤ 2 → d ∈ wds zs.length 2 := fun {d} hd h2 => by
    rw [← wd_lts hd]
    exact lev_wds _ (j := d.size) h2 (wd_lev h4 d.size (lts d) (lts_len d) (lts_lt hd))
  exact nodup_map_inj hP (mem ha sa) (mem hb sb) e
/-! ### Ancestors -/
theorem itN_snoc {zs : List ByteArray} {b : ByteArray} (h : isWB (img zs b) = true) : ∀ {m : Nat} {a : ByteArray}, itN zs m a = some b → itN zs (m + 1) a = some (img zs b)
  | 0, a, ha => by
    have ha : a = b := by simpa [itN] using ha
    subst ha
    rw [itN_yes h]; rfl
  | m + 1, a, ha => by
    cases hw : isWB (img zs a)
    · rw [itN_no hw] at ha; cases ha
    · rw [itN_yes hw] at ha
      rw [itN_yes hw]
      exact itN_snoc h ha
theorem let_word {n : Nat} {z : ByteArray} (h : letP n z) (hs : z.size ≤ 400) : isWB z = true := by
  have : isWP z := ⟨hs, fun j hj => (h j hj).1⟩
  simp [isWB, this]
theorem par_let {zs : List ByteArray} (hS : sB zs = true) {s : ByteArray} (h0 : 0 < Wy zs s 0) : letP zs.length (⟨(par s zs).toArray⟩ : ByteArray) ∧ img zs ⟨(par s zs).toArray⟩ = s ∧ (par s zs).length ≤ s.size := by
  obtain ⟨ks, h1, h2, _⟩ := par_is hS h0
  rw [h1]
  refine ⟨wd_let hS (prt_lt h2), whole_img hS h2, ?_⟩
  have e : (par s zs).length = ks.length := by
    have := congrArg ByteArray.size h1
    rw [wd_size] at this
    simpa [ByteArray.size] using this
  have := prt_le hS h2
  omega
theorem anc_is {zs : List ByteArray} (hS : sB zs = true) : ∀ (f : Nat) (s : ByteArray) (n : Nat), letP zs.length s → s.size ≤ 400 → letP zs.length (anc zs f s n).1 ∧ (anc zs f s n).1.size ≤ s.size ∧ ∃ m, (anc zs f s n).2 = n + m ∧ itN zs m (anc zs f s n).1 = some s
  | 0, s, n, hl, _ => ⟨hl, Nat.le_refl _, 0, rfl, rfl⟩
  | f + 1, s, n, hl, hs => by
    cases hst : stopB zs s
    · rw [anc_go hst]
      unfold stopB at hst
      rw [Bool.or_eq_false_iff, decide_eq_false_iff_not, decide_eq_false_iff_not] at hst
      have hl0 := Wy_low zs s 0
      have h0 : 0 < Wy zs s 0 := by have : ¬ Wy zs s 0 = 0 := hst.1; omega
      obtain ⟨p1, p2, p3⟩ := par_let hS h0
      have hsz : (⟨(par s zs).toArray⟩ : ByteArray).size = (par s zs).length := by simp [ByteArray.size]
      obtain ⟨q1, q2, m, q3, q4⟩ := anc_is hS f ⟨(par s zs).toArray⟩ (n + 1) p1 (by omega)
      refine ⟨q1, by omega, m + 1, by omega, ?_⟩
      have := itN_snoc (zs := zs) (b := ⟨(par s zs).toArray⟩) (by rw [p2]; exact let_word hl hs) q4
      rw [this, p2]
    · rw [anc_stop hst]
      exact ⟨hl, Nat.le_refl _, 0, rfl, rfl⟩
theorem hiB_let {n : Nat} {z : ByteArray} (h : letP n z) (hs : z.size ≤ 400) : hiB n z = true := hiB_yes (hiP_of h hs)
theorem itO_is {zs : List ByteArray} (hS : sB zs = true) {a s : ByteArray} {m : Nat} (ha : letP zs.length a) (hs : a.size ≤ 400) (hm : m ≤ 20) (h : itN zs m a = some s) : itO zs a (m : Int) = some s := by
  unfold itO
  rw [hS, hiB_let ha hs, inB_true.2 ⟨by omega, by omega⟩]
  exact h
theorem itO_one {zs : List ByteArray} (hS : sB zs = true) {a : ByteArray} (ha : letP zs.length a) (hs : a.size ≤ 400) (hw : (img zs a).size ≤ 400) : itO zs a 1 = some (img zs a) := by
  have hW : isWB (img zs a) = true := let_word (letP_cc hS a a.size) hw
  exact itO_is hS (m := 1) ha hs (by omega) (by rw [itN_yes hW]; rfl)
/-! ### Parts -/
theorem pv_is {zs : List ByteArray} (hS : sB zs = true) {s : ByteArray} (h : pvB zs s = true) : 0 < Wy zs s 0 ∧ pvS zs s = ⟨(par s zs).toArray⟩ := by
  have e := pv_eq zs s
  have hl0 := Wy_low zs s 0
  by_cases h0 : (wys s zs).getD 0 0 = 0
  · rw [pa_no h0, h] at e
    simp at e
  · rw [pa_yes h0] at e
    have h1 : ¬ Wy zs s 0 = 0 := h0
    refine ⟨by omega, ?_⟩
    simp at e
    exact e.1.symm
theorem pv_yes {zs : List ByteArray} {s : ByteArray} (h : 0 < Wy zs s 0) : pvB zs s = true := by
  have e := pv_eq zs s
  have h0 : ¬ (wys s zs).getD 0 0 = 0 := by have : 0 < (wys s zs).getD 0 0 := h; omega
  rw [pa_yes h0] at e
  simp at e
  exact e.2
/-- A row of parts that fits. -/
def rowFit (zs : List ByteArray) (s : ByteArray) (l : List ByteArray) : Prop :=
  ∃ a b c m : ByteArray, l = [a, b, c] ∧ b.size ≤ 400 ∧ letP zs.length b ∧ img zs b = m ∧ m.size ≤ 400 ∧ (a ++ m) ++ c = s
theorem prow_fit {zs : List ByteArray} (hS : sB zs = true) {s : ByteArray} (hs : s.size ≤ 400) {k r : Nat} (h : phit zs s k r = true) : rowFit zs s (prow zs s k r) := by
  unfold phit at h
  rw [Bool.and_eq_true, decide_eq_true_eq] at h
  obtain ⟨hW, e⟩ := pv_is hS h.2
  obtain ⟨p1, p2, p3⟩ := par_let hS hW
  have hsz : (⟨(par (midS s k r) zs).toArray⟩ : ByteArray).size = (par (midS s k r) zs).length := by simp [ByteArray.size]
  have hm : (midS s k r).size ≤ s.size := by unfold midS; simp; omega
  refine ⟨_, _, _, midS s k r, rfl, by rw [e]; omega, by rw [e]; exact p1, by rw [e]; exact p2, by omega, ?_⟩
  unfold midS
  rw [exx (by omega) (by omega), exx (by omega) (by omega), exa]
theorem ppk_fit {zs : List ByteArray} (hS : sB zs = true) {s : ByteArray} (hs : s.size ≤ 400) {most k : Nat} : ∀ l ∈ ppk zs s most k, rowFit zs s l := by
  intro l hl
  unfold ppk at hl
  split at hl
  · rename_i r hr
    rw [List.mem_singleton] at hl
    subst hl
    exact prow_fit hS hs (List.find?_some hr)
  · cases hl
theorem prs_fit {zs : List ByteArray} (hS : sB zs = true) {s : ByteArray} (hs : s.size ≤ 400) {most : Nat} : ∀ k, ∀ l ∈ prs zs s most k, rowFit zs s l
  | 0, l, h => by cases h
  | k + 1, l, h => by
    rw [prs, List.mem_append] at h
    rcases h with h | h
    · exact prs_fit hS hs k l h
    · exact ppk_fit hS hs l h
theorem mx_pos {zs : List ByteArray} (hS : sB zs = true) : 1 ≤ mx zs := by
  have key : ∀ (l : List ByteArray) (m : Nat), m ≤ l.foldl (fun m z => max m z.size) m := by
    intro l
    induction l with
    | nil => intro m; exact Nat.le_refl _
    | cons a l ih => intro m; exact Nat.le_trans (Nat.le_max_left _ _) (ih _)
  have h1 := (s_of hS).1.1
  cases zs with
  | nil => simp at h1
  | cons z zs =>
    have h2 := ((s_of hS).2 0 (by simp)).1.1
    have h3 : 1 ≤ z.size := h2
    unfold mx
    rw [List.foldl_cons]
    exact Nat.le_trans (by show 1 ≤ max 0 z.size; omega) (key zs _)
theorem ppr_first {zs : List ByteArray} (hS : sB zs = true) {s : ByteArray} (h0 : 0 < Wy zs s 0) : ∃ R, ppr zs s = [⟨#[]⟩, ⟨(par s zs).toArray⟩, ⟨#[]⟩] :: R := by
  have hmid : midS s 0 0 = s := by unfold midS; rw [Nat.sub_zero, exa]
  have hp : phit zs s 0 0 = true := by
    unfold phit
    rw [hmid, pv_yes h0]; simp
  have hrow : prow zs s 0 0 = [⟨#[]⟩, ⟨(par s zs).toArray⟩, ⟨#[]⟩] := by
    unfold prow
    rw [hmid, (pv_is hS (pv_yes h0)).2, Nat.sub_zero, ex0, ex0]
  have hk : ppk zs s (mx zs) 0 = [prow zs s 0 0] := ppk_some (by have := mx_pos hS; omega) hp (fun j hj => by omega)
  have key : ∀ k, ∃ R, prs zs s (mx zs) (k + 1) = prow zs s 0 0 :: R := by
    intro k
    induction k with
    | zero => exact ⟨[], by rw [prs, prs, hk]; rfl⟩
    | succ k ih => obtain ⟨R, hR⟩ := ih; exact ⟨R ++ ppk zs s (mx zs) (k + 1), by rw [prs, hR]; rfl⟩
  have hM : ∃ q, pM zs s = q + 1 := ⟨pM zs s - 1, by have := mx_pos hS; unfold pM; omega⟩
  obtain ⟨q, hq⟩ := hM
  unfold ppr
  rw [hq, ← hrow]
  exact key q
end Go.Proofs.Ytilbhingfnjppab
