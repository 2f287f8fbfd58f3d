/- Parents, in plain lists: marked images, cuts, injective substitutions, ancestors, parts. -/
import Derived.Test.YtilbhingfnjppabPlB
import Derived.Test.YtilbhingfnjppabCuts
import Derived.Test.YtilbhingfnjppabPPB
import Derived.Test.YtilbhingfnjppabInjP
set_option linter.unusedSimpArgs false
set_option linter.unusedVariables false
namespace Go.Proofs.Ytilbhingfnjppab
open Go.RowKit
/-! ### Marked images: one parent alone -/
theorem mkd_inj {zs : List ByteArray} (h : mkd zs = true) {i j : Nat} (hi : i < zs.length) (hj : j < zs.length) (e : lzb (im1 zs i) = lzb (im1 zs j)) : i = j := by
  have key : ∀ i j, i < j → j < zs.length → lzb (im1 zs i) = lzb (im1 zs j) → False := fun i j hij hj e => by
    have h2 : (lzs zs j).contains (lzb (im1 zs j)) = false := by
      unfold mkd at h
      have := List.all_eq_true.1 h j (List.mem_range.2 hj)
      simpa [im1] using this
    have h3 : lzb (im1 zs j) ∈ lzs zs j := by
      unfold lzs
      rw [← e]
      refine List.mem_map.2 ⟨im1 zs i, ?_, rfl⟩
      unfold im1
      rw [List.getD_eq_getElem?_getD, List.getElem?_eq_getElem (by omega)]
      exact List.mem_take_iff_getElem.2 ⟨i, by omega, rfl⟩
    rw [List.contains_iff_mem.2 h3] at h2
    cases h2
  rcases Nat.lt_trichotomy i j with q | q | q
  · exact (key i j q hj e).elim
  · exact q
  · exact (key j i q hi e.symm).elim
theorem bt_exq {s : ByteArray} {p q j : Nat} (hq : q ≤ s.size) (hj : j < q - p) : bt (s.extract p q) j = bt s (p + j) := by
  have h1 : j < (s.extract p q).size := by simp; omega
  unfold bt
  rw [dif_pos h1, dif_pos (by omega)]
  simp [ByteArray.getElem_extract]
theorem hit_last {zs : List ByteArray} (hS : sB zs = true) {s : ByteArray} {k m : Nat} (hk : k < zs.length) (h : hitP s (im1 zs k) m = true) : ((lzb (im1 zs k)).toNat : Int) = bt s (m + (im1 zs k).size - 1) := by
  obtain ⟨h1, h2⟩ := hit_iff.1 h
  have h3 := im1_ge hS hk
  rw [lzb_bt]
  have := bt_exq (s := s) (p := m) (q := m + (im1 zs k).size) (j := (im1 zs k).size - 1) h1 (by omega)
  rw [h2] at this
  rw [this]; congr 1; omega
theorem mark_one {zs : List ByteArray} (hS : sB zs = true) (hM : mkd zs = true) {s : ByteArray} : ∀ (c q : Nat) (ks js : List Nat), q ≤ c → q ≤ s.size → prt zs s 0 ks q → prt zs s 0 js q → ks = js
  | 0, q, ks, js, hc, _, h1, h2 => by
    obtain rfl : q = 0 := by omega
    rw [prt_end hS h1, prt_end hS h2]
  | c + 1, q, ks, js, hc, hq, h1, h2 => by
    by_cases e : q = 0
    · subst e; rw [prt_end hS h1, prt_end hS h2]
    · have ne : ∀ {ks}, prt zs s 0 ks q → ks ≠ [] := fun {ks} h e' => by subst e'; have h : 0 = q := h; omega
      obtain ⟨ks', k, rfl⟩ : ∃ ks' k, ks = ks' ++ [k] := ⟨ks.dropLast, ks.getLast (ne h1), (List.dropLast_concat_getLast (ne h1)).symm⟩
      obtain ⟨js', j, rfl⟩ : ∃ js' j, js = js' ++ [j] := ⟨js.dropLast, js.getLast (ne h2), (List.dropLast_concat_getLast (ne h2)).symm⟩
      obtain ⟨m, a1, a2⟩ := prt_split h1
      obtain ⟨m', b1, b2⟩ := prt_split h2
      have a4 : m + (im1 zs k).size = q := a2.2.2
      have b4 : m' + (im1 zs j).size = q := b2.2.2
      have l1 := hit_last hS a2.1 a2.2.1
      have l2 := hit_last hS b2.1 b2.2.1
      rw [a4] at l1
      rw [b4] at l2
      have e2 : k = j := mkd_inj hM a2.1 b2.1 (UInt8.toNat_inj.1 (by omega))
      subst e2
      have hk := im1_ge hS a2.1
      obtain rfl : m = m' := by omega
      rw [mark_one hS hM c m ks' js' (by omega) (by omega) a1 b1]
theorem mark_count {zs : List ByteArray} (hS : sB zs = true) (hM : mkd zs = true) {s : ByteArray} (h : 0 < Wy zs s 0) : Wy zs s 0 = 1 := by
  rcases Int.lt_or_le (Wy zs s 0) 2 with q | q
  · omega
  · obtain ⟨ks, js, hne, h1, h2⟩ := Wy_two hS s.size 0 (by omega) (by omega) q
    exact (hne (mark_one hS hM s.size s.size ks js (Nat.le_refl _) (Nat.le_refl _) h1 h2)).elim
/-! ### Cuts -/
theorem rset_getD {rs : List Bool} {i j : Nat} : (rs.set i true).getD j false = (rs.getD j false || (decide (i = j) && decide (j < rs.length))) := by
  rw [List.getD_eq_getElem?_getD, List.getD_eq_getElem?_getD, List.getElem?_set]
  by_cases e : i = j
  · subst e
    by_cases h : i < rs.length
    · simp [h]
    · simp [h]
  · simp [e]
theorem rfold_mono {s : ByteArray} {i j : Nat} : ∀ (zs : List ByteArray) (rs : List Bool), rs.getD j false = true → (zs.foldl (rst s i) rs).getD j false = true
  | [], _, h => h
  | z :: zs, rs, h => by
    rw [List.foldl_cons]
    refine rfold_mono zs _ ?_
    unfold rst; split
    · rw [rset_getD, h]; rfl
    · exact h
theorem rfold_hit {s : ByteArray} {i : Nat} {z : ByteArray} (hh : hitP s z i = true) : ∀ (zs : List ByteArray) (rs : List Bool), i + z.size < rs.length → z ∈ zs → (zs.foldl (rst s i) rs).getD (i + z.size) false = true
  | [], _, _, h => by cases h
  | y :: zs, rs, hl, h => by
    rw [List.foldl_cons]
    rcases List.mem_cons.1 h with rfl | h
    · refine rfold_mono zs _ ?_
      unfold rst
      rw [if_pos hh, rset_getD]; simp [hl]
    · exact rfold_hit hh zs _ (by rw [rst_len]; exact hl) h
theorem rfold_from {s : ByteArray} {i j : Nat} : ∀ (zs : List ByteArray) (rs : List Bool), (zs.foldl (rst s i) rs).getD j false = true → rs.getD j false = true ∨ ∃ z ∈ zs, hitP s z i = true ∧ i + z.size = j
  | [], _, h => .inl h
  | z :: zs, rs, h => by
    rw [List.foldl_cons] at h
    rcases rfold_from zs _ h with h | ⟨y, h1, h2⟩
    · unfold rst at h
      split at h
      · rename_i hh
        rw [rset_getD, Bool.or_eq_true, Bool.and_eq_true, decide_eq_true_eq] at h
        rcases h with h | h
        · exact .inl h
        · exact .inr ⟨z, by simp, hh, h.1⟩
      · exact .inl h
    · exact .inr ⟨y, by simp [h1], h2⟩
theorem mem_im1 {zs : List ByteArray} {z : ByteArray} (h : z ∈ zs) : ∃ k, k < zs.length ∧ im1 zs k = z := by
  obtain ⟨k, hk, e⟩ := List.getElem_of_mem h
  exact ⟨k, hk, by unfold im1; rw [List.getD_eq_getElem?_getD, List.getElem?_eq_getElem hk]; exact e⟩
theorem im1_mem {zs : List ByteArray} {k : Nat} (hk : k < zs.length) : im1 zs k ∈ zs := by
  unfold im1
  rw [List.getD_eq_getElem?_getD, List.getElem?_eq_getElem hk]; exact List.getElem_mem _
/-- What was reached can be made from the start. -/
theorem cs_reach {zs : List ByteArray} {s : ByteArray} : ∀ k j, (cs s zs k).1.getD j false = true → ∃ ks, prt zs s 0 ks j
  | 0, j, h => by
    simp only [cs] at h
    rw [rset_getD, Bool.or_eq_true] at h
    rcases h with h | h
    · rw [List.getD_eq_getElem?_getD, List.getElem?_replicate] at h
      split at h <;> simp at h
    · simp at h; exact ⟨[], h.1⟩
  | k + 1, j, h => by
    simp only [cs, cut1] at h
    split at h
    · rename_i hc
      rcases rfold_from zs _ h with h | ⟨z, hz, hh, e⟩
      · exact cs_reach k j h
      · obtain ⟨ks, hk⟩ := cs_reach k k hc.1
        obtain ⟨i, hi, rfl⟩ := mem_im1 hz
        exact ⟨ks ++ [i], prt_app hk ⟨hi, hh, e⟩⟩
    · exact cs_reach k j h
theorem cs_mono1 {zs : List ByteArray} {s : ByteArray} {j : Nat} : ∀ {k m}, k ≤ m → (cs s zs k).1.getD j false = true → (cs s zs m).1.getD j false = true := by
  intro k m h hr
  induction h with
  | refl => exact hr
  | step _ ih =>
    simp only [cs, cut1]
    split
    · exact rfold_mono zs _ ih
    · exact ih
theorem cs_mono2 {zs : List ByteArray} {s : ByteArray} {x : Int} : ∀ {k m}, k ≤ m → x ∈ (cs s zs k).2 → x ∈ (cs s zs m).2 := by
  intro k m h hr
  induction h with
  | refl => exact hr
  | step _ ih =>
    simp only [cs, cut1]
    split
    · exact List.mem_append_left _ ih
    · exact ih
theorem cs_in {zs : List ByteArray} {s : ByteArray} : ∀ k, ∀ x ∈ (cs s zs k).2, ∃ j : Nat, x = (j : Int) ∧ j < k ∧ (∃ ks, prt zs s 0 ks j) ∧ Wy zs s j ≠ 0
  | 0, x, h => by simp [cs] at h
  | k + 1, x, h => by
    simp only [cs, cut1] at h
    split at h
    · rename_i hc
      rcases List.mem_append.1 h with h | h
      · obtain ⟨j, h1, h2, h3⟩ := cs_in k x h; exact ⟨j, h1, by omega, h3⟩
      · rw [List.mem_singleton] at h
        exact ⟨k, h, by omega, cs_reach k k hc.1, hc.2⟩
    · obtain ⟨j, h1, h2, h3⟩ := cs_in k x h; exact ⟨j, h1, by omega, h3⟩
theorem cs_nodup {zs : List ByteArray} {s : ByteArray} : ∀ k, (cs s zs k).2.Nodup
  | 0 => by simp [cs]
  | k + 1 => by
    simp only [cs, cut1]
    split
    · rw [List.nodup_append]
      refine ⟨cs_nodup k, by simp, fun a ha b hb => ?_⟩
      rw [List.mem_singleton] at hb; subst hb
      obtain ⟨j, h1, h2, _⟩ := cs_in k a ha
      omega
    · exact cs_nodup k
/-- A place that can be made from the start, and whose rest can be made, is a cut. -/
theorem cs_has {zs : List ByteArray} (hS : sB zs = true) {s : ByteArray} : ∀ (c j : Nat) (ks js : List Nat), ks.length ≤ c → j ≤ s.size → prt zs s 0 ks j → prt zs s j js s.size → (cs s zs j).1.getD j false = true ∧ (j : Int) ∈ (cs s zs (s.size + 1)).2 := by
  have fin : ∀ (j : Nat) (js : List Nat), j ≤ s.size → prt zs s j js s.size → (cs s zs j).1.getD j false = true → (cs s zs (j + 1)).1 = zs.foldl (rst s j) (cs s zs j).1 ∧ (j : Int) ∈ (cs s zs (s.size + 1)).2 := fun j js hj h hr => by
    have hW := Wy_some hS hj h
    have hc : (cs s zs j).1.getD j false = true ∧ ¬ (wys s zs).getD j 0 = 0 := ⟨hr, by show ¬ Wy zs s j = 0; omega⟩
    have e : cs s zs (j + 1) = (zs.foldl (rst s j) (cs s zs j).1, (cs s zs j).2 ++ [(j : Int)]) := by
      rw [cs, cut1, if_pos hc]
    refine ⟨by rw [e], cs_mono2 (k := j + 1) (by omega) (by rw [e]; simp)⟩
  intro c
  induction c with
  | zero =>
    intro j ks js hc hj h1 h2
    have : ks = [] := List.length_eq_zero_iff.1 (by omega)
    subst this
    have h1 : 0 = j := h1
    subst h1
    have hr : (cs s zs 0).1.getD 0 false = true := by simp only [cs]; rw [rset_getD]; simp
    exact ⟨hr, (fin 0 js hj h2 hr).2⟩
  | succ c ih =>
    intro j ks js hc hj h1 h2
    by_cases hks : ks = []
    · subst hks
      exact ih j [] js (by simp) hj h1 h2
    · obtain ⟨ks', k, rfl⟩ : ∃ ks' k, ks = ks' ++ [k] := ⟨ks.dropLast, ks.getLast hks, (List.dropLast_concat_getLast hks).symm⟩
      obtain ⟨m, a1, a2⟩ := prt_split h1
      have a4 : m + (im1 zs k).size = j := a2.2.2
      have hm := (hit_iff.1 a2.2.1).1
      have h3 : prt zs s m (k :: js) s.size := ⟨a2.1, a2.2.1, by rw [a4]; exact h2⟩
      have hg := im1_ge hS a2.1
      obtain ⟨r1, _⟩ := ih m ks' (k :: js) (by simp at hc; omega) (by omega) a1 h3
      obtain ⟨e, _⟩ := fin m (k :: js) (by omega) h3 r1
      have hr : (cs s zs (m + 1)).1.getD j false = true := by
        rw [e, ← a4]
        exact rfold_hit a2.2.1 zs _ (by rw [(cs_len s zs m).1]; omega) (im1_mem a2.1)
      have hr' := cs_mono1 (k := m + 1) (m := j) (by omega) hr
      exact ⟨hr', (fin j js hj h2 hr').2⟩
theorem nodup_sub {α : Type} : ∀ (a b : List α), a.Nodup → (∀ x ∈ a, x ∈ b) → a.length ≤ b.length
  | [], _, _, _ => Nat.zero_le _
  | x :: a, b, hn, h => by
    rw [List.nodup_cons] at hn
    obtain ⟨b1, b2, rfl⟩ := List.append_of_mem (h x (by simp))
    have := nodup_sub a (b1 ++ b2) hn.2 (fun y hy => by
      have h1 := h y (by simp [hy])
      rw [List.mem_append, List.mem_cons] at h1
      rcases h1 with h1 | h1 | h1
      · exact List.mem_append_left _ h1
      · subst h1; exact (hn.1 hy).elim
      · exact List.mem_append_right _ h1)
    simp at this ⊢; omega
/-- Where the images of the first j letters end. -/
def cut (zs : List ByteArray) (d : ByteArray) (j : Nat) : Nat := (cc d zs j).size
theorem cut_prt {zs : List ByteArray} {s d : ByteArray} (hd : letP zs.length d) (h : img zs d = s) (j : Nat) (hj : j ≤ d.size) : prt zs s 0 ((lts d).take j) (cut zs d j) ∧ prt zs s (cut zs d j) ((lts d).drop j) s.size := by
  have hw := whole_of hd h
  have e := prt_split (zs := zs) (s := s) (ks := (lts d).take j) (js := (lts d).drop j) (p := 0) (q := s.size) (by rw [List.take_append_drop]; exact hw)
  obtain ⟨m, h1, h2⟩ := e
  have hm : m = cut zs d j := by
    have key : ∀ {ks : List Nat} {p m}, prt zs s p ks m → m = p + (im zs ks).size := by
      intro ks
      induction ks with
      | nil => intro p m h; have h : p = m := h; rw [h]; rfl
      | cons k ks ih => intro p m h; rw [ih h.2.2, im, ByteArray.size_append]; omega
    have e1 := key h1
    have e2 := cc_im zs d j 0
    rw [Nat.zero_add] at e2
    unfold cut
    rw [← e2, e1]
    have e3 : (lts d).take j = (List.range' 0 j).map (lt d) := by
      unfold lts
      rw [← List.map_take, List.take_range, Nat.min_eq_left hj, List.range_eq_range']
    rw [e3]
    have : cc d zs 0 = ⟨#[]⟩ := rfl
    rw [this, eapp, Nat.zero_add]
  subst hm
  exact ⟨h1, h2⟩
theorem cut_lt {zs : List ByteArray} (hS : sB zs = true) {d : ByteArray} (hd : letP zs.length d) {j : Nat} (hj : j < d.size) : cut zs d j < cut zs d (j + 1) := by
  unfold cut
  rw [cc_succ, ByteArray.size_append]
  have := im1_ge hS (hd j hj).2
  unfold im1 at this
  omega
theorem cut_mono {zs : List ByteArray} (hS : sB zs = true) {d : ByteArray} (hd : letP zs.length d) {i j : Nat} (hij : i < j) (hj : j ≤ d.size) : cut zs d i < cut zs d j := by
  induction hij with
  | refl => exact cut_lt hS hd (by omega)
  | @step m _ ih => have h1 := ih (by omega); have h2 := cut_lt hS hd (j := m) (by omega); exact Nat.lt_trans h1 h2
def cutL (zs : List ByteArray) (d : ByteArray) : List Int := (List.range (d.size + 1)).map (fun j => (cut zs d j : Int))
theorem cutL_nodup {zs : List ByteArray} (hS : sB zs = true) {d : ByteArray} (hd : letP zs.length d) : (cutL zs d).Nodup := by
  unfold cutL
  rw [List.nodup_iff_pairwise_ne, List.pairwise_map]
  have := List.pairwise_lt_range (n := d.size + 1)
  refine List.Pairwise.imp_of_mem (fun {a b} ha hb h => ?_) this
  rw [List.mem_range] at ha hb
  have := cut_mono hS hd h (by omega)
  omega
theorem cut_le {zs : List ByteArray} {s d : ByteArray} (hd : letP zs.length d) (h : img zs d = s) (j : Nat) (hj : j ≤ d.size) : cut zs d j ≤ s.size := prt_in (cut_prt hd h j hj).1 (Nat.zero_le _)
theorem cuts_has {zs : List ByteArray} (hS : sB zs = true) {s d : ByteArray} (hd : letP zs.length d) (h : img zs d = s) (j : Nat) (hj : j ≤ d.size) : ((cut zs d j : Nat) : Int) ∈ (cs s zs (s.size + 1)).2 := by
  obtain ⟨h1, h2⟩ := cut_prt hd h j hj
  exact (cs_has hS _ _ _ _ (Nat.le_refl _) (cut_le hd h j hj) h1 h2).2
theorem cuts_ge {zs : List ByteArray} (hS : sB zs = true) {s d : ByteArray} (hd : letP zs.length d) (h : img zs d = s) : d.size + 1 ≤ (cs s zs (s.size + 1)).2.length := by
  have := nodup_sub (cutL zs d) _ (cutL_nodup hS hd) (fun x hx => by
    obtain ⟨j, hj, rfl⟩ := List.mem_map.1 hx
    exact cuts_has hS hd h j (by rw [List.mem_range] at hj; omega))
  simpa [cutL] using this
theorem cuts_one {zs : List ByteArray} (hS : sB zs = true) {s d : ByteArray} (hd : letP zs.length d) (h : img zs d = s) (h1 : Wy zs s 0 = 1) : (cs s zs (s.size + 1)).2.length = d.size + 1 := by
  refine Nat.le_antisymm ?_ (cuts_ge hS hd h)
  have := nodup_sub _ (cutL zs d) (cs_nodup (s := s) (zs := zs) (s.size + 1)) (fun x hx => by
    obtain ⟨j, rfl, hj, ⟨ks, hk⟩, hW⟩ := cs_in _ x hx
    have hl := Wy_low zs s j
    obtain ⟨js, hjs⟩ := Wy_way (s := s) hS s.size j (by omega) (by omega) (by omega)
    have e := Wy_one hS (Nat.zero_le _) h1 (prt_app hk hjs) (whole_of hd h)
    have hlen : ks.length ≤ d.size := by
      have := congrArg List.length e
      rw [List.length_append, lts_len] at this; omega
    have e2 : (lts d).take ks.length = ks := by rw [← e, List.take_left']; rfl
    have h3 := (cut_prt hd h ks.length hlen).1
    rw [e2] at h3
    have key : ∀ {ks : List Nat} {p m m'}, prt zs s p ks m → prt zs s p ks m' → m = m' := by
      intro ks
      induction ks with
      | nil => intro p m m' h h'; have h : p = m := h; have h' : p = m' := h'; omega
      | cons k ks ih => intro p m m' h h'; exact ih h.2.2 h'.2.2
    have e3 := key hk h3
    exact List.mem_map.2 ⟨ks.length, by rw [List.mem_range]; omega, by rw [e3]⟩)
  simpa [cutL] using this
end Go.Proofs.Ytilbhingfnjppab
