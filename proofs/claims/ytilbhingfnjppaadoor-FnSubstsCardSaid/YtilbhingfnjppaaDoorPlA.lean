/- Parents, in plain lists: the letters whose images make a word. -/
import Derived.Test.YtilbhingfnjppaaDoorParC
import Derived.Test.YtilbhingfnjppaaDoorItr
set_option linter.unusedSimpArgs false
set_option linter.unusedVariables false
namespace Go.Proofs.YtilbhingfnjppaaDoor
open Go.RowKit
theorem bt_list (l : List UInt8) (j : Nat) (h : j < l.length) : bt ⟨l.toArray⟩ j = ((l.getD j 0).toNat : Int) := by
  have : j < (⟨l.toArray⟩ : ByteArray).size := by simpa [ByteArray.size] using h
  simp [bt, this, ByteArray.getElem_eq_getElem_data, List.getD_eq_getElem?_getD, h]
theorem ba_of_list {a b : ByteArray} (h : a.toList = b.toList) : a = b := by
  rw [ByteArray.toList_eq, ByteArray.toList_eq] at h
  exact ByteArray.ext (Array.toList_inj.1 h)
theorem hit_iff {s v : ByteArray} {p : Nat} : hitP s v p = true ↔ p + v.size ≤ s.size ∧ s.extract p (p + v.size) = v := by
  unfold hitP
  rw [Bool.and_eq_true, decide_eq_true_eq, beq_iff_eq]
  constructor
  · rintro ⟨h1, h2⟩; exact ⟨h1, ba_of_list h2⟩
  · rintro ⟨h1, h2⟩; exact ⟨h1, by rw [h2]⟩
/-- An image. -/
def im1 (zs : List ByteArray) (k : Nat) : ByteArray := zs.getD k ByteArray.empty
/-- The letters ks name images that lie one after the other from p to q. -/
def prt (zs : List ByteArray) (s : ByteArray) : Nat → List Nat → Nat → Prop
  | p, [], q => p = q
  | p, k :: ks, q => k < zs.length ∧ hitP s (im1 zs k) p = true ∧ prt zs s (p + (im1 zs k).size) ks q
theorem prt_app {zs : List ByteArray} {s : ByteArray} {m q : Nat} {js : List Nat} : ∀ {ks : List Nat} {p : Nat}, prt zs s p ks m → prt zs s m js q → prt zs s p (ks ++ js) q
  | [], p, h, h2 => by cases h; exact h2
  | k :: ks, p, h, h2 => ⟨h.1, h.2.1, prt_app h.2.2 h2⟩
theorem prt_split {zs : List ByteArray} {s : ByteArray} {q : Nat} {js : List Nat} : ∀ {ks : List Nat} {p : Nat}, prt zs s p (ks ++ js) q → ∃ m, prt zs s p ks m ∧ prt zs s m js q
  | [], p, h => ⟨p, rfl, h⟩
  | k :: ks, p, h => by
    obtain ⟨m, h1, h2⟩ := prt_split h.2.2
    exact ⟨m, ⟨h.1, h.2.1, h1⟩, h2⟩
theorem im1_ge {zs : List ByteArray} (hS : sB zs = true) {k : Nat} (hk : k < zs.length) : 1 ≤ (im1 zs k).size := ((s_of hS).2 k hk).1.1
theorem prt_le {zs : List ByteArray} (hS : sB zs = true) {s : ByteArray} {q : Nat} : ∀ {ks : List Nat} {p : Nat}, prt zs s p ks q → p + ks.length ≤ q
  | [], p, h => by cases h; simp
  | k :: ks, p, h => by
    have h1 := prt_le hS h.2.2
    have h2 := im1_ge hS h.1
    simp; omega
theorem prt_in {zs : List ByteArray} {s : ByteArray} {q : Nat} : ∀ {ks : List Nat} {p : Nat}, prt zs s p ks q → p ≤ s.size → q ≤ s.size
  | [], p, h, hp => by cases h; exact hp
  | k :: ks, p, h, hp => prt_in h.2.2 (hit_iff.1 h.2.1).1
theorem prt_lt {zs : List ByteArray} {s : ByteArray} {q : Nat} : ∀ {ks : List Nat} {p : Nat}, prt zs s p ks q → ∀ k ∈ ks, k < zs.length
  | [], _, _ => by simp
  | k :: ks, p, h => by
    intro j hj
    rcases List.mem_cons.1 hj with rfl | hj
    · exact h.1
    · exact prt_lt h.2.2 j hj
theorem prt_end {zs : List ByteArray} (hS : sB zs = true) {s : ByteArray} {ks : List Nat} {q : Nat} (h : prt zs s q ks q) : ks = [] := by
  have := prt_le hS h
  exact List.length_eq_zero_iff.1 (by omega)
/-- The images of letters. -/
def im (zs : List ByteArray) : List Nat → ByteArray
  | [] => ⟨#[]⟩
  | k :: ks => im1 zs k ++ im zs ks
theorem eapp (a : ByteArray) : (⟨#[]⟩ : ByteArray) ++ a = a := by apply ByteArray.ext; simp
theorem appe (a : ByteArray) : a ++ (⟨#[]⟩ : ByteArray) = a := by apply ByteArray.ext; simp
theorem exx {s : ByteArray} {i j k : Nat} (h1 : i ≤ j) (h2 : j ≤ k) : s.extract i j ++ s.extract j k = s.extract i k := by
  apply ByteArray.ext
  simp [ByteArray.data_append, ByteArray.data_extract, Nat.min_eq_left h1, Nat.max_eq_right h2]
theorem ex0 {s : ByteArray} {i : Nat} : s.extract i i = ⟨#[]⟩ := by apply ByteArray.ext; simp
theorem exa {s : ByteArray} : s.extract 0 s.size = s := by apply ByteArray.ext; simp
theorem prt_im {zs : List ByteArray} (hS : sB zs = true) {s : ByteArray} {q : Nat} : ∀ {ks : List Nat} {p : Nat}, prt zs s p ks q → s.extract p q = im zs ks
  | [], p, h => by cases h; exact ex0
  | k :: ks, p, h => by
    have h1 := prt_im hS h.2.2
    have h2 := (hit_iff.1 h.2.1).2
    have h3 := prt_le hS h.2.2
    rw [im, ← h1, ← exx (i := p) (j := p + (im1 zs k).size) (k := q) (by omega) (by omega), h2]
/-- The letters of a word, as numbers; a word of letters. -/
def lts (d : ByteArray) : List Nat := (List.range d.size).map (lt d)
def wd (ks : List Nat) : ByteArray := ⟨(ks.map (fun k => 97 + UInt8.ofNat k)).toArray⟩
theorem lts_len (d : ByteArray) : (lts d).length = d.size := by simp [lts]
theorem wd_size (ks : List Nat) : (wd ks).size = ks.length := by simp [wd, ByteArray.size]
theorem u8l (k : Nat) (h : k < 4) : (97 + UInt8.ofNat k).toNat = 97 + k := by
  match k, h with
  | 0, _ => rfl
  | 1, _ => rfl
  | 2, _ => rfl
  | 3, _ => rfl
theorem bt_wd {ks : List Nat} (h : ∀ k ∈ ks, k < 4) (j : Nat) (hj : j < ks.length) : bt (wd ks) j = 97 + (ks.getD j 0 : Nat) := by
  unfold wd
  rw [bt_list _ j (by simpa using hj)]
  have e : (ks.map (fun k => 97 + UInt8.ofNat k)).getD j 0 = 97 + UInt8.ofNat (ks[j]) := by
    rw [List.getD_eq_getElem?_getD, List.getElem?_map, List.getElem?_eq_getElem hj]; rfl
  rw [e, u8l _ (h _ (List.getElem_mem hj)), List.getD_eq_getElem?_getD, List.getElem?_eq_getElem hj]
  simp
theorem lt_wd {ks : List Nat} (h : ∀ k ∈ ks, k < 4) (j : Nat) (hj : j < ks.length) : lt (wd ks) j = ks.getD j 0 := by
  unfold lt; rw [bt_wd h j hj]; omega
theorem lts_wd {ks : List Nat} (h : ∀ k ∈ ks, k < 4) : lts (wd ks) = ks := by
  apply List.ext_getElem
  · rw [lts_len, wd_size]
  · intro j h1 h2
    have e := lt_wd h j h2
    simp only [lts, List.getElem_map, List.getElem_range]
    rw [e, List.getD_eq_getElem?_getD, List.getElem?_eq_getElem h2]; rfl
theorem wd_lts {n : Nat} {d : ByteArray} (h : letP n d) : wd (lts d) = d := by
  apply ByteArray.ext
  apply Array.ext
  · show (wd (lts d)).size = d.size
    rw [wd_size, lts_len]
  · intro j h1 h2
    have hj : j < d.size := h2
    obtain ⟨hl, _⟩ := h j hj
    obtain ⟨e1, e2⟩ := lt_eq hl
    have e3 : ((wd (lts d)).data[j]'h1) = 97 + UInt8.ofNat (lt d j) := by
      simp [wd, lts]
    rw [e3]
    have e4 := bt_eq d j hj
    rw [e1] at e4
    exact UInt8.toNat_inj.1 (by rw [u8l _ (by omega)]; show _ = (d[j]'hj).toNat; omega)
theorem lts_lt {n : Nat} {d : ByteArray} (h : letP n d) : ∀ k ∈ lts d, k < n := by
  intro k hk
  obtain ⟨j, hj, rfl⟩ := List.mem_map.1 hk
  exact (h j (by simpa using hj)).2
theorem cc_im (zs : List ByteArray) (d : ByteArray) : ∀ m j, cc d zs j ++ im zs ((List.range' j m).map (lt d)) = cc d zs (j + m)
  | 0, j => by simp [im, appe]
  | m + 1, j => by
    rw [List.range'_succ, List.map_cons, im, ← ByteArray.append_assoc, show j + (m + 1) = (j + 1) + m by omega, ← cc_im zs d m (j + 1), cc_succ]; rfl
theorem img_im (zs : List ByteArray) (d : ByteArray) : img zs d = im zs (lts d) := by
  have := cc_im zs d d.size 0
  rw [Nat.zero_add] at this
  unfold img lts
  rw [← this, List.range_eq_range']
  exact (eapp _).symm
/-- Letters whose images make the whole word. -/
def whole (zs : List ByteArray) (s : ByteArray) (ks : List Nat) : Prop := prt zs s 0 ks s.size
theorem im_prt {zs : List ByteArray} {s : ByteArray} : ∀ {ks : List Nat} {a : ByteArray}, (∀ k ∈ ks, k < zs.length) → s = a ++ im zs ks → prt zs s a.size ks s.size
  | [], a, _, h => by rw [im, appe] at h; rw [h]; rfl
  | k :: ks, a, hk, h => by
    have h2 : s = (a ++ im1 zs k) ++ im zs ks := by rw [h, im, ByteArray.append_assoc]
    refine ⟨hk k (by simp), hit_iff.2 ⟨?_, ?_⟩, ?_⟩
    · rw [h2, ByteArray.size_append, ByteArray.size_append]; omega
    · rw [h2]
      apply ByteArray.ext
      simp only [ByteArray.data_extract, ByteArray.data_append]
      apply Array.ext
      · simp
      · intro i h1 h2'
        have e1 : a.data.size = a.size := rfl
        have e2 : (im1 zs k).data.size = (im1 zs k).size := rfl
        rw [Array.getElem_extract, Array.getElem_append_left (by simp; omega), Array.getElem_append_right (by omega)]
        congr 1; omega
    · have := im_prt (ks := ks) (a := a ++ im1 zs k) (fun j hj => hk j (by simp [hj])) h2
      rwa [ByteArray.size_append] at this
theorem whole_of {zs : List ByteArray} {s d : ByteArray} (hd : letP zs.length d) (h : img zs d = s) : whole zs s (lts d) := by
  have := im_prt (zs := zs) (s := s) (ks := lts d) (a := ⟨#[]⟩) (lts_lt hd) (by rw [eapp, ← img_im, h])
  exact this
theorem whole_img {zs : List ByteArray} (hS : sB zs = true) {s : ByteArray} {ks : List Nat} (h : whole zs s ks) : img zs (wd ks) = s := by
  have h4 : ∀ k ∈ ks, k < 4 := fun k hk => by have := prt_lt h k hk; have := (s_of hS).1.2; omega
  rw [img_im, lts_wd h4, ← prt_im hS h]; exact exa
theorem wd_let {zs : List ByteArray} (hS : sB zs = true) {ks : List Nat} (h : ∀ k ∈ ks, k < zs.length) : letP zs.length (wd ks) := by
  have h4 : ∀ k ∈ ks, k < 4 := fun k hk => by have := h k hk; have := (s_of hS).1.2; omega
  intro i hi
  rw [wd_size] at hi
  have hm : ks.getD i 0 ∈ ks := by rw [List.getD_eq_getElem?_getD, List.getElem?_eq_getElem hi]; exact List.getElem_mem _
  refine ⟨?_, by rw [lt_wd h4 i hi]; exact h _ hm⟩
  have := h4 _ hm
  unfold inL; rw [bt_wd h4 i hi]; omega
end Go.Proofs.YtilbhingfnjppaaDoor
