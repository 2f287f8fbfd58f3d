/- Plain laws of substitutions: words one behind the other, turned, composed; texts; uniform ones; codes. No program in sight. -/
import Derived.Test.YtilbhingfnjppaaDoorPlB
import Derived.Test.YtilbhingfnjppaaDoorUnf
import Derived.Test.YtilbhingfnjppaaDoorRtB
set_option linter.unusedSimpArgs false
set_option linter.unusedVariables false
namespace Go.Proofs.YtilbhingfnjppaaDoor
open Go.RowKit
def tl (s : ByteArray) : List UInt8 := s.data.toList
theorem tl_len (s : ByteArray) : (tl s).length = s.size := Array.length_toList
theorem tl_ext {a b : ByteArray} (h : tl a = tl b) : a = b := ByteArray.ext (Array.toList_inj.1 h)
theorem tl_app (a b : ByteArray) : tl (a ++ b) = tl a ++ tl b := by simp [tl]
theorem tl_mk (l : List UInt8) : tl ⟨l.toArray⟩ = l := rfl
theorem tl_at (s : ByteArray) (j : Nat) (h : j < s.size) : bt s j = (((tl s)[j]'(by rw [tl_len]; exact h)).toNat : Int) := (bt_eq s j h).symm
def lf (b : UInt8) : Nat := ((b.toNat : Int) - 97).toNat
theorem lts_tl (d : ByteArray) : lts d = (tl d).map lf := by
  apply List.ext_getElem (by rw [lts_len, List.length_map, tl_len])
  intro j h1 h2
  have hj : j < d.size := by rw [lts_len] at h1; exact h1
  have e := tl_at d j hj
  simp only [lts, List.getElem_map, List.getElem_range]
  unfold lf
  rw [← e]
  rfl
theorem tl_im (zs : List ByteArray) : ∀ ks : List Nat, tl (im zs ks) = ks.flatMap (fun k => tl (im1 zs k))
  | [] => rfl
  | k :: ks => by rw [im, tl_app, tl_im zs ks, List.flatMap_cons]
theorem tl_img (zs : List ByteArray) (d : ByteArray) : tl (img zs d) = (lts d).flatMap (fun k => tl (im1 zs k)) := by rw [img_im, tl_im]
theorem img_app (zs : List ByteArray) (v w : ByteArray) : img zs (v ++ w) = img zs v ++ img zs w := by
  apply tl_ext
  rw [tl_app, tl_img, tl_img, tl_img, lts_tl, lts_tl, lts_tl, tl_app, List.map_append, List.flatMap_append]
/-! ### Turned -/
theorem tl_rev (s : ByteArray) : tl (rev s) = (tl s).reverse := by
  show revL s s.size = _
  apply List.ext_getElem (by rw [revL_len, List.length_reverse, tl_len])
  intro j h1 h2
  rw [revL_len] at h1
  have hl := tl_len s
  have e := revL_at s s.size j h1
  rw [List.getD_eq_getElem?_getD, List.getElem?_eq_getElem (by rw [revL_len]; exact h1), Option.getD_some] at e
  rw [e, List.getElem_reverse]
  unfold byteAt
  rw [List.getD_eq_getElem?_getD, List.getElem?_eq_getElem (by show _ < (tl s).length; omega), Option.getD_some]
  show (tl s)[s.size - 1 - j]'_ = _
  congr 1
theorem rev_rev (s : ByteArray) : rev (rev s) = s := by
  apply tl_ext; rw [tl_rev, tl_rev, List.reverse_reverse]
theorem im1_rvs (zs : List ByteArray) (k : Nat) : im1 (rvs zs zs.length) k = rev (im1 zs k) := by
  unfold im1 rvs
  rw [List.take_length]
  simp only [List.getD_eq_getElem?_getD, List.getElem?_map]
  cases zs[k]? with
  | none => rfl
  | some z => rfl
theorem rvs_rvs (zs : List ByteArray) : rvs (rvs zs zs.length) zs.length = zs := by
  unfold rvs
  rw [List.take_length, List.take_of_length_le (by simp), List.map_map]
  have : rev ∘ rev = id := by funext z; exact rev_rev z
  rw [this, List.map_id]
theorem img_turn (zs : List ByteArray) (v : ByteArray) : img (rvs zs zs.length) (rev v) = rev (img zs v) := by
  apply tl_ext
  rw [tl_rev, tl_img, tl_img, lts_tl, lts_tl, tl_rev, List.reverse_flatMap, List.map_reverse]
  congr 1
  funext k
  rw [im1_rvs, tl_rev]; rfl
theorem letP_tl {n : Nat} (hn : n ≤ 4) {z : ByteArray} : letP n z ↔ letL n (tl z) :=
  ⟨letL_of, fun h => letP_of (l := tl z) hn h⟩
theorem iOk_of {n : Nat} {z : ByteArray} (h1 : 1 ≤ z.size) (h2 : z.size ≤ 8) (h : letP n z) : iOk n z := ⟨⟨h1, h2⟩, ⟨by omega, fun j hj => (h j hj).1⟩, fun i hi => (h i hi).2⟩
theorem letP_rev {n : Nat} (hn : n ≤ 4) {z : ByteArray} (h : letP n z) : letP n (rev z) := by
  rw [letP_tl hn] at h ⊢
  rw [tl_rev]
  intro b hb
  exact h b (List.mem_reverse.1 hb)
theorem sB_rvs {zs : List ByteArray} (hS : sB zs = true) : sB (rvs zs zs.length) = true := by
  have hs := s_of hS
  refine sB_yes ⟨by rw [rvs_len (Nat.le_refl _)]; exact hs.1, fun j hj => ?_⟩
  rw [rvs_len (Nat.le_refl _)] at hj ⊢
  have e : (rvs zs zs.length).getD j ByteArray.empty = rev (zs.getD j ByteArray.empty) := im1_rvs zs j
  rw [e]
  have := (hs.2 j hj).1
  exact iOk_of (by rw [rev_size]; exact this.1) (by rw [rev_size]; exact this.2) (letP_rev hs.1.2 (letP_img hS j))
/-! ### Applied -/
theorem wd_of {n : Nat} {z : ByteArray} (h : letP n z) (hs : z.size ≤ 400) : isWB z = true := isWB_true ⟨hs, fun j hj => (h j hj).1⟩
theorem img_let {zs : List ByteArray} (hS : sB zs = true) (v : ByteArray) : letP zs.length (img zs v) := letP_cc hS v v.size
theorem img_sz {zs : List ByteArray} (hS : sB zs = true) (v : ByteArray) : (img zs v).size ≤ 8 * v.size := cc_size8 (small8_sB hS) v.size
theorem itO_one {zs : List ByteArray} (hS : sB zs = true) {v : ByteArray} (hv : letP zs.length v) (hs : v.size ≤ 48) : itO zs v 1 = some (img zs v) := by
  have h1 := img_sz hS v
  have hw := wd_of (img_let hS v) (by omega)
  have hh : hiB zs.length v = true := hiB_yes (hiP_of hv (by omega))
  have hi : inB 1 0 20 = true := inB_true.2 (by omega)
  unfold itO
  rw [hS, hh, hi]
  show itN zs (0 + 1) v = _
  rw [itN_yes hw]; rfl
theorem itO_two {zs : List ByteArray} (hS : sB zs = true) {v : ByteArray} (hv : letP zs.length v) (hs : v.size ≤ 6) : itO zs v 2 = some (img zs (img zs v)) := by
  have h1 := img_sz hS v
  have h2 := img_sz hS (img zs v)
  have hw := wd_of (img_let hS v) (by omega)
  have hw2 := wd_of (img_let hS (img zs v)) (by omega)
  have hh : hiB zs.length v = true := hiB_yes (hiP_of hv (by omega))
  have hi : inB 2 0 20 = true := inB_true.2 (by omega)
  unfold itO
  rw [hS, hh, hi]
  show itN zs (0 + 1 + 1) v = _
  rw [itN_yes hw, itN_yes hw2]; rfl
theorem itO_zero {zs : List ByteArray} (hS : sB zs = true) {v : ByteArray} (hv : letP zs.length v) (hs : v.size ≤ 6) : itO zs v 0 = some v := by
  have hh : hiB zs.length v = true := hiB_yes (hiP_of hv (by omega))
  have hi : inB 0 0 20 = true := inB_true.2 (by omega)
  unfold itO
  rw [hS, hh, hi]; rfl
/-! ### Texts -/
theorem no44 {zs : List ByteArray} (hS : sB zs = true) : ∀ z ∈ zs, (44 : UInt8) ∉ tl z := by
  intro z hz hb
  obtain ⟨j, hj, rfl⟩ := List.getElem_of_mem hz
  have h := letL_of (letP_img hS j)
  rw [List.getD_eq_getElem?_getD, List.getElem?_eq_getElem hj] at h
  have := h 44 hb
  have e : (44 : UInt8).toNat = 44 := rfl
  omega
theorem ib_miss : ∀ (x : List UInt8), (44 : UInt8) ∉ x → Lib.indexByte x 44 = -1
  | [], _ => rfl
  | b :: x, h => by
    have h1 : b ≠ 44 := fun e => h (by rw [e]; exact List.mem_cons_self)
    have h2 := ib_miss x (fun e => h (List.mem_cons_of_mem _ e))
    unfold Lib.indexByte
    simp [h1, h2]
theorem ib_hit (r : List UInt8) : ∀ (x : List UInt8), (44 : UInt8) ∉ x → Lib.indexByte (x ++ 44 :: r) 44 = x.length
  | [], _ => by simp [Lib.indexByte]
  | b :: x, h => by
    have h1 : b ≠ 44 := fun e => h (by rw [e]; exact List.mem_cons_self)
    have h2 := ib_hit r x (fun e => h (List.mem_cons_of_mem _ e))
    rw [List.cons_append]
    unfold Lib.indexByte
    rw [h2]
    simp [h1]
theorem jn_one (z : ByteArray) : jn [z] = z := by
  apply tl_ext
  show Lib.join [z.data.toList] [44] = _
  rw [Lib.join_one]; rfl
theorem jn_cons (z y : ByteArray) (r : List ByteArray) : tl (jn (z :: y :: r)) = tl z ++ 44 :: tl (jn (y :: r)) := by
  show Lib.join (z.data.toList :: y.data.toList :: r.map (·.data.toList)) [44] = z.data.toList ++ 44 :: Lib.join (y.data.toList :: r.map (·.data.toList)) [44]
  rw [Lib.join_cons, Lib.join_cons]
  simp [Lib.joinTail]
theorem split_jn : ∀ (zs : List ByteArray), zs ≠ [] → (∀ z ∈ zs, (44 : UInt8) ∉ tl z) → Lib.splitB ⟨#[44]⟩ 0 (Lib.countB (jn zs) ⟨#[44]⟩) (jn zs) = zs
  | [], h, _ => absurd rfl h
  | [z], _, hz => by
    have hm : Lib.index (jn [z]).data.toList [44] = -1 := by rw [Lib.index_one, jn_one]; exact ib_miss _ (hz z (by simp))
    have hc : Lib.countB (jn [z]) ⟨#[44]⟩ = 0 := Lib.countB_miss _ _ hm
    rw [hc, Lib.splitB_zero, jn_one]
  | z :: y :: r, _, hz => by
    have ht := jn_cons z y r
    have hi : Lib.index (jn (z :: y :: r)).data.toList [44] = (z.size : Nat) := by
      rw [Lib.index_one, show (jn (z :: y :: r)).data.toList = tl z ++ 44 :: tl (jn (y :: r)) from ht, ib_hit _ _ (hz z (by simp)), tl_len]
    have hsz : (jn (z :: y :: r)).size = z.size + 1 + (jn (y :: r)).size := by
      rw [← tl_len, ht, List.length_append, List.length_cons, tl_len, tl_len]; omega
    have e1 : (jn (z :: y :: r)).extract 0 (z.size + 0) = z := by
      apply tl_ext
      show ((jn (z :: y :: r)).extract 0 (z.size + 0)).data.toList = _
      rw [Lib.extract_from_zero, show (jn (z :: y :: r)).data.toList = tl z ++ 44 :: tl (jn (y :: r)) from ht, Nat.add_zero, ← tl_len z, List.take_left]
    have e2 : (jn (z :: y :: r)).extract (z.size + 1) (jn (z :: y :: r)).size = jn (y :: r) := by
      apply tl_ext
      show ((jn (z :: y :: r)).extract (z.size + 1) (jn (z :: y :: r)).size).data.toList = _
      rw [Lib.extract_to_end, show (jn (z :: y :: r)).data.toList = (tl z ++ [44]) ++ tl (jn (y :: r)) by rw [List.append_assoc]; exact ht, show z.size + 1 = (tl z ++ [44]).length by rw [List.length_append, tl_len]; rfl, List.drop_left]
    have hc := Lib.countB_hit (jn (z :: y :: r)) ⟨#[44]⟩ z.size (by decide) hi
    have e2' : (jn (z :: y :: r)).extract (z.size + (⟨#[44]⟩ : ByteArray).size) (jn (z :: y :: r)).size = jn (y :: r) := e2
    rw [e2'] at hc
    rw [hc, Nat.add_comm, Lib.splitB_hit _ _ _ _ _ hi, e1, e2', split_jn (y :: r) (by simp) (fun q hq => hz q (List.mem_cons_of_mem _ hq))]
theorem jn_le : ∀ zs : List ByteArray, (∀ z ∈ zs, z.size ≤ 8) → (jn zs).size ≤ 9 * zs.length
  | [], _ => by
    have : (jn []).size = 0 := rfl
    omega
  | [z], h => by rw [jn_one]; have := h z (by simp); simp; omega
  | z :: y :: r, h => by
    have ih := jn_le (y :: r) (fun q hq => h q (List.mem_cons_of_mem _ hq))
    have hz := h z (by simp)
    rw [← tl_len, jn_cons, List.length_append, List.length_cons, tl_len, tl_len]
    simp only [List.length_cons] at *
    omega
theorem jn_small {zs : List ByteArray} (hS : sB zs = true) : (jn zs).size ≤ 1000 := by
  have h := jn_le zs (fun z hz => by
    obtain ⟨j, hj, rfl⟩ := List.getElem_of_mem hz
    have := ((s_of hS).2 j hj).1.2
    rw [List.getD_eq_getElem?_getD, List.getElem?_eq_getElem hj] at this
    exact this)
  have := (s_of hS).1.2
  omega
theorem count_jn {zs : List ByteArray} (h : zs ≠ []) (hz : ∀ z ∈ zs, (44 : UInt8) ∉ tl z) : Lib.countB (jn zs) ⟨#[44]⟩ + 1 = zs.length := by
  have := Lib.splitB_all ⟨#[44]⟩ (by decide) 0 _ (jn zs) rfl
  rw [split_jn zs h hz] at this
  exact this.symm
/-! ### Composed -/
theorem img_comp {zs : List ByteArray} {v : ByteArray} (hv : letP zs.length v) : img (cps zs zs zs.length) v = img zs (img zs v) := by
  apply tl_ext
  rw [tl_img, tl_img, lts_tl (img zs v), tl_img, List.map_flatMap, List.flatMap_assoc]
  have hk := lts_lt hv
  have : ∀ ks : List Nat, (∀ k ∈ ks, k < zs.length) → ks.flatMap (fun k => tl (im1 (cps zs zs zs.length) k)) = ks.flatMap (fun k => ((tl (im1 zs k)).map lf).flatMap (fun k => tl (im1 zs k))) := by
    intro ks
    induction ks with
    | nil => intro _; rfl
    | cons k ks ih =>
      intro h
      rw [List.flatMap_cons, List.flatMap_cons, ih (fun j hj => h j (List.mem_cons_of_mem _ hj))]
      congr 1
      have hkk := h k List.mem_cons_self
      have e : im1 (cps zs zs zs.length) k = img zs (im1 zs k) := by
        unfold im1 cps
        rw [List.take_length]
        simp only [List.getD_eq_getElem?_getD, List.getElem?_map, List.getElem?_eq_getElem hkk]
        rfl
      rw [e, tl_img, lts_tl]
  exact this _ hk
/-! ### Uniform -/
theorem cc_uni {zs : List ByteArray} (hu : 0 < un zs) {v : ByteArray} (hv : letP zs.length v) : ∀ k, k ≤ v.size → (cc v zs k).size = un zs * k
  | 0, _ => rfl
  | k + 1, h => by
    rw [cc_succ, ByteArray.size_append, cc_uni hu hv k (by omega), un_all hu _ (hv k (by omega)).2, Nat.mul_succ]
theorem img_uni {zs : List ByteArray} (hu : 0 < un zs) {v : ByteArray} (hv : letP zs.length v) : (img zs v).size = un zs * v.size := cc_uni hu hv v.size (Nat.le_refl _)
theorem un_le {zs : List ByteArray} (hS : sB zs = true) : un zs ≤ 8 := by
  have h := small8_sB hS 0
  unfold un
  split
  · exact h
  · omega
/-! ### Codes -/
theorem hit_pre {s a b : ByteArray} {p : Nat} (ha : hitP s a p = true) (hb : hitP s b p = true) (hl : a.size ≤ b.size) : Lib.hasPrefix b.data.toList a.data.toList = true := by
  obtain ⟨a1, a2⟩ := hit_iff.1 ha
  obtain ⟨b1, b2⟩ := hit_iff.1 hb
  unfold Lib.hasPrefix
  rw [List.isPrefixOf_iff_prefix]
  have e : a = b.extract 0 a.size := by
    rw [← b2]
    apply ByteArray.ext
    rw [← a2]
    simp only [ByteArray.data_extract, Array.extract_extract, ByteArray.size_extract]
    congr 1 <;> omega
  have e2 : a.data.toList = b.data.toList.take a.size := by
    rw [← Lib.extract_from_zero, ← e]
  rw [e2]
  exact List.take_prefix _ _
theorem prt_uni {zs : List ByteArray} (hS : sB zs = true) (hc : cdP zs) {s : ByteArray} {q : Nat} : ∀ {ks js : List Nat} {p : Nat}, prt zs s p ks q → prt zs s p js q → ks = js
  | [], js, p, h1, h2 => by
    cases h1
    exact (prt_end hS h2).symm
  | k :: ks, [], p, h1, h2 => by
    cases h2
    exact prt_end hS h1
  | k :: ks, j :: js, p, h1, h2 => by
    have e : k = j := by
      by_cases e : k = j
      · exact e
      · by_cases hl : (im1 zs k).size ≤ (im1 zs j).size
        · have := hit_pre h1.2.1 h2.2.1 hl
          have q2 := hc j h2.1 k h1.1 (fun q => e q.symm)
          unfold hpr at q2
          unfold im1 at this
          rw [this] at q2; cases q2
        · have := hit_pre h2.2.1 h1.2.1 (by omega)
          have q2 := hc k h1.1 j h2.1 e
          unfold hpr at q2
          unfold im1 at this
          rw [this] at q2; cases q2
    subst e
    rw [prt_uni hS hc h1.2.2 h2.2.2]
theorem cpV_code {zs : List ByteArray} (hS : sB zs = true) (hc : cdB zs = true) {v : ByteArray} (hv : letP zs.length v) (hs : v.size ≤ 6) : cpV zs (img zs v) = 1 := by
  have h1 := img_sz hS v
  have hw := wd_of (img_let hS v) (by omega)
  have hpk : pk zs (img zs v) = true := by unfold pk; rw [hS, hw]; rfl
  have hwh := whole_of hv rfl
  have hp := Wy_some hS (Nat.zero_le _) hwh
  have hlow := Wy_low zs (img zs v) 0
  have h2 : ¬ 2 ≤ Wy zs (img zs v) 0 := fun h => by
    obtain ⟨ks, js, hne, hk, hj⟩ := Wy_two hS (img zs v).size 0 (by omega) (Nat.zero_le _) h
    exact hne (prt_uni hS (cdB_of hc) hk hj)
  unfold cpV
  rw [if_pos hpk]
  show Wy zs (img zs v) 0 = 1
  omega
/-! ### The substitution of Thue -/
def TH : List ByteArray := [⟨#[97, 98]⟩, ⟨#[98, 97]⟩]
theorem sOk_TH : sB TH = true := sB_yes ⟨by decide, by
  intro j hj
  have hl : TH.length = 2 := rfl
  rw [hl] at hj ⊢
  have h2 : ∀ z : ByteArray, z.size = 2 → letL 2 (tl z) → iOk 2 z := fun z h1 h => iOk_of (by omega) (by omega) ((letP_tl (by omega)).2 h)
  have : j = 0 ∨ j = 1 := by omega
  rcases this with rfl | rfl
  · exact h2 _ rfl (by intro b hb; have : b = 97 ∨ b = 98 := by simpa [tl, TH] using hb
                       rcases this with rfl | rfl <;> decide)
  · exact h2 _ rfl (by intro b hb; have : b = 98 ∨ b = 97 := by simpa [tl, TH] using hb
                       rcases this with rfl | rfl <;> decide)⟩
def ttext : ByteArray := ⟨#[97, 98, 44, 98, 97]⟩
theorem jn_TH : jn TH = ttext := by decide +kernel
theorem cdB_TH : cdB TH = true := cdB_yes (by
  intro i hi k hk hne
  have hl : TH.length = 2 := rfl
  rw [hl] at hi hk
  have : (i = 0 ∧ k = 1) ∨ (i = 1 ∧ k = 0) := by omega
  rcases this with ⟨rfl, rfl⟩ | ⟨rfl, rfl⟩ <;> decide +kernel)
theorem un_TH : un TH = 2 := by decide +kernel
end Go.Proofs.YtilbhingfnjppaaDoor
