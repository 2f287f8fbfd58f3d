/- The law on return words: what the pieces are. -/
import Derived.Test.YtilbhingfnjppabRtD
import Derived.Lib.IndexMore
set_option linter.unusedSimpArgs false
set_option linter.unusedVariables false
namespace Go.Proofs.Ytilbhingfnjppab
open Go.RowKit
theorem let_wd {n : Nat} {z : ByteArray} (h : letP n z) (hs : z.size ≤ 400) : isWB z = true := by
  have : isWP z := ⟨hs, fun j hj => (h j hj).1⟩
  simp [isWB, this]
/-- What the walk knows of the two words. -/
structure SF (s f : ByteArray) (n i : Nat) : Prop where
  n4 : n ≤ 4
  hs : letP n s
  s50 : s.size ≤ 100
  f1 : 1 ≤ f.size
  f4 : f.size ≤ 9
  hi : i + f.size ≤ s.size
  hf : f = s.extract i (i + f.size)
theorem letP_ext {n : Nat} {s : ByteArray} (h : letP n s) (a b : Nat) : letP n (s.extract a b) := fun j hj => by
  have e := bt_ext s a b j hj
  have := h (a + j) (by rw [ByteArray.size_extract] at hj; omega)
  unfold inL lt at this ⊢
  rw [e]; exact this
variable {s f : ByteArray} {n i : Nat}
theorem SF.lf (h : SF s f n i) : letP n f := by rw [h.hf]; exact letP_ext h.hs _ _
theorem SF.ok (h : SF s f n i) : pOk s f = true := by
  unfold pOk
  rw [let_wd h.hs (by have := h.s50; omega), let_wd h.lf (by have := h.f4; omega)]
  have : f.toList.isEmpty = false := by
    have := h.f1
    rw [ByteArray.toList_eq]
    cases hl : f.data.toList with
    | nil =>
      have e : f.size = f.data.toList.length := by simp
      rw [hl] at e
      have e2 : f.size = 0 := e
      omega
    | cons => rfl
  rw [this]; rfl
theorem SF.P (h : SF s f n i) : Go.Proofs.Ytilbhingfnjppab.P s f = places s f := P_yes h.ok
theorem SF.len (h : SF s f n i) : 1 ≤ (places s f).length := by
  have : i ∈ places s f := mem_places.2 ⟨by have := h.hi; omega, hitP_iff.2 h.hf.symm⟩
  exact List.length_pos_of_mem this
theorem SF.lenR (h : SF s f n i) : (R s f).length = (places s f).length - 1 := by unfold R; rw [rt_len, h.P]
theorem SF.atR (h : SF s f n i) {k : Nat} (hk : k + 1 < (places s f).length) : (R s f).getD k ByteArray.empty = s.extract ((places s f).getD k 0) ((places s f).getD (k + 1) 0) := by
  unfold R rt
  rw [h.P, List.getD_eq_getElem?_getD, List.getElem?_map, List.getElem?_range (by omega)]
  rfl
theorem SF.memR (h : SF s f n i) {x : ByteArray} (hx : x ∈ dd (R s f)) : ∃ k, k + 1 < (places s f).length ∧ x = s.extract ((places s f).getD k 0) ((places s f).getD (k + 1) 0) := by
  have hx' := (mem_dd _ _).1 hx
  obtain ⟨k, hk, e⟩ := List.getElem_of_mem hx'
  have hl := h.lenR
  refine ⟨k, by omega, ?_⟩
  rw [← h.atR (by omega), List.getD_eq_getElem?_getD, List.getElem?_eq_getElem hk, ← e]; rfl
theorem SF.ddlen (h : SF s f n i) : (dd (R s f)).length ≤ (places s f).length - 1 := by rw [← h.lenR]; exact ddl _
/-- A piece with the word behind it: it lies in the whole, and bears the word twice. -/
theorem SF.full (h : SF s f n i) {k : Nat} (hk : k + 1 < (places s f).length) :
    s.extract ((places s f).getD k 0) ((places s f).getD (k + 1) 0) ++ f = s.extract ((places s f).getD k 0) ((places s f).getD (k + 1) 0 + f.size) := by
  have hb := (mem_places.1 (places_at s f hk)).2
  have e := hitP_iff.1 hb
  have hle := places_lt s f (show k < k + 1 by omega) hk
  calc _ = s.extract ((places s f).getD k 0) ((places s f).getD (k + 1) 0) ++ s.extract ((places s f).getD (k + 1) 0) ((places s f).getD (k + 1) 0 + f.size) := by rw [e]
    _ = _ := ext_join (by omega) (by omega)
theorem two_of {p : Nat → Bool} {m : Nat} (h0 : p 0 = true) (hm : p m = true) (hm0 : 0 < m) (hn : ∀ c, 0 < c → c < m → p c = false) : ((List.range (m + 1)).filter p).length = 2 := by
  have key : ∀ q, q < m → ((List.range (q + 1)).filter p).length = 1 := by
    intro q
    induction q with
    | zero => intro _; simp [List.range_succ, h0]
    | succ q ih =>
      intro hq
      rw [List.range_succ, List.filter_append, List.length_append, ih (by omega)]
      simp [hn (q + 1) (by omega) hq]
  obtain ⟨q, rfl⟩ : ∃ q, m = q + 1 := ⟨m - 1, by omega⟩
  rw [List.range_succ, List.filter_append, List.length_append, key q (by omega)]
  simp [hm]
theorem SF.twice (h : SF s f n i) {k : Nat} (hk : k + 1 < (places s f).length) {x : ByteArray} (hx : x = s.extract ((places s f).getD k 0) ((places s f).getD (k + 1) 0 + f.size)) : (Go.Proofs.Ytilbhingfnjppab.P x f).length = 2 := by
  have hle := places_lt s f (show k < k + 1 by omega) hk
  have hbd := places_bd s f (by have := h.hi; omega) hk
  have hnone := fun c => places_none s f (c := c) hk
  have h0 := (mem_places.1 (places_at s f (show k < _ by omega))).2
  have h1 := (mem_places.1 (places_at s f hk)).2
  obtain ⟨a, ha⟩ : ∃ a, (places s f).getD k 0 = a := ⟨_, rfl⟩
  obtain ⟨b, hb⟩ : ∃ b, (places s f).getD (k + 1) 0 = b := ⟨_, rfl⟩
  rw [ha, hb] at hx hnone hle
  rw [ha] at h0
  rw [hb] at h1 hbd
  have hxs : x.size = b + f.size - a := by rw [hx, ByteArray.size_extract]; omega
  have hxl : letP n x := by rw [hx]; exact letP_ext h.hs _ _
  have hok : pOk x f = true := by
    have := h.ok
    unfold pOk at this ⊢
    rw [Bool.and_eq_true] at this
    rw [let_wd hxl (by have := h.s50; omega), this.2]; rfl
  have hh : ∀ c, c ≤ b - a → hit x f c = hit s f (a + c) := fun c hc => by
    have e : x.extract c (c + f.size) = s.extract (a + c) (a + c + f.size) := by
      rw [hx, ByteArray.extract_extract]
      congr 1
      omega
    unfold hit
    rw [e]
  rw [P_yes hok]
  unfold places pl
  rw [show x.size + 1 - f.size = (b - a) + 1 by omega]
  refine two_of (by rw [hh 0 (by omega)]; exact h0) (by rw [hh (b - a) (by omega), show a + (b - a) = b by omega]; exact h1) (by omega) (fun c hc0 hc => ?_)
  rw [hh c (by omega)]
  exact hnone (a + c) (by omega) (by omega)
/-- A piece of a word lies in it. -/
theorem has_part {a b : Nat} (hab : a ≤ b) (hb : b ≤ s.size) : Lib.contains s.data.toList (s.extract a b).data.toList = true := by
  unfold Lib.contains
  rcases Lib.index_spec s.data.toList (s.extract a b).data.toList with ⟨_, h⟩ | ⟨j, e, _⟩
  · have hl : s.data.toList.length = s.size := by simp
    have := h a (by omega)
    rw [show Lib.occAt s.data.toList (s.extract a b).data.toList a = true from ?_] at this
    · cases this
    · unfold Lib.occAt
      have e : (s.extract a b).data.toList = (s.data.toList.drop a).take (b - a) := by simp [ByteArray.data_extract]
      rw [e, List.isPrefixOf_iff_prefix]
      exact List.take_prefix _ _
  · rw [e]; simp
end Go.Proofs.Ytilbhingfnjppab
