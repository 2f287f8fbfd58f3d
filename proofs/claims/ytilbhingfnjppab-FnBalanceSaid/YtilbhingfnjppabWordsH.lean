/- The derived word: the walks and the law. -/
import Derived.Test.YtilbhingfnjppabMWds
set_option linter.unusedSimpArgs false
set_option linter.unusedVariables false
namespace Go.Proofs.Ytilbhingfnjppab
open Go.RowKit
theorem isStrs_grow {wr w1 : World} {x : Option Addr} {n cap g : Nat} {zs : List ByteArray} {o : Obj} (h : IsStrs wr x n cap zs) (hx : ∀ b off, x = some ⟨b, off, none⟩ → b ≠ g) (hg : (wr.alloc o).grownBy w1 (some g)) : IsStrs w1 x n cap zs := by
  refine ⟨h.1, h.2.1, h.2.2.1, h.2.2.2.1, ?_⟩
  rcases h.2.2.2.2 with h0 | ⟨b, off, rfl, hlt, hc⟩
  · exact .inl h0
  · have hb := hx b off rfl
    refine .inr ⟨b, off, rfl, Nat.lt_trans hlt (size_app hg), fun j hj => ?_⟩
    rw [hg.cell_far ⟨b, off + j, none⟩ (by show b < _; simp; omega) (by simp; omega)]
    exact (World.cell?_alloc_past _ _ _ (by show b < _; omega)).trans (hc j hj)
/-- The letter of a place in a list. -/
def li (D : List ByteArray) (x : ByteArray) : UInt8 := 97 + UInt8.ofNat (Lib.idxOfS D x).toNat
def dl (D L : List ByteArray) (k : Nat) : List UInt8 := (L.take k).map (li D)
theorem dl_next (D L : List ByteArray) (k : Nat) (h : k < L.length) : dl D L (k + 1) = dl D L k ++ [li D (L.getD k ByteArray.empty)] := by
  unfold dl; rw [take_next L k ByteArray.empty h]; simp
theorem dl_len (D L : List ByteArray) (k : Nat) (h : k ≤ L.length) : (dl D L k).length = k := by simp [dl]; omega
theorem idx_lt {D : List ByteArray} {x : ByteArray} (h : x ∈ D) : ∃ i : Nat, Lib.idxOfS D x = (i : Int) ∧ i < D.length := by
  obtain ⟨k, hk, he⟩ := List.getElem_of_mem h
  have : ∀ n, (∃ j, j ≤ n ∧ j < D.length ∧ D.getD j ByteArray.empty = x) → ∃ i : Nat, Lib.idxOfS D x = (i : Int) ∧ i < D.length := by
    intro n
    induction n with
    | zero =>
      rintro ⟨j, hj, hl, e⟩
      obtain rfl : j = 0 := by omega
      have := Lib.idxOfS_hit D D.length 0 x hl (Nat.le_refl _) e (fun j hj => absurd hj (by omega))
      rw [List.take_length] at this
      exact ⟨0, this, hl⟩
    | succ n ih =>
      rintro ⟨j, hj, hl, e⟩
      by_cases hex : ∃ j, j ≤ n ∧ j < D.length ∧ D.getD j ByteArray.empty = x
      · exact ih hex
      · have hjn : j = n + 1 := by
          by_cases hjn : j ≤ n
          · exact absurd ⟨j, hjn, hl, e⟩ hex
          · omega
        subst hjn
        have := Lib.idxOfS_hit D D.length (n + 1) x hl (Nat.le_refl _) e (fun j hj he => hex ⟨j, by omega, by omega, he⟩)
        rw [List.take_length] at this
        exact ⟨n + 1, this, hl⟩
  exact this k ⟨k, Nat.le_refl _, hk, by simp [List.getD_eq_getElem?_getD, hk, he]⟩
theorem li_at {D : List ByteArray} {x : ByteArray} {i : Nat} (h : Lib.idxOfS D x = (i : Int)) : li D x = 97 + UInt8.ofNat i := by unfold li; rw [h]; rfl
theorem getD_mem {l : List ByteArray} {k : Nat} (h : k < l.length) : l.getD k ByteArray.empty ∈ l := by simp [List.getD_eq_getElem?_getD, h]
noncomputable def dvV (s f : ByteArray) : Value := if (P s f).length = 0 ∨ 4 < (dd (R s f)).length then .tuple #[.string ⟨#[]⟩, .bool false] else .tuple #[.string ⟨(dl (dd (R s f)) (R s f) (R s f).length).toArray⟩, .bool true]
theorem dv_no {s f : ByteArray} (h : (P s f).length = 0 ∨ 4 < (dd (R s f)).length) : dvV s f = .tuple #[.string ⟨#[]⟩, .bool false] := by simp only [dvV]; rw [if_pos h]
theorem dv_yes {s f : ByteArray} (h : ¬ ((P s f).length = 0 ∨ 4 < (dd (R s f)).length)) : dvV s f = .tuple #[.string ⟨(dl (dd (R s f)) (R s f) (R s f).length).toArray⟩, .bool true] := by simp only [dvV]; rw [if_neg h]
theorem letter_add (l : List UInt8) (i : Nat) (h : i < 4) : (⟨l.toArray⟩ : ByteArray) ++ (⟨#[97, 98, 99, 100]⟩ : ByteArray).extract i (i + 1) = ⟨(l ++ [97 + UInt8.ofNat i]).toArray⟩ := by
  have e : (⟨#[97, 98, 99, 100]⟩ : ByteArray).extract i (i + 1) = ⟨#[97 + UInt8.ofNat i]⟩ := by
    match i, h with
    | 0, _ => rfl
    | 1, _ => rfl
    | 2, _ => rfl
    | 3, _ => rfl
  rw [e]; apply ByteArray.ext; simp
theorem letter_run (l : List UInt8) (i : Nat) (h : i < 4) (hl : l.length ≤ 1000) (w : World) : (Op.stringOp .add ⟨l.toArray⟩ ((⟨#[97, 98, 99, 100]⟩ : ByteArray).extract i (i + 1))).run Try.prog w = .ok (.string ⟨(l ++ [97 + UInt8.ofNat i]).toArray⟩) w := by
  have e : (⟨l.toArray⟩ : ByteArray).size = l.length := by simp [ByteArray.size]
  rw [run_string_add_sum w _ _ (by rw [e, ByteArray.size_extract]; omega), letter_add l i h]
set_option maxRecDepth 20000 in
set_option maxHeartbeats 4000000 in
theorem implDerived_any (s f : ByteArray) (w : World) (hs : s.size ≤ 9223372036854775807) (hf : f.size ≤ 9223372036854775807) :
    Calls Try.prog 26 #[.string s, .string f] w fun e w' => e = .returned (dvV s f) ∧ Below w.heap.size w w' := by
  obtain ⟨i0, hi0, hz0, hz1, hz2⟩ := info_parts infoB
  have hwc := fun w => implReturns_any s f w hs hf
  have hRl := R_len s f hs
  have hRs := R_small s f hs
  have hmem : ∀ k, k < (R s f).length → (R s f).getD k ByteArray.empty ∈ dd (R s f) := fun k hk => (mem_dd _ _).2 (getD_mem hk)
  have hno := @dv_no s f
  have hyes := @dv_yes s f
  have hpb : plB s f = decide (0 < ((P s f).length : Int)) := rfl
  have hpo := @pOk_of s f
  have hoc : pOk s f = true → ∀ w, Calls Try.prog 71 #[.string s, .string f] w fun e w' => ∃ g cap, e = .returned (.slice (some ⟨g, 0, none⟩) (R s f).length cap) ∧ RowS w' w.heap.size (some ⟨g, 0, none⟩) cap (R s f) ∧ Below w.heap.size w w' := fun h w => returnsOf_any s f w h
  obtain ⟨L, hL⟩ : ∃ L, R s f = L := ⟨_, rfl⟩
  obtain ⟨p, hp⟩ : ∃ p, (P s f).length = p := ⟨_, rfl⟩
  rw [hL] at hwc hRl hRs hmem hno hyes hoc
  rw [hp] at hno hyes hpb hpo
  have hDs := dd_small hRs
  obtain ⟨D, hD⟩ : ∃ D, dd L = D := ⟨_, rfl⟩
  rw [hD] at hwc hmem hno hyes hDs
  obtain ⟨n, hn⟩ : ∃ n, L.length = n := ⟨_, rfl⟩
  obtain ⟨m, hm⟩ : ∃ m, D.length = m := ⟨_, rfl⟩
  rw [hn] at hoc hRl hmem hyes
  rw [hm] at hwc hno hyes
  have hRs' := Lib.hid hRs
  have hDs' := Lib.hid hDs
  have hmem' := Lib.hid hmem
  have hn' := Lib.hid hn
  have hm' := Lib.hid hm
  have hyes' := Lib.hid hyes
  have hno' := Lib.hid hno
  clear hRs hDs hmem hn hm hyes hno hL hp hD
  by_cases hbad : p = 0 ∨ 4 < m
  · have hv := Lib.hid (hno'.out hbad)
    rcases hbad with rfl | hbad
    · have hpl : plB s f = false := by rw [hpb]; rfl
      clear hpb hoc hpo
      go_enter Try.func26, Try.ntmps26
      go_wp2_with (first | (go_at_call 22; refine (hwc _).mono ?_; rintro e w1 ⟨x1, c1, rfl, h1, hb1⟩) | (go_at_call 69; refine (isPlaced_any _ _ _ hs hf).mono ?_; rintro e w2 ⟨rfl, hb2⟩))
      have hzz1 := hb1.size
      refine bodyPost_ret (v := dvV s f) (by rw [hv.out]; simp [results, Try.results26, go_sem, *]) rfl ⟨rfl, Qtrans hb2 hzz1 hb1⟩
    · have hbad' : (4 : Int) < (m : Int) := by omega
      clear hpb hoc hpo
      cases hpl : plB s f
      all_goals
        go_enter Try.func26, Try.ntmps26
        go_wp2_with (first | (go_at_call 22; refine (hwc _).mono ?_; rintro e w1 ⟨x1, c1, rfl, h1, hb1⟩) | (go_at_call 69; refine (isPlaced_any _ _ _ hs hf).mono ?_; rintro e w2 ⟨rfl, hb2⟩))
        have hzz1 := hb1.size
        refine bodyPost_ret (v := dvV s f) (by rw [hv.out]; simp [results, Try.results26, go_sem, *]) rfl ⟨rfl, Qtrans hb2 hzz1 hb1⟩
  · have hv := Lib.hid (hyes'.out hbad)
    have hoc' := hoc (hpo (by omega))
    have h0 : plB s f = true := by rw [hpb]; exact decide_eq_true (by omega)
    have h4 : ¬ (4 : Int) < (m : Int) := by omega
    clear hoc hpo hpb
    go_enter Try.func26, Try.ntmps26
    go_wp2_with (first | (go_at_call 22; refine (hwc _).mono ?_; rintro e w1 ⟨x1, c1, rfl, h1, hb1⟩) | (go_at_call 69; refine (isPlaced_any _ _ _ hs hf).mono ?_; rintro e w2 ⟨rfl, hb2⟩) | (go_at_call 71; refine (hoc' _).mono ?_; rintro e w3 ⟨ga, c3, rfl, h3, hb3⟩))
    have hzz1 := hb1.size
    have hzz2 := hb2.size
    have hga := (h3.lt ga rfl)
    have hst1 := rowS_strs h3 hRs'.out
    have hst2 := isStrs_below (rowS_strs h1 hDs'.out) (Nat.le_refl _) hb2
    rw [hn'.out] at hst1
    rw [hm'.out] at hst2
    have hown0 := own_below (World.ownsRow_lit (base := w2.heap.size) (e := 5) (size := 1) w2 #[] 0 (Nat.le_refl _) (by decide) rfl) hb3
    have hb30 : Below w2.heap.size w2 w3 := Qtrans hb3 (by simp) ((Below.refl _ w2).alloc (Nat.le_refl _) _)
    have hzz3 := hb30.size
    have hga1 : w2.heap.size < ga := by have := hga.1; simp at this; omega
    have hga2 := hga.2
    go_loopw [7, 27] (fun o i wr => ∃ k g cap : Nat, k ≤ n ∧ i = .int .i64 k ∧ o = .slice (some ⟨g, 0, none⟩) k cap ∧ wr.ownsRow w2.heap.size 5 1 (.slice (some ⟨g, 0, none⟩) k cap) k (bv (dl D L k)) ∧ g ≠ ga ∧ ga < wr.heap.size ∧ IsStrs wr (some ⟨ga, 0, none⟩) n c3 L ∧ w2.heap.size ≤ wr.heap.size ∧ Below w2.heap.size w2 wr) (fun _ i _ => n - (intOf i).toNat)
    case atStart => exact ⟨0, w2.heap.size, 0, by omega, rfl, rfl, hown0, by omega, hga2, hst1, hzz3, hb30⟩
    case round =>
      clear hst1 hown0 h3 h1
      obtain ⟨k, g, cap, hk, rfl, rfl, hown, hne, hgl, hst1, hz, hbel⟩ := hrel
      have hst2r := isStrs_below hst2 (Nat.le_refl _) hbel
      by_cases hlt : k < n
      · obtain ⟨b, off, hbo, hb, hcl⟩ := isStrs_cell hst1 (by omega)
        cases hbo
        have hck := hcl k hlt
        simp only [Nat.zero_add] at hck
        have hnext := dl_next D L k (by rw [hn'.out]; exact hlt)
        have hll := dl_len D L k (by rw [hn'.out]; omega)
        obtain ⟨i, hi, hil⟩ := idx_lt (hmem'.out k hlt)
        obtain ⟨z, hzz⟩ : ∃ z, L.getD k ByteArray.empty = z := ⟨_, rfl⟩
        rw [hzz] at hck hi hnext
        rw [li_at hi] at hnext
        rw [hm'.out] at hil
        obtain ⟨q, hq⟩ : ∃ q, dl D L k = q := ⟨_, rfl⟩
        rw [hq] at hll hnext hown
        have hnext' := Lib.hid hnext
        have hk0 : (0 : Int) ≤ (k : Int) := by omega
        have hk1 : (k : Int) < (n : Int) := by omega
        have hi4 : i = 0 ∨ i = 1 ∨ i = 2 ∨ i = 3 := by omega
        clear hzz hq hcl hnext
        rcases hi4 with rfl | rfl | rfl | rfl
        · skip
          go_wp2_with (first | (go_at_call 73; refine (index_any _ _ _ _ _ _ hst2r).mono ?_; rintro e w1 ⟨rfl, rfl⟩) | (at_builtin; refine wpList_append_lies _ rfl _ _ _ rfl (w2.heap.size) 5 i0 _ 1 1 Try.underlying22 hi0 hz0 hz1 hz2 rfl (by decide) (.slice (some ⟨g, 0, none⟩) k cap) (k) (bv q) (by rfl) (hown.alloc _) ⟨(wr).heap.size, 0, none⟩ 1 1 [.int .u8 97] (by rfl) (by rfl) (World.news_of_block (cs := #[.int .u8 97]) (t := 5) (fr := (0, 0)) (heap_alloc_new (wr) _)) (by simp [Value.oneCell']) (by omega) (by unfold maxLen; omega) (by omega) (by simp; omega) ((wr).heap.size + 1) (by simp) ?_; intro gg cap w1 hown1 hgrow hatg hltg))
          go_roundw
          case rel => exact ⟨k + 1, gg, _, by omega, by go_num, rfl, by rw [hnext'.out, bv_snoc]; exact hown1, ne_app hne hgl hatg, by have := size_app hgrow; omega, isStrs_grow hst1 (by intro b off e; cases e; exact Ne.symm hne) hgrow, by have := size_app hgrow; omega, below_app hbel hz hown hgrow⟩
          case measure => (simp [intOf]) <;> omega
        · skip
          go_wp2_with (first | (go_at_call 73; refine (index_any _ _ _ _ _ _ hst2r).mono ?_; rintro e w1 ⟨rfl, rfl⟩) | (at_builtin; refine wpList_append_lies _ rfl _ _ _ rfl (w2.heap.size) 5 i0 _ 1 1 Try.underlying22 hi0 hz0 hz1 hz2 rfl (by decide) (.slice (some ⟨g, 0, none⟩) k cap) (k) (bv q) (by rfl) (hown.alloc _) ⟨(wr).heap.size, 0, none⟩ 1 1 [.int .u8 98] (by rfl) (by rfl) (World.news_of_block (cs := #[.int .u8 98]) (t := 5) (fr := (0, 0)) (heap_alloc_new (wr) _)) (by simp [Value.oneCell']) (by omega) (by unfold maxLen; omega) (by omega) (by simp; omega) ((wr).heap.size + 1) (by simp) ?_; intro gg cap w1 hown1 hgrow hatg hltg))
          go_roundw
          case rel => exact ⟨k + 1, gg, _, by omega, by go_num, rfl, by rw [hnext'.out, bv_snoc]; exact hown1, ne_app hne hgl hatg, by have := size_app hgrow; omega, isStrs_grow hst1 (by intro b off e; cases e; exact Ne.symm hne) hgrow, by have := size_app hgrow; omega, below_app hbel hz hown hgrow⟩
          case measure => (simp [intOf]) <;> omega
        · skip
          go_wp2_with (first | (go_at_call 73; refine (index_any _ _ _ _ _ _ hst2r).mono ?_; rintro e w1 ⟨rfl, rfl⟩) | (at_builtin; refine wpList_append_lies _ rfl _ _ _ rfl (w2.heap.size) 5 i0 _ 1 1 Try.underlying22 hi0 hz0 hz1 hz2 rfl (by decide) (.slice (some ⟨g, 0, none⟩) k cap) (k) (bv q) (by rfl) (hown.alloc _) ⟨(wr).heap.size, 0, none⟩ 1 1 [.int .u8 99] (by rfl) (by rfl) (World.news_of_block (cs := #[.int .u8 99]) (t := 5) (fr := (0, 0)) (heap_alloc_new (wr) _)) (by simp [Value.oneCell']) (by omega) (by unfold maxLen; omega) (by omega) (by simp; omega) ((wr).heap.size + 1) (by simp) ?_; intro gg cap w1 hown1 hgrow hatg hltg))
          go_roundw
          case rel => exact ⟨k + 1, gg, _, by omega, by go_num, rfl, by rw [hnext'.out, bv_snoc]; exact hown1, ne_app hne hgl hatg, by have := size_app hgrow; omega, isStrs_grow hst1 (by intro b off e; cases e; exact Ne.symm hne) hgrow, by have := size_app hgrow; omega, below_app hbel hz hown hgrow⟩
          case measure => (simp [intOf]) <;> omega
        · skip
          go_wp2_with (first | (go_at_call 73; refine (index_any _ _ _ _ _ _ hst2r).mono ?_; rintro e w1 ⟨rfl, rfl⟩) | (at_builtin; refine wpList_append_lies _ rfl _ _ _ rfl (w2.heap.size) 5 i0 _ 1 1 Try.underlying22 hi0 hz0 hz1 hz2 rfl (by decide) (.slice (some ⟨g, 0, none⟩) k cap) (k) (bv q) (by rfl) (hown.alloc _) ⟨(wr).heap.size, 0, none⟩ 1 1 [.int .u8 100] (by rfl) (by rfl) (World.news_of_block (cs := #[.int .u8 100]) (t := 5) (fr := (0, 0)) (heap_alloc_new (wr) _)) (by simp [Value.oneCell']) (by omega) (by unfold maxLen; omega) (by omega) (by simp; omega) ((wr).heap.size + 1) (by simp) ?_; intro gg cap w1 hown1 hgrow hatg hltg))
          go_roundw
          case rel => exact ⟨k + 1, gg, _, by omega, by go_num, rfl, by rw [hnext'.out, bv_snoc]; exact hown1, ne_app hne hgl hatg, by have := size_app hgrow; omega, isStrs_grow hst1 (by intro b off e; cases e; exact Ne.symm hne) hgrow, by have := size_app hgrow; omega, below_app hbel hz hown hgrow⟩
          case measure => (simp [intOf]) <;> omega
      · obtain rfl : n = k := by omega
        have hlt' : ¬ (n : Int) < (n : Int) := by omega
        have hll := dl_len D L n (by rw [hn'.out]; omega)
        have hown' : wr.ownsRow w2.heap.size 5 1 (.slice (some ⟨g, 0, none⟩) (dl D L n).length cap) (dl D L n).length (bv (dl D L n)) := by rw [hll]; exact hown
        have hcv := own_string hown'
        rw [hll] at hcv
        have hv' : Hid (dvV s f = .tuple #[.string ⟨(dl D L n).toArray⟩, .bool true]) := hv
        have hzz0 : w.heap.size ≤ w2.heap.size := by omega
        go_wp2
        refine bodyPost_ret (v := dvV s f) (by rw [hv'.out]; simp [results, Try.results26, go_sem]) rfl ⟨rfl, Qtrans hbel hzz0 (Qtrans hb2 hzz1 hb1)⟩
theorem dv_form (s f : ByteArray) : ∃ (v : ByteArray) (b : Bool), dvV s f = .tuple #[.string v, .bool b] := by
  unfold dvV; split
  · exact ⟨_, _, rfl⟩
  · exact ⟨_, _, rfl⟩
end Go.Proofs.Ytilbhingfnjppab
