/- The laws' draws: substitutions and words over them. -/
import Derived.Test.YtilbhingfnjppaaDoorDrB
import Derived.Deep.RegionLaw
import Derived.Deep.AppendLies
set_option linter.unusedSimpArgs false
set_option linter.unusedVariables false
namespace Go.Proofs.YtilbhingfnjppaaDoor
open Go.RowKit
theorem cur_drew {w : World} {g : Nat} {x : Option Addr} {n cap : Nat} (h : Cur w g x n cap) : Cur w.drew g x n cap := h
theorem rB_drew {w : World} {B : Nat} {x : Option Addr} {n : Nat} (h : RB B w x n) : RB B w.drew x n := h
theorem size_drewI {w : World} {k : Nat} (h : w.drew.heap.size ≤ k) : w.heap.size ≤ k := h
theorem cell_drewI {w : World} {a : Addr} {v : Option Value} (h : w.cell? a = v) : w.drew.cell? a = v := h
theorem frozen_drewI {w : World} {a : Addr} {v : Bool} (h : w.frozen? a = v) : w.drew.frozen? a = v := h
theorem grown_drewF {w a b : World} {g : Nat} (h1 : w.grownBy a (some g)) (h2 : a.drew.grownBy b (some g)) : w.grownBy b (some g) := World.grownBy.trans (b := a.drew) ⟨h1.os, h1.tape, h1.output, h1.size, h1.block⟩ h2
theorem grown_drewG {w a : World} {g : Nat} (h : w.grownBy a (some g)) : w.grownBy a.drew (some g) := ⟨h.os, h.tape, h.output, h.size, h.block⟩
theorem falloc {w : World} {b o : Nat} {x : Obj} (h : b < w.heap.size) : (w.alloc x).frozen? ⟨b, o, none⟩ = w.frozen? ⟨b, o, none⟩ :=
  (((Below.refl _ w).alloc (Nat.le_refl _) x).frozen (p := ⟨b, o, none⟩) h)
theorem isStrs_ownAny {w : World} {B n cap : Nat} {y : Option Addr} {zs : List ByteArray} (h : w.ownsRow B 9 1 (.slice y n cap) n (sv zs)) (hl : zs.length = n) (hz : ∀ s ∈ zs, s.size ≤ maxLen) : IsStrs w y n cap zs := by
  rcases h.2 with ⟨h', h0⟩ | ⟨g, _, _, h', _⟩
  · cases h'
    have : zs = [] := List.length_eq_zero_iff.1 hl
    subst this
    exact isStrs_nil w
  · cases h'
    exact isStrs_own h hz
/-- A row of images of letters among the first n. -/
def rowOk (n : Int) (zs : List ByteArray) : Prop := ∀ z ∈ zs, (1 ≤ z.size ∧ z.size ≤ 4) ∧ ∀ j, j < z.size → 97 ≤ bt z j ∧ bt z j < 97 + n
theorem rowOk_sB {n : Nat} {zs : List ByteArray} (h1 : 1 ≤ n) (h3 : n ≤ 3) (hl : zs.length = n) (h : rowOk n zs) : sB zs = true := by
  refine sB_yes ⟨⟨by omega, by omega⟩, fun j hj => ?_⟩
  have hm : zs.getD j ByteArray.empty ∈ zs := by
    rw [List.getD_eq_getElem?_getD, List.getElem?_eq_getElem hj]; exact List.getElem_mem _
  obtain ⟨⟨a, b⟩, c⟩ := h _ hm
  refine ⟨⟨a, by omega⟩, ⟨by omega, fun i hi => ?_⟩, fun i hi => ?_⟩
  · have := c i hi; unfold inL; omega
  · have := c i hi; unfold lt; omega
theorem bt_of_list {l : List UInt8} {k : Int} (h : ∀ b ∈ l, 97 ≤ b.toNat ∧ (b.toNat : Int) < 97 + k) : ∀ j, j < (⟨l.toArray⟩ : ByteArray).size → 97 ≤ bt ⟨l.toArray⟩ j ∧ bt ⟨l.toArray⟩ j < 97 + k := by
  intro j hj
  have hj' : j < l.length := by simpa [ByteArray.size] using hj
  have := h _ (List.getElem_mem hj')
  rw [← bt_eq _ j hj]
  have e : ((⟨l.toArray⟩ : ByteArray)[j]'hj) = l[j] := by
    show l.toArray[j] = l[j]
    simp
  rw [e]; omega
theorem l02Word_int (B g : Nat) (x : Option Addr) (n cap : Nat) (K : Int) (hK1 : 0 ≤ K) (hK2 : K ≤ 1000) (k : Int) (hk1 : 1 ≤ k) (hk2 : k ≤ 26) (w : World) (hB : B ≤ g) (hr : RB B w x n) (hc : Cur w g x n cap) :
    Calls Tryd.prog 55 #[.pointer (some ⟨g, 0, none⟩), .int .i64 K, .int .i64 k] w fun e w' => ∃ l : List UInt8, e = .returned (.string ⟨l.toArray⟩) ∧ (l.length : Int) = K ∧ (∀ b ∈ l, 97 ≤ b.toNat ∧ (b.toNat : Int) < 97 + k) ∧ Cur w' g x n cap ∧ w.grownBy w' (some g) := by
  obtain ⟨N, rfl⟩ : ∃ N : Nat, K = (N : Int) := ⟨K.toNat, by omega⟩
  exact (l02Word_any B g x n cap N (by omega) k hk1 hk2 w hB hr hc).mono fun e w' ⟨l, h1, h2, h3⟩ => ⟨l, h1, by omega, h3⟩
set_option maxRecDepth 20000 in
set_option maxHeartbeats 4000000 in
theorem l03Draw_any (B g : Nat) (x : Option Addr) (n cap : Nat) (w : World) (hB : B ≤ g) (hr : RB B w x n) (hc : Cur w g x n cap) :
    Calls Tryd.prog 53 #[.pointer (some ⟨g, 0, none⟩)] w fun e w' => ∃ y cy zs, e = .returned (.agg #[.slice y zs.length cy]) ∧ sB zs = true ∧ IsStrs w' y zs.length cy zs ∧ (∀ b off, y = some ⟨b, off, none⟩ → w.heap.size ≤ b) ∧ w.grownBy w' (some g) := by
  have hgw := cur_lt hc
  have hbW : Below w.heap.size w (w.alloc (.cells #[.slice none 0 0] 27)) := (Below.refl _ w).alloc (Nat.le_refl _) _
  have hC1 := l01Once_any B g x n cap 2 (by omega) (by omega) (w.alloc (.cells #[.slice none 0 0] 27)) hB (rB_below hr (hbW.mono (by omega))) (cur_below hc hbW hgw)
  have hrH := Lib.hid hr
  clear hr hc
  go_enter Tryd.func53, Tryd.ntmps53
  go_wp2_with fail
  refine hC1.mono ?_
  rintro e w1 ⟨b, rfl, hc1, hg1⟩
  have hz1 := hg1.size
  have hg01 : w.grownBy w1 (some g) := grown_gg (grown_alloc (World.grownBy.refl _ _) _) hg1
  have hr1 := rB_grown hrH.out hg01 (by omega) hB
  have c1 : w1.cell? ⟨w.heap.size, 0, none⟩ = some (.slice none 0 0) := (hg1.cell_far _ (by simp) (by simp; omega)).trans (by simp [go_sem])
  have f1 : w1.frozen? ⟨w.heap.size, 0, none⟩ = false := (hg1.frozen_far _ (by simp) (by simp; omega)).trans (by simp [go_sem])
  simp only [World.size_alloc] at hz1
  have hs1 : w.heap.size < w1.heap.size := by omega
  cases b
  · have hC2 := l01Below_any B g x n cap 3 (by omega) (by omega) w1 hB hr1 hc1
    go_wp2_with fail
    refine hC2.mono ?_
    rintro e w2 ⟨v, rfl, ⟨hv0, hv1⟩, hc2, hg2⟩
    have hz2 := hg2.size
    have hg02 : w.grownBy w2 (some g) := grown_gg hg01 hg2
    have c2 : w2.cell? ⟨w.heap.size, 0, none⟩ = some (.slice none 0 0) := (hg2.cell_far ⟨w.heap.size, 0, none⟩ hs1 (by simp; omega)).trans c1
    have f2 : w2.frozen? ⟨w.heap.size, 0, none⟩ = false := (hg2.frozen_far ⟨w.heap.size, 0, none⟩ hs1 (by simp; omega)).trans f1
    have hs2 : w.heap.size < w2.heap.size := by omega
    obtain ⟨N, hN⟩ : ∃ N : Nat, (N : Int) = 1 + v := ⟨(1 + v).toNat, by omega⟩
    have i9 : IntKind.i64.wrap (1 + v) = 1 + v := IntWalk.i64_in _ (by omega)
    have hN1 : 1 ≤ N := by omega
    have hN3 : N ≤ 3 := by omega
    obtain ⟨i0, hi0, hz0, hz1, hz2⟩ := info_parts infoS
    go_wp2_with fail
    clear hc1 hr1
    go_loopw [7] (fun i wr => ∃ (k cy : Nat) (y : Option Addr) (zs : List ByteArray), k ≤ N ∧ i = .int .i64 k ∧ zs.length = k ∧ rowOk (1 + v) zs ∧ wr.cell? ⟨w2.heap.size, 0, none⟩ = some (.slice y k cy) ∧ wr.frozen? ⟨w2.heap.size, 0, none⟩ = false ∧ wr.ownsRow (w2.heap.size + 1) 9 1 (.slice y k cy) k (sv zs) ∧ wr.cell? ⟨w.heap.size, 0, none⟩ = some (.slice none 0 0) ∧ wr.frozen? ⟨w.heap.size, 0, none⟩ = false ∧ w2.heap.size < wr.heap.size ∧ Cur wr g x n cap ∧ w.grownBy wr (some g)) (fun i _ => N - (intOf i).toNat)
    case atStart => exact ⟨0, 0, none, [], by omega, rfl, rfl, by intro z hz; simp at hz, by simp [go_sem], by simp [go_sem], World.ownsRow_nil _ _ _ _, (calloc hs2).trans c2, (falloc hs2).trans f2, by simp, cur_below hc2 ((Below.refl _ w2).alloc (Nat.le_refl _) _) (cur_lt hc2), grown_alloc hg02 _⟩
    case round =>
      obtain ⟨k, cy, y, zs, hk, rfl, hl, hrow, k6, kf6, hown, c3, f3, hz3, hc3, hg3⟩ := hrel
      have hwz := hg3.size
      have hg3' := cur_lt hc2
      have hs3 : w.heap.size < wr.heap.size := by omega
      by_cases hlt : k < N
      · have i1 : (k : Int) < 1 + v := by omega
        have i8 : IntKind.i64.wrap ((k : Int) + 1) = (k : Int) + 1 := IntWalk.i64_in _ (by omega)
        have hrow' := Lib.hid hrow
        have hl' := Lib.hid hl
        have hr3 := rB_grown hrH.out hg3 (by omega) hB
        have hown' := Lib.hid hown
        clear hrow hl hc2 hown
        go_wp2_with fail
        go_region_law (first | (((refine step_append_lies _ (by rfl) _ _ _ (by rfl) (w2.heap.size + 1) 9 i0 _ 1 16 Tryd.underlying25 hi0 hz0 hz1 hz2 rfl (by decide) (.slice y k cy) (k) (sv zs) (by rfl) (hown7.alloc _) ⟨(w7).heap.size, 0, none⟩ 1 1 [.string ⟨L.toArray⟩] (by rfl) (by rfl) (World.news_of_block (cs := #[.string ⟨L.toArray⟩]) (t := 9) (fr := (0, 0)) (heap_alloc_new (w7) _)) (by simp [Value.oneCell']) (by omega) (by unfold maxLen; omega) (by omega) (by simp; omega) ((w7).heap.size + 1) (by simp) ?_; intro gg cap w1 hown1 hgrow hatg hltg)); have k9 := (hgrow.cell_far ⟨w2.heap.size, 0, none⟩ (by simp; omega) (fun e => by have := (hown7.lt w2.heap.size e.symm).1; omega)).trans ((calloc hz7').trans k8); have kf9 := (hgrow.frozen_far ⟨w2.heap.size, 0, none⟩ (by simp; omega) (fun e => by have := (hown7.lt w2.heap.size e.symm).1; omega)).trans ((falloc hz7').trans kf8)) | (go_simp; go_at_call 56; (with_reducible refine (l01Below_any B g x n cap 4 (by omega) (by omega) wr.drew hB (rB_drew hr3) (cur_drew hc3)).mono ?_); rintro e w6 ⟨v4, rfl, ⟨a0, a1⟩, hc6, hg6⟩; have hz6 := size_drewI hg6.size; have hz6' : w2.heap.size < w6.heap.size := (by omega); have hg36 : w.grownBy w6 (some g) := grown_drewF hg3 hg6; have k7 : w6.cell? ⟨w2.heap.size, 0, none⟩ = some (.slice y k cy) := (hg6.cell_far ⟨w2.heap.size, 0, none⟩ hz3 (by simp; omega)).trans (cell_drewI k6); have kf7 : w6.frozen? ⟨w2.heap.size, 0, none⟩ = false := (hg6.frozen_far ⟨w2.heap.size, 0, none⟩ hz3 (by simp; omega)).trans (frozen_drewI kf6); have i4 : IntKind.i64.wrap (1 + v4) = 1 + v4 := IntWalk.i64_in _ (by omega)) | (go_simp; go_at_call 55; (with_reducible refine (l02Word_int B g x n cap (1 + v4) (by omega) (by omega) (1 + v) (by omega) (by omega) w6 hB (rB_grown hrH.out hg36 (by omega) hB) hc6).mono ?_); rintro e w7 ⟨L, rfl, hL, hLb, hc7, hg7⟩; have hz7 : w6.heap.size ≤ w7.heap.size := hg7.size; have hz7' : w2.heap.size < w7.heap.size := (by omega); have hg37 : wr.grownBy w7 (some g) := grown_gg (grown_drewF (World.grownBy.refl _ _) hg6) hg7; have k8 : w7.cell? ⟨w2.heap.size, 0, none⟩ = some (.slice y k cy) := (hg7.cell_far ⟨w2.heap.size, 0, none⟩ hz6' (by simp; omega)).trans k7; have kf8 : w7.frozen? ⟨w2.heap.size, 0, none⟩ = false := (hg7.frozen_far ⟨w2.heap.size, 0, none⟩ hz6' (by simp; omega)).trans kf7; have hown7 := hown'.out.kept hg37 (.inr (fun e => by have := (hown'.out.lt g e).1; omega)); have hL' := Lib.hid hL; have hLb' := Lib.hid hLb; clear hL hLb))
        all_goals go_wp2
        all_goals
          have hg7 : wr.grownBy w7 (some g) := hg37
          have hz8 := hgrow.size
          simp only [World.size_alloc] at hz8
          have hob : ∀ b, b ≤ w2.heap.size → some b ≠ (Value.slice y k cy).ownBlock := fun b hb e => by
            have := (hown7.lt b e.symm).1; omega
          have hc9 := cur_far (cur_below hc7 ((Below.refl _ w7).alloc (Nat.le_refl _) (.cells #[.string ⟨L.toArray⟩] 9)) (cur_lt hc7)) hgrow (hob g (by omega))
          refine ⟨⟨k + 1, cap, some ⟨gg, 0, none⟩, zs ++ [⟨L.toArray⟩], by omega, by go_num, by simp [hl'.out], ?_, by rw [csame, k9]; rfl, (World.frozen?_setCell _ _ _ _).trans kf9, ?_, ?_, ?_, by simp; omega, cur_far hc9 (grown_set _ _ _ _) (by simp; omega), ?_⟩, by simp [intOf]; omega⟩
          · intro z hz
            rcases List.mem_append.1 hz with q | q
            · exact hrow'.out z q
            · rw [List.mem_singleton] at q; subst q
              have e := hL'.out
              exact ⟨⟨by simp [ByteArray.size]; omega, by simp [ByteArray.size]; omega⟩, bt_of_list hLb'.out⟩
          · rw [sv_snoc]
            exact ownsRow_setCell_below hown1 (by show w2.heap.size < _; omega) _
          · exact (cset (by omega)).trans ((hgrow.cell_far ⟨w.heap.size, 0, none⟩ (by show w.heap.size < _; simp; omega) (hob w.heap.size (by omega))).trans ((calloc (by omega)).trans ((hg7.cell_far ⟨w.heap.size, 0, none⟩ hs3 (by simp; omega)).trans c3)))
          · exact (World.frozen?_setCell _ _ _ _).trans ((hgrow.frozen_far ⟨w.heap.size, 0, none⟩ (by show w.heap.size < _; simp; omega) (hob w.heap.size (by omega))).trans ((falloc (by omega)).trans ((hg7.frozen_far ⟨w.heap.size, 0, none⟩ hs3 (by simp; omega)).trans f3)))
          · exact grown_new (grown_new (grown_alloc (grown_gg hg3 hg7) _) hgrow (fun b e => by have := (hown7.lt b e).1; omega)) (grown_set _ _ _ _) (fun b e => by cases e; omega)
      · obtain rfl : k = N := by omega
        have hS := rowOk_sB hN1 hN3 hl (by rw [hN]; exact hrow)
        have hsm : ∀ z ∈ zs, z.size ≤ maxLen := fun z hz => by have := (hrow z hz).1.2; unfold maxLen; omega
        have hst : IsStrs wr y k cy zs := isStrs_ownAny hown hl hsm
        have hyB : ∀ b off, y = some ⟨b, off, none⟩ → w2.heap.size < b := fun b off e => by
          subst e
          rcases hown.2 with ⟨h', _⟩ | ⟨g', _, _, h', hg', _⟩
          · cases h'
          · cases h'; omega
        have hl' := Lib.hid hl
        have i1 : ¬ (k : Int) < 1 + v := by omega
        clear hrow hsm hl hc2
        go_wp2
        refine bodyPost_ret (v := .agg #[.slice y k cy]) (by simp [results, Tryd.results53, go_sem, csame, cset, *]) rfl ⟨y, cy, zs, by rw [hl'.out], hS, ?_, (fun b off e => by have := hyB b off e; omega), ?_⟩
        · rw [hl'.out]
          exact isStrs_setG hst (fun b off e => by have := hyB b off e; omega)
        · exact grown_new hg3 (grown_set _ _ _ _) (fun b e => by cases e; omega)
  · have own7 : (w1.alloc (.cells #[.string nmFib, .string nmThue, .string nmDoub, .string nmTrib, .string nmSilv, .string nmSqua, .string nmRudi] 9)).ownsRow w1.heap.size 9 1 (.slice (some ⟨w1.heap.size, 0, none⟩) 7 7) 7 (sv names) := World.ownsRow_lit w1 #[.string nmFib, .string nmThue, .string nmDoub, .string nmTrib, .string nmSilv, .string nmSqua, .string nmRudi] 7 (Nat.le_refl _) (by decide) rfl
    have hgA : w.grownBy (w1.alloc (.cells #[.string nmFib, .string nmThue, .string nmDoub, .string nmTrib, .string nmSilv, .string nmSqua, .string nmRudi] 9)) (some g) := grown_alloc hg01 _
    have hStr := l01Str_any B g x n cap (some ⟨w1.heap.size, 0, none⟩) 7 7 names _ (by omega) (by omega) (isStrs_own own7 (by intro z hz; simp [names] at hz; rcases hz with rfl | rfl | rfl | rfl | rfl | rfl | rfl <;> (unfold maxLen; decide))) (fun b off e => by cases e; have := cur_lt hc1; omega) hB (rB_grown hrH.out hgA (by omega) hB) (cur_below hc1 ((Below.refl _ w1).alloc (Nat.le_refl _) (.cells #[.string nmFib, .string nmThue, .string nmDoub, .string nmTrib, .string nmSilv, .string nmSqua, .string nmRudi] 9)) (cur_lt hc1))
    unfold nmFib nmThue nmDoub nmTrib nmSilv nmSqua nmRudi at hStr hgA
    clear own7
    go_wp2_with fail
    refine hStr.mono ?_
    rintro e w2 ⟨z, rfl, hzm, hc2, hg2⟩
    have hz2 := hg2.size
    simp only [World.size_alloc] at hz2
    have hg02 : w.grownBy w2 (some g) := grown_gg hgA hg2
    have c2 : w2.cell? ⟨w.heap.size, 0, none⟩ = some (.slice none 0 0) := (hg2.cell_far ⟨w.heap.size, 0, none⟩ (by simp; omega) (by simp; omega)).trans ((calloc hs1).trans c1)
    have f2 : w2.frozen? ⟨w.heap.size, 0, none⟩ = false := (hg2.frozen_far ⟨w.heap.size, 0, none⟩ (by simp; omega) (by simp; omega)).trans ((falloc hs1).trans f1)
    have hs2 : w.heap.size < w2.heap.size := by omega
    have hNm := named_any z hzm w2
    go_wp2_with (go_at_call 92; refine hNm.mono ?_; rintro e w3 ⟨y, cy, zs, rfl, hS, hst, hy, hb3⟩; obtain ⟨hc3, hf3⟩ := bcell hb3; have hl3 := ltW hb3)
    have hz3 := hb3.size
    have hs3 : w.heap.size < w3.heap.size := by omega
    have hg03 := grownG_below hg02 hb3
    have c3 : w3.cell? ⟨w.heap.size, 0, none⟩ = some (.slice none 0 0) := (hc3 _ 0 hs2).trans c2
    have f3 : w3.frozen? ⟨w.heap.size, 0, none⟩ = false := (hf3 _ 0 hs2).trans f2
    refine bodyPost_ret (v := .agg #[.slice y zs.length cy]) (by simp [results, Tryd.results53, go_sem, csame, cset, *]) rfl ⟨y, cy, zs, rfl, hS, ?_, (fun b off e => by have := hy b off e; omega), ?_⟩
    · exact isStrs_below (isStrs_setG hst (fun b off e => by have := hy b off e; omega)) (Nat.le_refl _) ((Below.refl _ _).alloc (Nat.le_refl _) _)
    · exact grown_alloc (grown_new hg03 (grown_set _ _ _ _) (fun k hk => by cases hk; exact Nat.le_refl _)) _
set_option maxRecDepth 20000 in
set_option maxHeartbeats 1000000 in
theorem MakeSubst_any (B : Nat) (x : Option Addr) (n cap m : Nat) (hm : m ≤ 1000) (w : World) (hB : B ≤ w.heap.size) (hr : RB B w x n) :
    Calls Tryd.prog 9 #[.slice x n cap, .int .i64 m] w fun e w' => ∃ y cy zs, e = .returned (.agg #[.slice y zs.length cy]) ∧ sB zs = true ∧ IsStrs w' y zs.length cy zs ∧ (∀ b off, y = some ⟨b, off, none⟩ → w.heap.size ≤ b) ∧ Below w.heap.size w w' := by
  have hbW : Below w.heap.size w (w.alloc (.cells #[.slice none 0 0] 27)) := (Below.refl _ w).alloc (Nat.le_refl _) _
  have hrW : RB w.heap.size (w.alloc (.cells #[.slice none 0 0] 27)) x n := rB_below (rB_mono hr hB) hbW
  have hC1 := l31New_any w.heap.size x n cap m hm _ (by simp) hrW
  clear hr
  go_enter Tryd.func9, Tryd.ntmps9
  go_wp2_with (first | (go_at_call 54; refine hC1.mono ?_; rintro e w1 ⟨g, rfl, hg, hc1, hb1⟩; have hz1 := hb1.size; (simp at hg); have hk1 := fun o => hb1.cell (p := ⟨w.heap.size, o, none⟩) (by simp); have hk2 := fun o => hb1.frozen (p := ⟨w.heap.size, o, none⟩) (by simp)) | (go_at_call 53; refine (l03Draw_any (w.heap.size + 1) g x n cap w1 hg (rB_below (rB_mono hrW (by omega)) (hb1.mono (by simp))) hc1).mono ?_; rintro e w2 ⟨y, cy, zs, rfl, hS, hst, hy, hg2⟩; have hz2 := hg2.size; have hb2 := below_of_grown (B := w.heap.size + 1) hg2 (by simp at hz1; omega) hg; have hk3 := fun o => hb2.cell (p := ⟨w.heap.size, o, none⟩) (by simp); have hk4 := fun o => hb2.frozen (p := ⟨w.heap.size, o, none⟩) (by simp)))
  simp only [World.size_alloc] at hz1
  have hbA : Below w.heap.size w w2 := (hbW.trans (hb1.mono (by simp))).trans (hb2.mono (by omega))
  refine bodyPost_ret (v := .agg #[.slice y zs.length cy]) (by simp [results, Tryd.results9, go_sem, cset, csame, *]) rfl ⟨y, cy, zs, rfl, hS, isStrs_setG hst (fun b off e => by have := hy b off e; omega), (fun b off e => by have := hy b off e; omega), ?_⟩
  (repeat (first | with_reducible exact Below.refl _ _ | assumption | with_reducible refine Qdrew ?_ | with_reducible refine QdrewN ?_ | ((with_reducible refine Qset ?_ ?_); exact (by ((try simp only [World.size_alloc, World.size_setCell, World.size_drew, size_drewN]); (try dsimp only); omega))) | ((with_reducible refine Qalloc ?_ ?_); exact (by ((try simp only [World.size_alloc, World.size_setCell, World.size_drew, size_drewN]); (try dsimp only); omega))) | refine Qtrans (by assumption) (by ((try simp only [World.size_alloc, World.size_setCell, World.size_drew, size_drewN]); (try dsimp only); omega)) ?_))
end Go.Proofs.YtilbhingfnjppaaDoor
