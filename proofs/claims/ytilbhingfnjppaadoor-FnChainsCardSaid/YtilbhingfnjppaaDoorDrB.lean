/- The laws' draws: substitutions. -/
import Derived.Test.YtilbhingfnjppaaDoorDrA
set_option linter.unusedSimpArgs false
set_option linter.unusedVariables false
namespace Go.Proofs.YtilbhingfnjppaaDoor
open Go.RowKit
/-! ### What is split and joined again is as it was -/
theorem ba_empty_app (a : ByteArray) : (⟨#[]⟩ : ByteArray) ++ a = a := by apply ByteArray.ext; simp
theorem ext_join {s : ByteArray} {i j k : Nat} (h1 : i ≤ j) (h2 : j ≤ k) : s.extract i j ++ s.extract j k = s.extract i k := by
  apply ByteArray.ext
  simp [ByteArray.data_append, ByteArray.data_extract, Nat.min_eq_left h1, Nat.max_eq_right h2]
theorem ext_one {s : ByteArray} {k : Nat} (h : bt s k = 44) : (⟨#[44]⟩ : ByteArray) = s.extract k (k + 1) := by
  have hk : k < s.size := by
    rcases Nat.lt_or_ge k s.size with q | q
    · exact q
    · unfold bt at h; rw [dif_neg (by omega)] at h; omega
  have hb : s[k]'hk = 44 := by
    have := bt_eq s k hk
    rw [h] at this
    exact UInt8.toNat_inj.1 (by have : (s[k]'hk).toNat = 44 := by omega
                                exact this)
  apply ByteArray.ext
  apply Array.ext
  · simp; have : s.data.size = s.size := rfl; omega
  · intro i h1 h2
    have : i = 0 := by simpa using h1
    subst this
    simp
    have : s.data[k]'(by exact hk) = 44 := hb
    rw [this]
theorem joi_congr {zs ys : List ByteArray} : ∀ k, (∀ j, j < k → zs.getD j ByteArray.empty = ys.getD j ByteArray.empty) → joi zs k = joi ys k
  | 0, _ => rfl
  | k + 1, h => by
    unfold joi
    rw [joi_congr k (fun j hj => h j (by omega)), h k (by omega)]
def pre (D : List ByteArray) : ByteArray := if D.length = 0 then (⟨#[]⟩ : ByteArray) else joi D D.length ++ ⟨#[44]⟩
theorem joi_snoc (D : List ByteArray) (z : ByteArray) : joi (D ++ [z]) (D.length + 1) = pre D ++ z := by
  have e : (D ++ [z]).getD D.length ByteArray.empty = z := by simp [List.getD_eq_getElem?_getD]
  have e2 : joi (D ++ [z]) D.length = joi D D.length := joi_congr _ (fun j hj => by simp [List.getD_eq_getElem?_getD, List.getElem?_append_left hj])
  unfold joi pre
  rw [e, e2]
theorem spl_pre (s : ByteArray) : ∀ k, pre (spl s k).1 ++ s.extract (spl s k).2 k = s.extract 0 k
  | 0 => by simp [spl, pre]; apply ByteArray.ext; simp
  | k + 1 => by
    have ih := spl_pre s k
    have hle := (spl_le s k).1
    by_cases h : bt s k = 44
    · rw [spl_yes h]
      have e : pre ((spl s k).1 ++ [s.extract (spl s k).2 k]) = s.extract 0 k ++ s.extract k (k + 1) := by
        rw [← ext_one h, ← ih, ← joi_snoc]
        unfold pre
        rw [if_neg (by simp), List.length_append]; rfl
      simp only
      rw [e, ext_join (by omega) (by omega), ext_join (by omega) (by omega)]
    · rw [spl_no h]
      rw [← ext_join (i := (spl s k).2) (j := k) (k := k + 1) (by omega) (by omega), ← ext_join (i := 0) (j := k) (k := k + 1) (by omega) (by omega), ← ih, ByteArray.append_assoc]
theorem joi_splt (s : ByteArray) : joi (splt s) (splt s).length = s := by
  unfold splt
  rw [List.length_append]
  show joi _ ((spl s s.size).1.length + 1) = s
  rw [joi_snoc, spl_pre]
  apply ByteArray.ext; simp
theorem s_small {zs : List ByteArray} (h : sB zs = true) : zs.length ≤ 4 ∧ ∀ j, (zs.getD j ByteArray.empty).size ≤ 8 := by
  obtain ⟨⟨_, h4⟩, hj⟩ := s_of h
  refine ⟨h4, fun j => ?_⟩
  by_cases q : j < zs.length
  · exact (hj j q).1.2
  · rw [List.getD_eq_getElem?_getD, List.getElem?_eq_none (by omega)]
    show ByteArray.empty.size ≤ 8
    decide
noncomputable def fmtV (zs : List ByteArray) : ByteArray := if sB zs = true then joi zs zs.length else ⟨#[]⟩
set_option maxRecDepth 20000 in
set_option maxHeartbeats 1000000 in
theorem specFormat_any (x : Option Addr) (n cap : Nat) (zs : List ByteArray) (w : World) (h : IsStrs w x n cap zs) (hn : n ≤ 1048576) :
    Calls Tryd.prog 133 #[.agg #[.slice x n cap]] w fun e w' => e = .returned (.string (fmtV zs)) ∧ Below w.heap.size w w' := by
  have hb0 : Below w.heap.size w (w.alloc (.cells #[.slice x n cap] 27)) := (Below.refl _ w).alloc (Nat.le_refl _) _
  have h0 := isStrs_below h (Nat.le_refl _) hb0
  have hl := h.1
  cases hS : sB zs
  · have e1 : Hid (fmtV zs = ⟨#[]⟩) := by show _ = _; unfold fmtV; rw [hS]; rfl
    go_enter Tryd.func133, Tryd.ntmps133
    go_wp2_with (go_at_call 132; refine (specSubstOk_any _ _ _ _ _ h0 hn).mono ?_; rintro e w2 ⟨rfl, hb2⟩; obtain ⟨hc2, hf2⟩ := bcell hb2; have hl2 := ltW hb2)
    go_ret
    exact ⟨by rw [e1.out]; rfl, by (repeat (first | with_reducible exact Below.refl _ _ | assumption | with_reducible refine Qdrew ?_ | with_reducible refine QdrewN ?_ | ((with_reducible refine Qset ?_ ?_); exact (by ((try simp only [World.size_alloc, World.size_setCell, World.size_drew, size_drewN]); (try dsimp only); omega))) | ((with_reducible refine Qalloc ?_ ?_); exact (by ((try simp only [World.size_alloc, World.size_setCell, World.size_drew, size_drewN]); (try dsimp only); omega))) | refine Qtrans (by assumption) (by ((try simp only [World.size_alloc, World.size_setCell, World.size_drew, size_drewN]); (try dsimp only); omega)) ?_))⟩
  · have e1 : Hid (fmtV zs = joi zs n) := by show _ = _; unfold fmtV; rw [if_pos hS, hl]
    obtain ⟨h4, h8⟩ := s_small hS
    rw [hl] at h4
    have h8' : ∀ j, (zs.getD j ByteArray.empty).size ≤ 1000000 := fun j => by have := h8 j; omega
    have h8H := Lib.hid h8'
    clear h8 h8'
    go_enter Tryd.func133, Tryd.ntmps133
    go_wp2_with (first | (go_at_call 132; refine (specSubstOk_any _ _ _ _ _ h0 hn).mono ?_; rintro e w2 ⟨rfl, hb2⟩; obtain ⟨hc2, hf2⟩ := bcell hb2; have hl2 := ltW hb2; have hst2 := isStrs_below h0 (Nat.le_refl _) hb2) | (go_at_call 150; refine (Join_any _ _ _ _ _ hst2 (by omega) h8H.out).mono ?_; rintro e w3 ⟨rfl, rfl⟩))
    go_ret
    exact ⟨by rw [e1.out]; rfl, by (repeat (first | with_reducible exact Below.refl _ _ | assumption | with_reducible refine Qdrew ?_ | with_reducible refine QdrewN ?_ | ((with_reducible refine Qset ?_ ?_); exact (by ((try simp only [World.size_alloc, World.size_setCell, World.size_drew, size_drewN]); (try dsimp only); omega))) | ((with_reducible refine Qalloc ?_ ?_); exact (by ((try simp only [World.size_alloc, World.size_setCell, World.size_drew, size_drewN]); (try dsimp only); omega))) | refine Qtrans (by assumption) (by ((try simp only [World.size_alloc, World.size_setCell, World.size_drew, size_drewN]); (try dsimp only); omega)) ?_))⟩
/-- What a text stands for. -/
noncomputable def parL (s : ByteArray) : List ByteArray := if sB (splt s) = true then splt s else []
theorem isStrs_nil (w : World) : IsStrs w none 0 0 [] := ⟨rfl, Nat.le_refl _, by unfold maxLen; omega, by simp, .inl rfl⟩
theorem isStrs_setG {w : World} {x : Option Addr} {n cap g o : Nat} {v : Value} {zs : List ByteArray} (h : IsStrs w x n cap zs) (hx : ∀ b off, x = some ⟨b, off, none⟩ → b ≠ g) : IsStrs (w.setCell ⟨g, o, none⟩ v) x n cap zs := by
  refine ⟨h.1, h.2.1, h.2.2.1, h.2.2.2.1, ?_⟩
  rcases h.2.2.2.2 with h0 | ⟨b, off, rfl, hlt, hc⟩
  · exact .inl h0
  · exact .inr ⟨b, off, rfl, by simpa using hlt, fun j hj => (cset (hx b off rfl)).trans (hc j hj)⟩
theorem isStrs_lt {w : World} {x : Option Addr} {n cap : Nat} {zs : List ByteArray} (h : IsStrs w x n cap zs) (hn : 0 < n) : ∀ b off, x = some ⟨b, off, none⟩ → b < w.heap.size := fun b off e => by
  rcases h.2.2.2.2 with h0 | ⟨b', off', e', hlt, _⟩
  · omega
  · rw [e] at e'; cases e'; exact hlt
theorem beq_self_str (s : ByteArray) : (s.toList == s.toList) = true := by simp
set_option maxRecDepth 20000 in
set_option maxHeartbeats 2000000 in
theorem specParse_any (s : ByteArray) (w : World) (hs : s.size ≤ 40) :
    Calls Tryd.prog 112 #[.string s] w fun e w' => ∃ x cap, e = .returned (.tuple #[.agg #[.slice x (parL s).length cap], .bool (sB (splt s))]) ∧ IsStrs w' x (parL s).length cap (parL s) ∧ (∀ b off, x = some ⟨b, off, none⟩ → w.heap.size ≤ b) ∧ Below w.heap.size w w' := by
  have hl41 := splt_len s
  have hsm := splt_small s (by omega)
  have hjs := joi_splt s
  have hpl : Hid (sB (splt s) = true → parL s = splt s) := fun h => by unfold parL; rw [if_pos h]
  have hpn : Hid (¬ sB (splt s) = true → parL s = []) := fun h => by unfold parL; rw [if_neg h]
  have hSp := fun (w : World) => SplitAny_any s ⟨#[44]⟩ w (by omega) rfl rfl
  obtain ⟨D, hD⟩ : ∃ D, splt s = D := ⟨_, rfl⟩
  rw [hD] at hl41 hsm hjs hSp hpl hpn
  rw [hD]
  obtain ⟨n, hn⟩ : ∃ n, D.length = n := ⟨_, rfl⟩
  rw [hn] at hl41 hSp hjs
  have hn' := Lib.hid hn
  have hsm' := Lib.hid hsm
  have hjs' := Lib.hid hjs
  have hs40 : ¬ (40 : Int) < (s.size : Int) := by omega
  clear hD hn hsm hjs
  have hb0 : Below w.heap.size w (w.alloc (.cells #[.slice none 0 0] 27)) := (Below.refl _ w).alloc (Nat.le_refl _) _
  cases hS : sB D
  · have e1 : Hid (parL s = []) := hpn.out (by rw [hS]; simp)
    go_enter Tryd.func112, Tryd.ntmps112
    go_wp2_with (go_at_call 131; refine (hSp _).mono ?_; rintro e w1 ⟨g1, c1, rfl, h1, hb1⟩; obtain ⟨hc1, hf1⟩ := bcell hb1; have hl1 := ltW hb1)
    have hz1 := hb1.size
    simp only [World.size_alloc] at hz1
    have hs1 : w.heap.size < w1.heap.size := by omega
    have hB1 : Below w1.heap.size w1 (w1.alloc (.cells #[.slice (some ⟨g1, 0, none⟩) n c1] 27)) := (Below.refl _ w1).alloc (Nat.le_refl _) _
    have a1 := isStrs_below (isStrs_own h1 hsm'.out) (Nat.le_refl _) hB1
    go_wp2_with (go_at_call 132; refine (specSubstOk_any _ _ _ _ _ a1 (by omega)).mono ?_; rintro e w2 ⟨rfl, hb2⟩; obtain ⟨hc2, hf2⟩ := bcell hb2; have hl2 := ltW hb2)
    have hz2 := hb2.size
    simp only [World.size_alloc] at hz2
    have hs2 : w.heap.size < w2.heap.size := by omega
    have hs3 : w1.heap.size < w2.heap.size := by omega
    refine bodyPost_ret (v := .tuple #[.agg #[.slice none 0 0], .bool false]) (by simp [results, Tryd.results112, go_sem, csame, cset, *]) rfl ⟨none, 0, by rw [e1.out]; rfl, by rw [e1.out]; exact isStrs_nil _, (fun b off e => by cases e), by (repeat (first | with_reducible exact Below.refl _ _ | assumption | with_reducible refine Qdrew ?_ | with_reducible refine QdrewN ?_ | ((with_reducible refine Qset ?_ ?_); exact (by ((try simp only [World.size_alloc, World.size_setCell, World.size_drew, size_drewN]); (try dsimp only); omega))) | ((with_reducible refine Qalloc ?_ ?_); exact (by ((try simp only [World.size_alloc, World.size_setCell, World.size_drew, size_drewN]); (try dsimp only); omega))) | refine Qtrans (by assumption) (by ((try simp only [World.size_alloc, World.size_setCell, World.size_drew, size_drewN]); (try dsimp only); omega)) ?_))⟩
  · have e1 : Hid (parL s = D) := hpl.out hS
    have e2 : Hid (fmtV D = s) := by
      show _ = _
      unfold fmtV
      rw [if_pos hS, hn'.out, hjs'.out]
    have hlt0 : w.heap.size < w.heap.size + 1 := by omega
    go_enter Tryd.func112, Tryd.ntmps112
    go_wp2_with (go_at_call 131; refine (hSp _).mono ?_; rintro e w1 ⟨g1, c1, rfl, h1, hb1⟩; obtain ⟨hc1, hf1⟩ := bcell hb1; have hl1 := ltW hb1)
    have hz1 := hb1.size
    simp only [World.size_alloc] at hz1
    have hs1 : w.heap.size < w1.heap.size := by omega
    have hB1 : Below w1.heap.size w1 (w1.alloc (.cells #[.slice (some ⟨g1, 0, none⟩) n c1] 27)) := (Below.refl _ w1).alloc (Nat.le_refl _) _
    have a1 := isStrs_below (isStrs_own h1 hsm'.out) (Nat.le_refl _) hB1
    go_wp2_with (go_at_call 132; refine (specSubstOk_any _ _ _ _ _ a1 (by omega)).mono ?_; rintro e w2 ⟨rfl, hb2⟩; obtain ⟨hc2, hf2⟩ := bcell hb2; have hl2 := ltW hb2)
    have hz2 := hb2.size
    simp only [World.size_alloc] at hz2
    have hs2 : w.heap.size < w2.heap.size := by omega
    have hs3 : w1.heap.size < w2.heap.size := by omega
    have a2 := isStrs_below a1 (Nat.le_refl _) hb2
    have k2 : w2.cell? ⟨w1.heap.size, 0, none⟩ = some (.slice (some ⟨g1, 0, none⟩) n c1) := (hc2 _ 0 (by simp)).trans (by simp [go_sem])
    have hF := specFormat_any _ _ _ _ w2 a2 (by omega)
    rw [e2.out] at hF
    have hbs := beq_self_str s
    go_wp2_with (go_at_call 133; refine hF.mono ?_; rintro e w3 ⟨rfl, hb3⟩; obtain ⟨hc3, hf3⟩ := bcell hb3; have hl3 := ltW hb3)
    have hz3 := hb3.size
    have a3 := isStrs_below a2 (Nat.le_refl _) hb3
    refine bodyPost_ret (v := .tuple #[.agg #[.slice (some ⟨g1, 0, none⟩) n c1], .bool true]) (by simp [results, Tryd.results112, go_sem, csame, cset, *]) rfl ⟨some ⟨g1, 0, none⟩, c1, by rw [e1.out, hn'.out], ?_, (fun b off e => by cases e; have := (h1.lt g1 rfl).1; simp at this; omega), by (repeat (first | with_reducible exact Below.refl _ _ | assumption | with_reducible refine Qdrew ?_ | with_reducible refine QdrewN ?_ | ((with_reducible refine Qset ?_ ?_); exact (by ((try simp only [World.size_alloc, World.size_setCell, World.size_drew, size_drewN]); (try dsimp only); omega))) | ((with_reducible refine Qalloc ?_ ?_); exact (by ((try simp only [World.size_alloc, World.size_setCell, World.size_drew, size_drewN]); (try dsimp only); omega))) | refine Qtrans (by assumption) (by ((try simp only [World.size_alloc, World.size_setCell, World.size_drew, size_drewN]); (try dsimp only); omega)) ?_))⟩
    rw [e1.out, hn'.out]
    refine isStrs_setG a3 (fun b off e => ?_)
    cases e
    have := (h1.lt g1 rfl).1
    simp at this
    omega
/-- The seven names. -/
def nmFib : ByteArray := ⟨#[102, 105, 98, 111, 110, 97, 99, 99, 105]⟩
def nmThue : ByteArray := ⟨#[116, 104, 117, 101]⟩
def nmDoub : ByteArray := ⟨#[100, 111, 117, 98, 108, 105, 110, 103]⟩
def nmTrib : ByteArray := ⟨#[116, 114, 105, 98, 111, 110, 97, 99, 99, 105]⟩
def nmSilv : ByteArray := ⟨#[115, 105, 108, 118, 101, 114]⟩
def nmSqua : ByteArray := ⟨#[115, 113, 117, 97, 114, 101, 102, 114, 101, 101]⟩
def nmRudi : ByteArray := ⟨#[114, 117, 100, 105, 110]⟩
def names : List ByteArray := [nmFib, nmThue, nmDoub, nmTrib, nmSilv, nmSqua, nmRudi]
set_option maxRecDepth 20000 in
set_option maxHeartbeats 1000000 in
theorem namedFib (w : World) :
    Calls Tryd.prog 92 #[.string nmFib] w fun e w' => ∃ x cap, e = .returned (.tuple #[.agg #[.slice x ([(⟨#[97, 98]⟩ : ByteArray), ⟨#[97]⟩]).length cap], .bool true]) ∧ IsStrs w' x ([(⟨#[97, 98]⟩ : ByteArray), ⟨#[97]⟩]).length cap [(⟨#[97, 98]⟩ : ByteArray), ⟨#[97]⟩] ∧ (∀ b off, x = some ⟨b, off, none⟩ → w.heap.size ≤ b) ∧ Below w.heap.size w w' := by
  have hz : splt (⟨#[97, 98, 44, 97]⟩ : ByteArray) = [(⟨#[97, 98]⟩ : ByteArray), ⟨#[97]⟩] := by decide +kernel
  have hS : sB (splt (⟨#[97, 98, 44, 97]⟩ : ByteArray)) = true := by rw [hz]; exact sB_yes (by unfold sOk iOk isWP inL; decide +kernel)
  have hp : parL (⟨#[97, 98, 44, 97]⟩ : ByteArray) = [(⟨#[97, 98]⟩ : ByteArray), ⟨#[97]⟩] := by unfold parL; rw [if_pos hS, hz]
  have hC := fun w => specParse_any (⟨#[97, 98, 44, 97]⟩ : ByteArray) w (by decide)
  rw [hS, hp] at hC
  unfold nmFib
  go_enter Tryd.func92, Tryd.ntmps92
  go_wp2_with (go_at_call 112; refine (hC _).mono ?_; rintro e w1 ⟨x1, c1, rfl, h1, hx1, hb1⟩; obtain ⟨hc1, hf1⟩ := bcell hb1; have hl1 := ltW hb1)
  have hz1 := hb1.size
  simp only [World.size_alloc] at hz1
  refine bodyPost_ret (v := .tuple #[.agg #[.slice x1 ([(⟨#[97, 98]⟩ : ByteArray), ⟨#[97]⟩]).length c1], .bool true]) (by simp [results, Tryd.results92, go_sem, csame, cset, *]) rfl ⟨x1, c1, rfl, isStrs_setG h1 (fun b off e => by have := hx1 b off e; simp at this; omega), (fun b off e => by have := hx1 b off e; simp at this; omega), by (repeat (first | with_reducible exact Below.refl _ _ | assumption | with_reducible refine Qdrew ?_ | with_reducible refine QdrewN ?_ | ((with_reducible refine Qset ?_ ?_); exact (by ((try simp only [World.size_alloc, World.size_setCell, World.size_drew, size_drewN]); (try dsimp only); omega))) | ((with_reducible refine Qalloc ?_ ?_); exact (by ((try simp only [World.size_alloc, World.size_setCell, World.size_drew, size_drewN]); (try dsimp only); omega))) | refine Qtrans (by assumption) (by ((try simp only [World.size_alloc, World.size_setCell, World.size_drew, size_drewN]); (try dsimp only); omega)) ?_))⟩
set_option maxRecDepth 20000 in
set_option maxHeartbeats 1000000 in
theorem namedThue (w : World) :
    Calls Tryd.prog 92 #[.string nmThue] w fun e w' => ∃ x cap, e = .returned (.tuple #[.agg #[.slice x ([(⟨#[97, 98]⟩ : ByteArray), (⟨#[98, 97]⟩ : ByteArray)]).length cap], .bool true]) ∧ IsStrs w' x ([(⟨#[97, 98]⟩ : ByteArray), (⟨#[98, 97]⟩ : ByteArray)]).length cap [(⟨#[97, 98]⟩ : ByteArray), (⟨#[98, 97]⟩ : ByteArray)] ∧ (∀ b off, x = some ⟨b, off, none⟩ → w.heap.size ≤ b) ∧ Below w.heap.size w w' := by
  have hz : splt (⟨#[97, 98, 44, 98, 97]⟩ : ByteArray) = [(⟨#[97, 98]⟩ : ByteArray), (⟨#[98, 97]⟩ : ByteArray)] := by decide +kernel
  have hS : sB (splt (⟨#[97, 98, 44, 98, 97]⟩ : ByteArray)) = true := by rw [hz]; exact sB_yes (by unfold sOk iOk isWP inL; decide +kernel)
  have hp : parL (⟨#[97, 98, 44, 98, 97]⟩ : ByteArray) = [(⟨#[97, 98]⟩ : ByteArray), (⟨#[98, 97]⟩ : ByteArray)] := by unfold parL; rw [if_pos hS, hz]
  have hC := fun w => specParse_any (⟨#[97, 98, 44, 98, 97]⟩ : ByteArray) w (by decide)
  rw [hS, hp] at hC
  unfold nmThue
  go_enter Tryd.func92, Tryd.ntmps92
  go_wp2_with (go_at_call 112; refine (hC _).mono ?_; rintro e w1 ⟨x1, c1, rfl, h1, hx1, hb1⟩; obtain ⟨hc1, hf1⟩ := bcell hb1; have hl1 := ltW hb1)
  have hz1 := hb1.size
  simp only [World.size_alloc] at hz1
  refine bodyPost_ret (v := .tuple #[.agg #[.slice x1 ([(⟨#[97, 98]⟩ : ByteArray), (⟨#[98, 97]⟩ : ByteArray)]).length c1], .bool true]) (by simp [results, Tryd.results92, go_sem, csame, cset, *]) rfl ⟨x1, c1, rfl, isStrs_setG h1 (fun b off e => by have := hx1 b off e; simp at this; omega), (fun b off e => by have := hx1 b off e; simp at this; omega), by (repeat (first | with_reducible exact Below.refl _ _ | assumption | with_reducible refine Qdrew ?_ | with_reducible refine QdrewN ?_ | ((with_reducible refine Qset ?_ ?_); exact (by ((try simp only [World.size_alloc, World.size_setCell, World.size_drew, size_drewN]); (try dsimp only); omega))) | ((with_reducible refine Qalloc ?_ ?_); exact (by ((try simp only [World.size_alloc, World.size_setCell, World.size_drew, size_drewN]); (try dsimp only); omega))) | refine Qtrans (by assumption) (by ((try simp only [World.size_alloc, World.size_setCell, World.size_drew, size_drewN]); (try dsimp only); omega)) ?_))⟩
set_option maxRecDepth 20000 in
set_option maxHeartbeats 1000000 in
theorem namedDoub (w : World) :
    Calls Tryd.prog 92 #[.string nmDoub] w fun e w' => ∃ x cap, e = .returned (.tuple #[.agg #[.slice x ([(⟨#[97, 98]⟩ : ByteArray), (⟨#[97, 97]⟩ : ByteArray)]).length cap], .bool true]) ∧ IsStrs w' x ([(⟨#[97, 98]⟩ : ByteArray), (⟨#[97, 97]⟩ : ByteArray)]).length cap [(⟨#[97, 98]⟩ : ByteArray), (⟨#[97, 97]⟩ : ByteArray)] ∧ (∀ b off, x = some ⟨b, off, none⟩ → w.heap.size ≤ b) ∧ Below w.heap.size w w' := by
  have hz : splt (⟨#[97, 98, 44, 97, 97]⟩ : ByteArray) = [(⟨#[97, 98]⟩ : ByteArray), (⟨#[97, 97]⟩ : ByteArray)] := by decide +kernel
  have hS : sB (splt (⟨#[97, 98, 44, 97, 97]⟩ : ByteArray)) = true := by rw [hz]; exact sB_yes (by unfold sOk iOk isWP inL; decide +kernel)
  have hp : parL (⟨#[97, 98, 44, 97, 97]⟩ : ByteArray) = [(⟨#[97, 98]⟩ : ByteArray), (⟨#[97, 97]⟩ : ByteArray)] := by unfold parL; rw [if_pos hS, hz]
  have hC := fun w => specParse_any (⟨#[97, 98, 44, 97, 97]⟩ : ByteArray) w (by decide)
  rw [hS, hp] at hC
  unfold nmDoub
  go_enter Tryd.func92, Tryd.ntmps92
  go_wp2_with (go_at_call 112; refine (hC _).mono ?_; rintro e w1 ⟨x1, c1, rfl, h1, hx1, hb1⟩; obtain ⟨hc1, hf1⟩ := bcell hb1; have hl1 := ltW hb1)
  have hz1 := hb1.size
  simp only [World.size_alloc] at hz1
  refine bodyPost_ret (v := .tuple #[.agg #[.slice x1 ([(⟨#[97, 98]⟩ : ByteArray), (⟨#[97, 97]⟩ : ByteArray)]).length c1], .bool true]) (by simp [results, Tryd.results92, go_sem, csame, cset, *]) rfl ⟨x1, c1, rfl, isStrs_setG h1 (fun b off e => by have := hx1 b off e; simp at this; omega), (fun b off e => by have := hx1 b off e; simp at this; omega), by (repeat (first | with_reducible exact Below.refl _ _ | assumption | with_reducible refine Qdrew ?_ | with_reducible refine QdrewN ?_ | ((with_reducible refine Qset ?_ ?_); exact (by ((try simp only [World.size_alloc, World.size_setCell, World.size_drew, size_drewN]); (try dsimp only); omega))) | ((with_reducible refine Qalloc ?_ ?_); exact (by ((try simp only [World.size_alloc, World.size_setCell, World.size_drew, size_drewN]); (try dsimp only); omega))) | refine Qtrans (by assumption) (by ((try simp only [World.size_alloc, World.size_setCell, World.size_drew, size_drewN]); (try dsimp only); omega)) ?_))⟩
set_option maxRecDepth 20000 in
set_option maxHeartbeats 1000000 in
theorem namedTrib (w : World) :
    Calls Tryd.prog 92 #[.string nmTrib] w fun e w' => ∃ x cap, e = .returned (.tuple #[.agg #[.slice x ([(⟨#[97, 98]⟩ : ByteArray), (⟨#[97, 99]⟩ : ByteArray), (⟨#[97]⟩ : ByteArray)]).length cap], .bool true]) ∧ IsStrs w' x ([(⟨#[97, 98]⟩ : ByteArray), (⟨#[97, 99]⟩ : ByteArray), (⟨#[97]⟩ : ByteArray)]).length cap [(⟨#[97, 98]⟩ : ByteArray), (⟨#[97, 99]⟩ : ByteArray), (⟨#[97]⟩ : ByteArray)] ∧ (∀ b off, x = some ⟨b, off, none⟩ → w.heap.size ≤ b) ∧ Below w.heap.size w w' := by
  have hz : splt (⟨#[97, 98, 44, 97, 99, 44, 97]⟩ : ByteArray) = [(⟨#[97, 98]⟩ : ByteArray), (⟨#[97, 99]⟩ : ByteArray), (⟨#[97]⟩ : ByteArray)] := by decide +kernel
  have hS : sB (splt (⟨#[97, 98, 44, 97, 99, 44, 97]⟩ : ByteArray)) = true := by rw [hz]; exact sB_yes (by unfold sOk iOk isWP inL; decide +kernel)
  have hp : parL (⟨#[97, 98, 44, 97, 99, 44, 97]⟩ : ByteArray) = [(⟨#[97, 98]⟩ : ByteArray), (⟨#[97, 99]⟩ : ByteArray), (⟨#[97]⟩ : ByteArray)] := by unfold parL; rw [if_pos hS, hz]
  have hC := fun w => specParse_any (⟨#[97, 98, 44, 97, 99, 44, 97]⟩ : ByteArray) w (by decide)
  rw [hS, hp] at hC
  unfold nmTrib
  go_enter Tryd.func92, Tryd.ntmps92
  go_wp2_with (go_at_call 112; refine (hC _).mono ?_; rintro e w1 ⟨x1, c1, rfl, h1, hx1, hb1⟩; obtain ⟨hc1, hf1⟩ := bcell hb1; have hl1 := ltW hb1)
  have hz1 := hb1.size
  simp only [World.size_alloc] at hz1
  refine bodyPost_ret (v := .tuple #[.agg #[.slice x1 ([(⟨#[97, 98]⟩ : ByteArray), (⟨#[97, 99]⟩ : ByteArray), (⟨#[97]⟩ : ByteArray)]).length c1], .bool true]) (by simp [results, Tryd.results92, go_sem, csame, cset, *]) rfl ⟨x1, c1, rfl, isStrs_setG h1 (fun b off e => by have := hx1 b off e; simp at this; omega), (fun b off e => by have := hx1 b off e; simp at this; omega), by (repeat (first | with_reducible exact Below.refl _ _ | assumption | with_reducible refine Qdrew ?_ | with_reducible refine QdrewN ?_ | ((with_reducible refine Qset ?_ ?_); exact (by ((try simp only [World.size_alloc, World.size_setCell, World.size_drew, size_drewN]); (try dsimp only); omega))) | ((with_reducible refine Qalloc ?_ ?_); exact (by ((try simp only [World.size_alloc, World.size_setCell, World.size_drew, size_drewN]); (try dsimp only); omega))) | refine Qtrans (by assumption) (by ((try simp only [World.size_alloc, World.size_setCell, World.size_drew, size_drewN]); (try dsimp only); omega)) ?_))⟩
set_option maxRecDepth 20000 in
set_option maxHeartbeats 1000000 in
theorem namedSilv (w : World) :
    Calls Tryd.prog 92 #[.string nmSilv] w fun e w' => ∃ x cap, e = .returned (.tuple #[.agg #[.slice x ([(⟨#[97, 97, 98]⟩ : ByteArray), (⟨#[97]⟩ : ByteArray)]).length cap], .bool true]) ∧ IsStrs w' x ([(⟨#[97, 97, 98]⟩ : ByteArray), (⟨#[97]⟩ : ByteArray)]).length cap [(⟨#[97, 97, 98]⟩ : ByteArray), (⟨#[97]⟩ : ByteArray)] ∧ (∀ b off, x = some ⟨b, off, none⟩ → w.heap.size ≤ b) ∧ Below w.heap.size w w' := by
  have hz : splt (⟨#[97, 97, 98, 44, 97]⟩ : ByteArray) = [(⟨#[97, 97, 98]⟩ : ByteArray), (⟨#[97]⟩ : ByteArray)] := by decide +kernel
  have hS : sB (splt (⟨#[97, 97, 98, 44, 97]⟩ : ByteArray)) = true := by rw [hz]; exact sB_yes (by unfold sOk iOk isWP inL; decide +kernel)
  have hp : parL (⟨#[97, 97, 98, 44, 97]⟩ : ByteArray) = [(⟨#[97, 97, 98]⟩ : ByteArray), (⟨#[97]⟩ : ByteArray)] := by unfold parL; rw [if_pos hS, hz]
  have hC := fun w => specParse_any (⟨#[97, 97, 98, 44, 97]⟩ : ByteArray) w (by decide)
  rw [hS, hp] at hC
  unfold nmSilv
  go_enter Tryd.func92, Tryd.ntmps92
  go_wp2_with (go_at_call 112; refine (hC _).mono ?_; rintro e w1 ⟨x1, c1, rfl, h1, hx1, hb1⟩; obtain ⟨hc1, hf1⟩ := bcell hb1; have hl1 := ltW hb1)
  have hz1 := hb1.size
  simp only [World.size_alloc] at hz1
  refine bodyPost_ret (v := .tuple #[.agg #[.slice x1 ([(⟨#[97, 97, 98]⟩ : ByteArray), (⟨#[97]⟩ : ByteArray)]).length c1], .bool true]) (by simp [results, Tryd.results92, go_sem, csame, cset, *]) rfl ⟨x1, c1, rfl, isStrs_setG h1 (fun b off e => by have := hx1 b off e; simp at this; omega), (fun b off e => by have := hx1 b off e; simp at this; omega), by (repeat (first | with_reducible exact Below.refl _ _ | assumption | with_reducible refine Qdrew ?_ | with_reducible refine QdrewN ?_ | ((with_reducible refine Qset ?_ ?_); exact (by ((try simp only [World.size_alloc, World.size_setCell, World.size_drew, size_drewN]); (try dsimp only); omega))) | ((with_reducible refine Qalloc ?_ ?_); exact (by ((try simp only [World.size_alloc, World.size_setCell, World.size_drew, size_drewN]); (try dsimp only); omega))) | refine Qtrans (by assumption) (by ((try simp only [World.size_alloc, World.size_setCell, World.size_drew, size_drewN]); (try dsimp only); omega)) ?_))⟩
set_option maxRecDepth 20000 in
set_option maxHeartbeats 1000000 in
theorem namedSqua (w : World) :
    Calls Tryd.prog 92 #[.string nmSqua] w fun e w' => ∃ x cap, e = .returned (.tuple #[.agg #[.slice x ([(⟨#[97, 98, 99]⟩ : ByteArray), (⟨#[97, 99]⟩ : ByteArray), (⟨#[98]⟩ : ByteArray)]).length cap], .bool true]) ∧ IsStrs w' x ([(⟨#[97, 98, 99]⟩ : ByteArray), (⟨#[97, 99]⟩ : ByteArray), (⟨#[98]⟩ : ByteArray)]).length cap [(⟨#[97, 98, 99]⟩ : ByteArray), (⟨#[97, 99]⟩ : ByteArray), (⟨#[98]⟩ : ByteArray)] ∧ (∀ b off, x = some ⟨b, off, none⟩ → w.heap.size ≤ b) ∧ Below w.heap.size w w' := by
  have hz : splt (⟨#[97, 98, 99, 44, 97, 99, 44, 98]⟩ : ByteArray) = [(⟨#[97, 98, 99]⟩ : ByteArray), (⟨#[97, 99]⟩ : ByteArray), (⟨#[98]⟩ : ByteArray)] := by decide +kernel
  have hS : sB (splt (⟨#[97, 98, 99, 44, 97, 99, 44, 98]⟩ : ByteArray)) = true := by rw [hz]; exact sB_yes (by unfold sOk iOk isWP inL; decide +kernel)
  have hp : parL (⟨#[97, 98, 99, 44, 97, 99, 44, 98]⟩ : ByteArray) = [(⟨#[97, 98, 99]⟩ : ByteArray), (⟨#[97, 99]⟩ : ByteArray), (⟨#[98]⟩ : ByteArray)] := by unfold parL; rw [if_pos hS, hz]
  have hC := fun w => specParse_any (⟨#[97, 98, 99, 44, 97, 99, 44, 98]⟩ : ByteArray) w (by decide)
  rw [hS, hp] at hC
  unfold nmSqua
  go_enter Tryd.func92, Tryd.ntmps92
  go_wp2_with (go_at_call 112; refine (hC _).mono ?_; rintro e w1 ⟨x1, c1, rfl, h1, hx1, hb1⟩; obtain ⟨hc1, hf1⟩ := bcell hb1; have hl1 := ltW hb1)
  have hz1 := hb1.size
  simp only [World.size_alloc] at hz1
  refine bodyPost_ret (v := .tuple #[.agg #[.slice x1 ([(⟨#[97, 98, 99]⟩ : ByteArray), (⟨#[97, 99]⟩ : ByteArray), (⟨#[98]⟩ : ByteArray)]).length c1], .bool true]) (by simp [results, Tryd.results92, go_sem, csame, cset, *]) rfl ⟨x1, c1, rfl, isStrs_setG h1 (fun b off e => by have := hx1 b off e; simp at this; omega), (fun b off e => by have := hx1 b off e; simp at this; omega), by (repeat (first | with_reducible exact Below.refl _ _ | assumption | with_reducible refine Qdrew ?_ | with_reducible refine QdrewN ?_ | ((with_reducible refine Qset ?_ ?_); exact (by ((try simp only [World.size_alloc, World.size_setCell, World.size_drew, size_drewN]); (try dsimp only); omega))) | ((with_reducible refine Qalloc ?_ ?_); exact (by ((try simp only [World.size_alloc, World.size_setCell, World.size_drew, size_drewN]); (try dsimp only); omega))) | refine Qtrans (by assumption) (by ((try simp only [World.size_alloc, World.size_setCell, World.size_drew, size_drewN]); (try dsimp only); omega)) ?_))⟩
set_option maxRecDepth 20000 in
set_option maxHeartbeats 1000000 in
theorem namedRudi (w : World) :
    Calls Tryd.prog 92 #[.string nmRudi] w fun e w' => ∃ x cap, e = .returned (.tuple #[.agg #[.slice x ([(⟨#[97, 98]⟩ : ByteArray), (⟨#[97, 99]⟩ : ByteArray), (⟨#[100, 98]⟩ : ByteArray), (⟨#[100, 99]⟩ : ByteArray)]).length cap], .bool true]) ∧ IsStrs w' x ([(⟨#[97, 98]⟩ : ByteArray), (⟨#[97, 99]⟩ : ByteArray), (⟨#[100, 98]⟩ : ByteArray), (⟨#[100, 99]⟩ : ByteArray)]).length cap [(⟨#[97, 98]⟩ : ByteArray), (⟨#[97, 99]⟩ : ByteArray), (⟨#[100, 98]⟩ : ByteArray), (⟨#[100, 99]⟩ : ByteArray)] ∧ (∀ b off, x = some ⟨b, off, none⟩ → w.heap.size ≤ b) ∧ Below w.heap.size w w' := by
  have hz : splt (⟨#[97, 98, 44, 97, 99, 44, 100, 98, 44, 100, 99]⟩ : ByteArray) = [(⟨#[97, 98]⟩ : ByteArray), (⟨#[97, 99]⟩ : ByteArray), (⟨#[100, 98]⟩ : ByteArray), (⟨#[100, 99]⟩ : ByteArray)] := by decide +kernel
  have hS : sB (splt (⟨#[97, 98, 44, 97, 99, 44, 100, 98, 44, 100, 99]⟩ : ByteArray)) = true := by rw [hz]; exact sB_yes (by unfold sOk iOk isWP inL; decide +kernel)
  have hp : parL (⟨#[97, 98, 44, 97, 99, 44, 100, 98, 44, 100, 99]⟩ : ByteArray) = [(⟨#[97, 98]⟩ : ByteArray), (⟨#[97, 99]⟩ : ByteArray), (⟨#[100, 98]⟩ : ByteArray), (⟨#[100, 99]⟩ : ByteArray)] := by unfold parL; rw [if_pos hS, hz]
  have hC := fun w => specParse_any (⟨#[97, 98, 44, 97, 99, 44, 100, 98, 44, 100, 99]⟩ : ByteArray) w (by decide)
  rw [hS, hp] at hC
  unfold nmRudi
  go_enter Tryd.func92, Tryd.ntmps92
  go_wp2_with (go_at_call 112; refine (hC _).mono ?_; rintro e w1 ⟨x1, c1, rfl, h1, hx1, hb1⟩; obtain ⟨hc1, hf1⟩ := bcell hb1; have hl1 := ltW hb1)
  have hz1 := hb1.size
  simp only [World.size_alloc] at hz1
  refine bodyPost_ret (v := .tuple #[.agg #[.slice x1 ([(⟨#[97, 98]⟩ : ByteArray), (⟨#[97, 99]⟩ : ByteArray), (⟨#[100, 98]⟩ : ByteArray), (⟨#[100, 99]⟩ : ByteArray)]).length c1], .bool true]) (by simp [results, Tryd.results92, go_sem, csame, cset, *]) rfl ⟨x1, c1, rfl, isStrs_setG h1 (fun b off e => by have := hx1 b off e; simp at this; omega), (fun b off e => by have := hx1 b off e; simp at this; omega), by (repeat (first | with_reducible exact Below.refl _ _ | assumption | with_reducible refine Qdrew ?_ | with_reducible refine QdrewN ?_ | ((with_reducible refine Qset ?_ ?_); exact (by ((try simp only [World.size_alloc, World.size_setCell, World.size_drew, size_drewN]); (try dsimp only); omega))) | ((with_reducible refine Qalloc ?_ ?_); exact (by ((try simp only [World.size_alloc, World.size_setCell, World.size_drew, size_drewN]); (try dsimp only); omega))) | refine Qtrans (by assumption) (by ((try simp only [World.size_alloc, World.size_setCell, World.size_drew, size_drewN]); (try dsimp only); omega)) ?_))⟩
theorem named_any (z : ByteArray) (hz : z ∈ names) (w : World) :
    Calls Tryd.prog 92 #[.string z] w fun e w' => ∃ x cap zs, e = .returned (.tuple #[.agg #[.slice x zs.length cap], .bool true]) ∧ sB zs = true ∧ IsStrs w' x zs.length cap zs ∧ (∀ b off, x = some ⟨b, off, none⟩ → w.heap.size ≤ b) ∧ Below w.heap.size w w' := by
  simp only [names, List.mem_cons, List.mem_nil_iff, or_false] at hz
  rcases hz with rfl | rfl | rfl | rfl | rfl | rfl | rfl
  · exact (namedFib w).mono fun e w' ⟨x, cap, h1, h2, h3, h4⟩ => ⟨x, cap, [(⟨#[97, 98]⟩ : ByteArray), (⟨#[97]⟩ : ByteArray)], h1, sB_yes (by unfold sOk iOk isWP inL; decide +kernel), h2, h3, h4⟩
  · exact (namedThue w).mono fun e w' ⟨x, cap, h1, h2, h3, h4⟩ => ⟨x, cap, [(⟨#[97, 98]⟩ : ByteArray), (⟨#[98, 97]⟩ : ByteArray)], h1, sB_yes (by unfold sOk iOk isWP inL; decide +kernel), h2, h3, h4⟩
  · exact (namedDoub w).mono fun e w' ⟨x, cap, h1, h2, h3, h4⟩ => ⟨x, cap, [(⟨#[97, 98]⟩ : ByteArray), (⟨#[97, 97]⟩ : ByteArray)], h1, sB_yes (by unfold sOk iOk isWP inL; decide +kernel), h2, h3, h4⟩
  · exact (namedTrib w).mono fun e w' ⟨x, cap, h1, h2, h3, h4⟩ => ⟨x, cap, [(⟨#[97, 98]⟩ : ByteArray), (⟨#[97, 99]⟩ : ByteArray), (⟨#[97]⟩ : ByteArray)], h1, sB_yes (by unfold sOk iOk isWP inL; decide +kernel), h2, h3, h4⟩
  · exact (namedSilv w).mono fun e w' ⟨x, cap, h1, h2, h3, h4⟩ => ⟨x, cap, [(⟨#[97, 97, 98]⟩ : ByteArray), (⟨#[97]⟩ : ByteArray)], h1, sB_yes (by unfold sOk iOk isWP inL; decide +kernel), h2, h3, h4⟩
  · exact (namedSqua w).mono fun e w' ⟨x, cap, h1, h2, h3, h4⟩ => ⟨x, cap, [(⟨#[97, 98, 99]⟩ : ByteArray), (⟨#[97, 99]⟩ : ByteArray), (⟨#[98]⟩ : ByteArray)], h1, sB_yes (by unfold sOk iOk isWP inL; decide +kernel), h2, h3, h4⟩
  · exact (namedRudi w).mono fun e w' ⟨x, cap, h1, h2, h3, h4⟩ => ⟨x, cap, [(⟨#[97, 98]⟩ : ByteArray), (⟨#[97, 99]⟩ : ByteArray), (⟨#[100, 98]⟩ : ByteArray), (⟨#[100, 99]⟩ : ByteArray)], h1, sB_yes (by unfold sOk iOk isWP inL; decide +kernel), h2, h3, h4⟩
set_option maxRecDepth 20000 in
set_option maxHeartbeats 1000000 in
theorem l01Str_any (B g : Nat) (x : Option Addr) (n cap : Nat) (y : Option Addr) (N cy : Nat) (zs : List ByteArray) (w : World) (hN : 0 < N) (hN2 : N ≤ 256) (hy : IsStrs w y N cy zs) (hyg : ∀ b off, y = some ⟨b, off, none⟩ → b ≠ g) (hB : B ≤ g) (hr : RB B w x n) (hc : Cur w g x n cap) :
    Calls Tryd.prog 93 #[.pointer (some ⟨g, 0, none⟩), .slice y N cy] w fun e w' => ∃ z : ByteArray, e = .returned (.string z) ∧ z ∈ zs ∧ Cur w' g x n cap ∧ w.grownBy w' (some g) := by
  have hC := l01Below_any B g x n cap (N : Int) (by omega) (by omega) w hB hr hc
  obtain ⟨b, off, rfl, hlt, hcell⟩ : ∃ b off, y = some ⟨b, off, none⟩ ∧ b < w.heap.size ∧ ∀ j, j < N → w.cell? ⟨b, off + j, none⟩ = some (.string (zs.getD j ByteArray.empty)) := by
    rcases hy.2.2.2.2 with h0 | q
    · omega
    · exact q
  have hbg := hyg b off rfl
  have hcell' := Lib.hid hcell
  have hl := hy.1
  have hcap : N ≤ cy := hy.2.1
  clear hcell hy hyg hr hc
  go_enter Tryd.func93, Tryd.ntmps93
  go_wp2_with fail
  refine hC.mono ?_
  rintro e w1 ⟨v, rfl, ⟨hv0, hv1⟩, hc1, hg1⟩
  obtain ⟨k, rfl⟩ : ∃ k : Nat, v = (k : Int) := ⟨v.toNat, by omega⟩
  have hk : k < N := by omega
  have hck := (hg1.cell_far ⟨b, off + k, none⟩ hlt (by simp; omega)).trans (hcell'.out k hk)
  have hmem : Hid (zs.getD k ByteArray.empty ∈ zs) := by
    rw [List.getD_eq_getElem?_getD, List.getElem?_eq_getElem (by omega)]; exact List.getElem_mem _
  obtain ⟨z, hz⟩ : ∃ z, zs.getD k ByteArray.empty = z := ⟨_, rfl⟩
  rw [hz] at hck hmem
  clear hz
  go_wp2
  go_ret
  exact ⟨z, rfl, hmem.out, hc1, hg1⟩
end Go.Proofs.YtilbhingfnjppaaDoor
