/- Several texts in one, in their order: DrB DrC FromD Apl AppK Wds InjP Itr. -/
import Derived.Test.YtilbhingfnjppabMDra
import Derived.Deep.RegionLaw
import Derived.Deep.AppendLies
import Derived.Test.YtilbhingfnjppabWordsA
import Derived.Test.YtilbhingfnjppabMFra
import Derived.Laws.IdiomStrings
import Derived.Test.YtilbhingfnjppabBase2
import Derived.Maps.AppendAt
import Derived.ArgAppend
import Derived.Test.YtilbhingfnjppabIn
set_option linter.unusedSimpArgs false
set_option linter.unusedVariables false
namespace Go.Proofs.Ytilbhingfnjppab
open Go.RowKit
/-! ### What is split and joined again is as it was -/
theorem ba_empty_app (a : ByteArray) : (⟨#[]⟩ : ByteArray) ++ a = a := by apply ByteArray.ext; simp
theorem ext_join {s : ByteArray} {i j k : Nat} (h1 : i ≤ j) (h2 : j ≤ k) : s.extract i j ++ s.extract j k = s.extract i k := by
  apply ByteArray.ext
  simp [ByteArray.data_append, ByteArray.data_extract, Nat.min_eq_left h1, Nat.max_eq_right h2]
theorem ext_one {s : ByteArray} {k : Nat} (h : bt s k = 44) : (⟨#[44]⟩ : ByteArray) = s.extract k (k + 1) := by
  have hk : k < s.size := by
    rcases Nat.lt_or_ge k s.size with q | q
    · exact q
    · unfold bt at h; rw [dif_neg (by omega)] at h; omega
  have hb : s[k]'hk = 44 := by
    have := bt_eq s k hk
    rw [h] at this
    exact UInt8.toNat_inj.1 (by have : (s[k]'hk).toNat = 44 := by omega
                                exact this)
  apply ByteArray.ext
  apply Array.ext
  · simp; have : s.data.size = s.size := rfl; omega
  · intro i h1 h2
    have : i = 0 := by simpa using h1
    subst this
    simp
    have : s.data[k]'(by exact hk) = 44 := hb
    rw [this]
theorem joi_congr {zs ys : List ByteArray} : ∀ k, (∀ j, j < k → zs.getD j ByteArray.empty = ys.getD j ByteArray.empty) → joi zs k = joi ys k
  | 0, _ => rfl
  | k + 1, h => by
    unfold joi
    rw [joi_congr k (fun j hj => h j (by omega)), h k (by omega)]
def pre (D : List ByteArray) : ByteArray := if D.length = 0 then (⟨#[]⟩ : ByteArray) else joi D D.length ++ ⟨#[44]⟩
theorem joi_snoc (D : List ByteArray) (z : ByteArray) : joi (D ++ [z]) (D.length + 1) = pre D ++ z := by
  have e : (D ++ [z]).getD D.length ByteArray.empty = z := by simp [List.getD_eq_getElem?_getD]
  have e2 : joi (D ++ [z]) D.length = joi D D.length := joi_congr _ (fun j hj => by simp [List.getD_eq_getElem?_getD, List.getElem?_append_left hj])
  unfold joi pre
  rw [e, e2]
theorem spl_pre (s : ByteArray) : ∀ k, pre (spl s k).1 ++ s.extract (spl s k).2 k = s.extract 0 k
  | 0 => by simp [spl, pre]; apply ByteArray.ext; simp
  | k + 1 => by
    have ih := spl_pre s k
    have hle := (spl_le s k).1
    by_cases h : bt s k = 44
    · rw [spl_yes h]
      have e : pre ((spl s k).1 ++ [s.extract (spl s k).2 k]) = s.extract 0 k ++ s.extract k (k + 1) := by
        rw [← ext_one h, ← ih, ← joi_snoc]
        unfold pre
        rw [if_neg (by simp), List.length_append]; rfl
      simp only
      rw [e, ext_join (by omega) (by omega), ext_join (by omega) (by omega)]
    · rw [spl_no h]
      rw [← ext_join (i := (spl s k).2) (j := k) (k := k + 1) (by omega) (by omega), ← ext_join (i := 0) (j := k) (k := k + 1) (by omega) (by omega), ← ih, ByteArray.append_assoc]
theorem joi_splt (s : ByteArray) : joi (splt s) (splt s).length = s := by
  unfold splt
  rw [List.length_append]
  show joi _ ((spl s s.size).1.length + 1) = s
  rw [joi_snoc, spl_pre]
  apply ByteArray.ext; simp
theorem s_small {zs : List ByteArray} (h : sB zs = true) : zs.length ≤ 4 ∧ ∀ j, (zs.getD j ByteArray.empty).size ≤ 8 := by
  obtain ⟨⟨_, h4⟩, hj⟩ := s_of h
  refine ⟨h4, fun j => ?_⟩
  by_cases q : j < zs.length
  · exact (hj j q).1.2
  · rw [List.getD_eq_getElem?_getD, List.getElem?_eq_none (by omega)]
    show ByteArray.empty.size ≤ 8
    decide
noncomputable def fmtV (zs : List ByteArray) : ByteArray := if sB zs = true then joi zs zs.length else ⟨#[]⟩
set_option maxRecDepth 20000 in
set_option maxHeartbeats 1000000 in
theorem specFormat_any (x : Option Addr) (n cap : Nat) (zs : List ByteArray) (w : World) (h : IsStrs w x n cap zs) (hn : n ≤ 1048576) :
    Calls Try.prog 135 #[.agg #[.slice x n cap]] w fun e w' => e = .returned (.string (fmtV zs)) ∧ Below w.heap.size w w' := by
  have hb0 : Below w.heap.size w (w.alloc (.cells #[.slice x n cap] 25)) := (Below.refl _ w).alloc (Nat.le_refl _) _
  have h0 := isStrs_below h (Nat.le_refl _) hb0
  have hl := h.1
  cases hS : sB zs
  · have e1 : Hid (fmtV zs = ⟨#[]⟩) := by show _ = _; unfold fmtV; rw [hS]; rfl
    go_enter Try.func135, Try.ntmps135
    go_wp2_with (go_at_call 134; refine (specSubstOk_any _ _ _ _ _ h0 hn).mono ?_; rintro e w2 ⟨rfl, hb2⟩; obtain ⟨hc2, hf2⟩ := bcell hb2; have hl2 := ltW hb2)
    go_ret
    exact ⟨by rw [e1.out]; rfl, by (repeat (first | with_reducible exact Below.refl _ _ | assumption | with_reducible refine Qdrew ?_ | with_reducible refine QdrewN ?_ | ((with_reducible refine Qset ?_ ?_); exact (by ((try simp only [World.size_alloc, World.size_setCell, World.size_drew, size_drewN]); (try dsimp only); omega))) | ((with_reducible refine Qalloc ?_ ?_); exact (by ((try simp only [World.size_alloc, World.size_setCell, World.size_drew, size_drewN]); (try dsimp only); omega))) | refine Qtrans (by assumption) (by ((try simp only [World.size_alloc, World.size_setCell, World.size_drew, size_drewN]); (try dsimp only); omega)) ?_))⟩
  · have e1 : Hid (fmtV zs = joi zs n) := by show _ = _; unfold fmtV; rw [if_pos hS, hl]
    obtain ⟨h4, h8⟩ := s_small hS
    rw [hl] at h4
    have h8' : ∀ j, (zs.getD j ByteArray.empty).size ≤ 1000000 := fun j => by have := h8 j; omega
    have h8H := Lib.hid h8'
    clear h8 h8'
    go_enter Try.func135, Try.ntmps135
    go_wp2_with (first | (go_at_call 134; refine (specSubstOk_any _ _ _ _ _ h0 hn).mono ?_; rintro e w2 ⟨rfl, hb2⟩; obtain ⟨hc2, hf2⟩ := bcell hb2; have hl2 := ltW hb2; have hst2 := isStrs_below h0 (Nat.le_refl _) hb2) | (go_at_call 156; refine (Join_any _ _ _ _ _ hst2 (by omega) h8H.out).mono ?_; rintro e w3 ⟨rfl, rfl⟩))
    go_ret
    exact ⟨by rw [e1.out]; rfl, by (repeat (first | with_reducible exact Below.refl _ _ | assumption | with_reducible refine Qdrew ?_ | with_reducible refine QdrewN ?_ | ((with_reducible refine Qset ?_ ?_); exact (by ((try simp only [World.size_alloc, World.size_setCell, World.size_drew, size_drewN]); (try dsimp only); omega))) | ((with_reducible refine Qalloc ?_ ?_); exact (by ((try simp only [World.size_alloc, World.size_setCell, World.size_drew, size_drewN]); (try dsimp only); omega))) | refine Qtrans (by assumption) (by ((try simp only [World.size_alloc, World.size_setCell, World.size_drew, size_drewN]); (try dsimp only); omega)) ?_))⟩
/-- What a text stands for. -/
noncomputable def parL (s : ByteArray) : List ByteArray := if sB (splt s) = true then splt s else []
theorem isStrs_nil (w : World) : IsStrs w none 0 0 [] := ⟨rfl, Nat.le_refl _, by unfold maxLen; omega, by simp, .inl rfl⟩
theorem isStrs_setG {w : World} {x : Option Addr} {n cap g o : Nat} {v : Value} {zs : List ByteArray} (h : IsStrs w x n cap zs) (hx : ∀ b off, x = some ⟨b, off, none⟩ → b ≠ g) : IsStrs (w.setCell ⟨g, o, none⟩ v) x n cap zs := by
  refine ⟨h.1, h.2.1, h.2.2.1, h.2.2.2.1, ?_⟩
  rcases h.2.2.2.2 with h0 | ⟨b, off, rfl, hlt, hc⟩
  · exact .inl h0
  · exact .inr ⟨b, off, rfl, by simpa using hlt, fun j hj => (cset (hx b off rfl)).trans (hc j hj)⟩
theorem isStrs_lt {w : World} {x : Option Addr} {n cap : Nat} {zs : List ByteArray} (h : IsStrs w x n cap zs) (hn : 0 < n) : ∀ b off, x = some ⟨b, off, none⟩ → b < w.heap.size := fun b off e => by
  rcases h.2.2.2.2 with h0 | ⟨b', off', e', hlt, _⟩
  · omega
  · rw [e] at e'; cases e'; exact hlt
theorem beq_self_str (s : ByteArray) : (s.toList == s.toList) = true := by simp
set_option maxRecDepth 20000 in
set_option maxHeartbeats 2000000 in
theorem specParse_any (s : ByteArray) (w : World) (hs : s.size ≤ 40) :
    Calls Try.prog 119 #[.string s] w fun e w' => ∃ x cap, e = .returned (.tuple #[.agg #[.slice x (parL s).length cap], .bool (sB (splt s))]) ∧ IsStrs w' x (parL s).length cap (parL s) ∧ (∀ b off, x = some ⟨b, off, none⟩ → w.heap.size ≤ b) ∧ Below w.heap.size w w' := by
  have hl41 := splt_len s
  have hsm := splt_small s (by omega)
  have hjs := joi_splt s
  have hpl : Hid (sB (splt s) = true → parL s = splt s) := fun h => by unfold parL; rw [if_pos h]
  have hpn : Hid (¬ sB (splt s) = true → parL s = []) := fun h => by unfold parL; rw [if_neg h]
  have hSp := fun (w : World) => SplitAny_any s ⟨#[44]⟩ w (by omega) rfl rfl
  obtain ⟨D, hD⟩ : ∃ D, splt s = D := ⟨_, rfl⟩
  rw [hD] at hl41 hsm hjs hSp hpl hpn
  rw [hD]
  obtain ⟨n, hn⟩ : ∃ n, D.length = n := ⟨_, rfl⟩
  rw [hn] at hl41 hSp hjs
  have hn' := Lib.hid hn
  have hsm' := Lib.hid hsm
  have hjs' := Lib.hid hjs
  have hs40 : ¬ (40 : Int) < (s.size : Int) := by omega
  clear hD hn hsm hjs
  have hb0 : Below w.heap.size w (w.alloc (.cells #[.slice none 0 0] 25)) := (Below.refl _ w).alloc (Nat.le_refl _) _
  cases hS : sB D
  · have e1 : Hid (parL s = []) := hpn.out (by rw [hS]; simp)
    go_enter Try.func119, Try.ntmps119
    go_wp2_with (go_at_call 133; refine (hSp _).mono ?_; rintro e w1 ⟨g1, c1, rfl, h1, hb1⟩; obtain ⟨hc1, hf1⟩ := bcell hb1; have hl1 := ltW hb1)
    have hz1 := hb1.size
    simp only [World.size_alloc] at hz1
    have hs1 : w.heap.size < w1.heap.size := by omega
    have hB1 : Below w1.heap.size w1 (w1.alloc (.cells #[.slice (some ⟨g1, 0, none⟩) n c1] 25)) := (Below.refl _ w1).alloc (Nat.le_refl _) _
    have a1 := isStrs_below (isStrs_own h1 hsm'.out) (Nat.le_refl _) hB1
    go_wp2_with (go_at_call 134; refine (specSubstOk_any _ _ _ _ _ a1 (by omega)).mono ?_; rintro e w2 ⟨rfl, hb2⟩; obtain ⟨hc2, hf2⟩ := bcell hb2; have hl2 := ltW hb2)
    have hz2 := hb2.size
    simp only [World.size_alloc] at hz2
    have hs2 : w.heap.size < w2.heap.size := by omega
    have hs3 : w1.heap.size < w2.heap.size := by omega
    refine bodyPost_ret (v := .tuple #[.agg #[.slice none 0 0], .bool false]) (by simp [results, Try.results119, go_sem, csame, cset, *]) rfl ⟨none, 0, by rw [e1.out]; rfl, by rw [e1.out]; exact isStrs_nil _, (fun b off e => by cases e), by (repeat (first | with_reducible exact Below.refl _ _ | assumption | with_reducible refine Qdrew ?_ | with_reducible refine QdrewN ?_ | ((with_reducible refine Qset ?_ ?_); exact (by ((try simp only [World.size_alloc, World.size_setCell, World.size_drew, size_drewN]); (try dsimp only); omega))) | ((with_reducible refine Qalloc ?_ ?_); exact (by ((try simp only [World.size_alloc, World.size_setCell, World.size_drew, size_drewN]); (try dsimp only); omega))) | refine Qtrans (by assumption) (by ((try simp only [World.size_alloc, World.size_setCell, World.size_drew, size_drewN]); (try dsimp only); omega)) ?_))⟩
  · have e1 : Hid (parL s = D) := hpl.out hS
    have e2 : Hid (fmtV D = s) := by
      show _ = _
      unfold fmtV
      rw [if_pos hS, hn'.out, hjs'.out]
    have hlt0 : w.heap.size < w.heap.size + 1 := by omega
    go_enter Try.func119, Try.ntmps119
    go_wp2_with (go_at_call 133; refine (hSp _).mono ?_; rintro e w1 ⟨g1, c1, rfl, h1, hb1⟩; obtain ⟨hc1, hf1⟩ := bcell hb1; have hl1 := ltW hb1)
    have hz1 := hb1.size
    simp only [World.size_alloc] at hz1
    have hs1 : w.heap.size < w1.heap.size := by omega
    have hB1 : Below w1.heap.size w1 (w1.alloc (.cells #[.slice (some ⟨g1, 0, none⟩) n c1] 25)) := (Below.refl _ w1).alloc (Nat.le_refl _) _
    have a1 := isStrs_below (isStrs_own h1 hsm'.out) (Nat.le_refl _) hB1
    go_wp2_with (go_at_call 134; refine (specSubstOk_any _ _ _ _ _ a1 (by omega)).mono ?_; rintro e w2 ⟨rfl, hb2⟩; obtain ⟨hc2, hf2⟩ := bcell hb2; have hl2 := ltW hb2)
    have hz2 := hb2.size
    simp only [World.size_alloc] at hz2
    have hs2 : w.heap.size < w2.heap.size := by omega
    have hs3 : w1.heap.size < w2.heap.size := by omega
    have a2 := isStrs_below a1 (Nat.le_refl _) hb2
    have k2 : w2.cell? ⟨w1.heap.size, 0, none⟩ = some (.slice (some ⟨g1, 0, none⟩) n c1) := (hc2 _ 0 (by simp)).trans (by simp [go_sem])
    have hF := specFormat_any _ _ _ _ w2 a2 (by omega)
    rw [e2.out] at hF
    have hbs := beq_self_str s
    go_wp2_with (go_at_call 135; refine hF.mono ?_; rintro e w3 ⟨rfl, hb3⟩; obtain ⟨hc3, hf3⟩ := bcell hb3; have hl3 := ltW hb3)
    have hz3 := hb3.size
    have a3 := isStrs_below a2 (Nat.le_refl _) hb3
    refine bodyPost_ret (v := .tuple #[.agg #[.slice (some ⟨g1, 0, none⟩) n c1], .bool true]) (by simp [results, Try.results119, go_sem, csame, cset, *]) rfl ⟨some ⟨g1, 0, none⟩, c1, by rw [e1.out, hn'.out], ?_, (fun b off e => by cases e; have := (h1.lt g1 rfl).1; simp at this; omega), by (repeat (first | with_reducible exact Below.refl _ _ | assumption | with_reducible refine Qdrew ?_ | with_reducible refine QdrewN ?_ | ((with_reducible refine Qset ?_ ?_); exact (by ((try simp only [World.size_alloc, World.size_setCell, World.size_drew, size_drewN]); (try dsimp only); omega))) | ((with_reducible refine Qalloc ?_ ?_); exact (by ((try simp only [World.size_alloc, World.size_setCell, World.size_drew, size_drewN]); (try dsimp only); omega))) | refine Qtrans (by assumption) (by ((try simp only [World.size_alloc, World.size_setCell, World.size_drew, size_drewN]); (try dsimp only); omega)) ?_))⟩
    rw [e1.out, hn'.out]
    refine isStrs_setG a3 (fun b off e => ?_)
    cases e
    have := (h1.lt g1 rfl).1
    simp at this
    omega
/-- The seven names. -/
def nmFib : ByteArray := ⟨#[102, 105, 98, 111, 110, 97, 99, 99, 105]⟩
def nmThue : ByteArray := ⟨#[116, 104, 117, 101]⟩
def nmDoub : ByteArray := ⟨#[100, 111, 117, 98, 108, 105, 110, 103]⟩
def nmTrib : ByteArray := ⟨#[116, 114, 105, 98, 111, 110, 97, 99, 99, 105]⟩
def nmSilv : ByteArray := ⟨#[115, 105, 108, 118, 101, 114]⟩
def nmSqua : ByteArray := ⟨#[115, 113, 117, 97, 114, 101, 102, 114, 101, 101]⟩
def nmRudi : ByteArray := ⟨#[114, 117, 100, 105, 110]⟩
def names : List ByteArray := [nmFib, nmThue, nmDoub, nmTrib, nmSilv, nmSqua, nmRudi]
set_option maxRecDepth 20000 in
set_option maxHeartbeats 1000000 in
theorem namedFib (w : World) :
    Calls Try.prog 96 #[.string nmFib] w fun e w' => ∃ x cap, e = .returned (.tuple #[.agg #[.slice x ([(⟨#[97, 98]⟩ : ByteArray), ⟨#[97]⟩]).length cap], .bool true]) ∧ IsStrs w' x ([(⟨#[97, 98]⟩ : ByteArray), ⟨#[97]⟩]).length cap [(⟨#[97, 98]⟩ : ByteArray), ⟨#[97]⟩] ∧ (∀ b off, x = some ⟨b, off, none⟩ → w.heap.size ≤ b) ∧ Below w.heap.size w w' := by
  have hz : splt (⟨#[97, 98, 44, 97]⟩ : ByteArray) = [(⟨#[97, 98]⟩ : ByteArray), ⟨#[97]⟩] := by decide +kernel
  have hS : sB (splt (⟨#[97, 98, 44, 97]⟩ : ByteArray)) = true := by rw [hz]; exact sB_yes (by unfold sOk iOk isWP inL; decide +kernel)
  have hp : parL (⟨#[97, 98, 44, 97]⟩ : ByteArray) = [(⟨#[97, 98]⟩ : ByteArray), ⟨#[97]⟩] := by unfold parL; rw [if_pos hS, hz]
  have hC := fun w => specParse_any (⟨#[97, 98, 44, 97]⟩ : ByteArray) w (by decide)
  rw [hS, hp] at hC
  unfold nmFib
  go_enter Try.func96, Try.ntmps96
  go_wp2_with (go_at_call 119; refine (hC _).mono ?_; rintro e w1 ⟨x1, c1, rfl, h1, hx1, hb1⟩; obtain ⟨hc1, hf1⟩ := bcell hb1; have hl1 := ltW hb1)
  have hz1 := hb1.size
  simp only [World.size_alloc] at hz1
  refine bodyPost_ret (v := .tuple #[.agg #[.slice x1 ([(⟨#[97, 98]⟩ : ByteArray), ⟨#[97]⟩]).length c1], .bool true]) (by simp [results, Try.results96, go_sem, csame, cset, *]) rfl ⟨x1, c1, rfl, isStrs_setG h1 (fun b off e => by have := hx1 b off e; simp at this; omega), (fun b off e => by have := hx1 b off e; simp at this; omega), by (repeat (first | with_reducible exact Below.refl _ _ | assumption | with_reducible refine Qdrew ?_ | with_reducible refine QdrewN ?_ | ((with_reducible refine Qset ?_ ?_); exact (by ((try simp only [World.size_alloc, World.size_setCell, World.size_drew, size_drewN]); (try dsimp only); omega))) | ((with_reducible refine Qalloc ?_ ?_); exact (by ((try simp only [World.size_alloc, World.size_setCell, World.size_drew, size_drewN]); (try dsimp only); omega))) | refine Qtrans (by assumption) (by ((try simp only [World.size_alloc, World.size_setCell, World.size_drew, size_drewN]); (try dsimp only); omega)) ?_))⟩
set_option maxRecDepth 20000 in
set_option maxHeartbeats 1000000 in
theorem namedThue (w : World) :
    Calls Try.prog 96 #[.string nmThue] w fun e w' => ∃ x cap, e = .returned (.tuple #[.agg #[.slice x ([(⟨#[97, 98]⟩ : ByteArray), (⟨#[98, 97]⟩ : ByteArray)]).length cap], .bool true]) ∧ IsStrs w' x ([(⟨#[97, 98]⟩ : ByteArray), (⟨#[98, 97]⟩ : ByteArray)]).length cap [(⟨#[97, 98]⟩ : ByteArray), (⟨#[98, 97]⟩ : ByteArray)] ∧ (∀ b off, x = some ⟨b, off, none⟩ → w.heap.size ≤ b) ∧ Below w.heap.size w w' := by
  have hz : splt (⟨#[97, 98, 44, 98, 97]⟩ : ByteArray) = [(⟨#[97, 98]⟩ : ByteArray), (⟨#[98, 97]⟩ : ByteArray)] := by decide +kernel
  have hS : sB (splt (⟨#[97, 98, 44, 98, 97]⟩ : ByteArray)) = true := by rw [hz]; exact sB_yes (by unfold sOk iOk isWP inL; decide +kernel)
  have hp : parL (⟨#[97, 98, 44, 98, 97]⟩ : ByteArray) = [(⟨#[97, 98]⟩ : ByteArray), (⟨#[98, 97]⟩ : ByteArray)] := by unfold parL; rw [if_pos hS, hz]
  have hC := fun w => specParse_any (⟨#[97, 98, 44, 98, 97]⟩ : ByteArray) w (by decide)
  rw [hS, hp] at hC
  unfold nmThue
  go_enter Try.func96, Try.ntmps96
  go_wp2_with (go_at_call 119; refine (hC _).mono ?_; rintro e w1 ⟨x1, c1, rfl, h1, hx1, hb1⟩; obtain ⟨hc1, hf1⟩ := bcell hb1; have hl1 := ltW hb1)
  have hz1 := hb1.size
  simp only [World.size_alloc] at hz1
  refine bodyPost_ret (v := .tuple #[.agg #[.slice x1 ([(⟨#[97, 98]⟩ : ByteArray), (⟨#[98, 97]⟩ : ByteArray)]).length c1], .bool true]) (by simp [results, Try.results96, go_sem, csame, cset, *]) rfl ⟨x1, c1, rfl, isStrs_setG h1 (fun b off e => by have := hx1 b off e; simp at this; omega), (fun b off e => by have := hx1 b off e; simp at this; omega), by (repeat (first | with_reducible exact Below.refl _ _ | assumption | with_reducible refine Qdrew ?_ | with_reducible refine QdrewN ?_ | ((with_reducible refine Qset ?_ ?_); exact (by ((try simp only [World.size_alloc, World.size_setCell, World.size_drew, size_drewN]); (try dsimp only); omega))) | ((with_reducible refine Qalloc ?_ ?_); exact (by ((try simp only [World.size_alloc, World.size_setCell, World.size_drew, size_drewN]); (try dsimp only); omega))) | refine Qtrans (by assumption) (by ((try simp only [World.size_alloc, World.size_setCell, World.size_drew, size_drewN]); (try dsimp only); omega)) ?_))⟩
set_option maxRecDepth 20000 in
set_option maxHeartbeats 1000000 in
theorem namedDoub (w : World) :
    Calls Try.prog 96 #[.string nmDoub] w fun e w' => ∃ x cap, e = .returned (.tuple #[.agg #[.slice x ([(⟨#[97, 98]⟩ : ByteArray), (⟨#[97, 97]⟩ : ByteArray)]).length cap], .bool true]) ∧ IsStrs w' x ([(⟨#[97, 98]⟩ : ByteArray), (⟨#[97, 97]⟩ : ByteArray)]).length cap [(⟨#[97, 98]⟩ : ByteArray), (⟨#[97, 97]⟩ : ByteArray)] ∧ (∀ b off, x = some ⟨b, off, none⟩ → w.heap.size ≤ b) ∧ Below w.heap.size w w' := by
  have hz : splt (⟨#[97, 98, 44, 97, 97]⟩ : ByteArray) = [(⟨#[97, 98]⟩ : ByteArray), (⟨#[97, 97]⟩ : ByteArray)] := by decide +kernel
  have hS : sB (splt (⟨#[97, 98, 44, 97, 97]⟩ : ByteArray)) = true := by rw [hz]; exact sB_yes (by unfold sOk iOk isWP inL; decide +kernel)
  have hp : parL (⟨#[97, 98, 44, 97, 97]⟩ : ByteArray) = [(⟨#[97, 98]⟩ : ByteArray), (⟨#[97, 97]⟩ : ByteArray)] := by unfold parL; rw [if_pos hS, hz]
  have hC := fun w => specParse_any (⟨#[97, 98, 44, 97, 97]⟩ : ByteArray) w (by decide)
  rw [hS, hp] at hC
  unfold nmDoub
  go_enter Try.func96, Try.ntmps96
  go_wp2_with (go_at_call 119; refine (hC _).mono ?_; rintro e w1 ⟨x1, c1, rfl, h1, hx1, hb1⟩; obtain ⟨hc1, hf1⟩ := bcell hb1; have hl1 := ltW hb1)
  have hz1 := hb1.size
  simp only [World.size_alloc] at hz1
  refine bodyPost_ret (v := .tuple #[.agg #[.slice x1 ([(⟨#[97, 98]⟩ : ByteArray), (⟨#[97, 97]⟩ : ByteArray)]).length c1], .bool true]) (by simp [results, Try.results96, go_sem, csame, cset, *]) rfl ⟨x1, c1, rfl, isStrs_setG h1 (fun b off e => by have := hx1 b off e; simp at this; omega), (fun b off e => by have := hx1 b off e; simp at this; omega), by (repeat (first | with_reducible exact Below.refl _ _ | assumption | with_reducible refine Qdrew ?_ | with_reducible refine QdrewN ?_ | ((with_reducible refine Qset ?_ ?_); exact (by ((try simp only [World.size_alloc, World.size_setCell, World.size_drew, size_drewN]); (try dsimp only); omega))) | ((with_reducible refine Qalloc ?_ ?_); exact (by ((try simp only [World.size_alloc, World.size_setCell, World.size_drew, size_drewN]); (try dsimp only); omega))) | refine Qtrans (by assumption) (by ((try simp only [World.size_alloc, World.size_setCell, World.size_drew, size_drewN]); (try dsimp only); omega)) ?_))⟩
set_option maxRecDepth 20000 in
set_option maxHeartbeats 1000000 in
theorem namedTrib (w : World) :
    Calls Try.prog 96 #[.string nmTrib] w fun e w' => ∃ x cap, e = .returned (.tuple #[.agg #[.slice x ([(⟨#[97, 98]⟩ : ByteArray), (⟨#[97, 99]⟩ : ByteArray), (⟨#[97]⟩ : ByteArray)]).length cap], .bool true]) ∧ IsStrs w' x ([(⟨#[97, 98]⟩ : ByteArray), (⟨#[97, 99]⟩ : ByteArray), (⟨#[97]⟩ : ByteArray)]).length cap [(⟨#[97, 98]⟩ : ByteArray), (⟨#[97, 99]⟩ : ByteArray), (⟨#[97]⟩ : ByteArray)] ∧ (∀ b off, x = some ⟨b, off, none⟩ → w.heap.size ≤ b) ∧ Below w.heap.size w w' := by
  have hz : splt (⟨#[97, 98, 44, 97, 99, 44, 97]⟩ : ByteArray) = [(⟨#[97, 98]⟩ : ByteArray), (⟨#[97, 99]⟩ : ByteArray), (⟨#[97]⟩ : ByteArray)] := by decide +kernel
  have hS : sB (splt (⟨#[97, 98, 44, 97, 99, 44, 97]⟩ : ByteArray)) = true := by rw [hz]; exact sB_yes (by unfold sOk iOk isWP inL; decide +kernel)
  have hp : parL (⟨#[97, 98, 44, 97, 99, 44, 97]⟩ : ByteArray) = [(⟨#[97, 98]⟩ : ByteArray), (⟨#[97, 99]⟩ : ByteArray), (⟨#[97]⟩ : ByteArray)] := by unfold parL; rw [if_pos hS, hz]
  have hC := fun w => specParse_any (⟨#[97, 98, 44, 97, 99, 44, 97]⟩ : ByteArray) w (by decide)
  rw [hS, hp] at hC
  unfold nmTrib
  go_enter Try.func96, Try.ntmps96
  go_wp2_with (go_at_call 119; refine (hC _).mono ?_; rintro e w1 ⟨x1, c1, rfl, h1, hx1, hb1⟩; obtain ⟨hc1, hf1⟩ := bcell hb1; have hl1 := ltW hb1)
  have hz1 := hb1.size
  simp only [World.size_alloc] at hz1
  refine bodyPost_ret (v := .tuple #[.agg #[.slice x1 ([(⟨#[97, 98]⟩ : ByteArray), (⟨#[97, 99]⟩ : ByteArray), (⟨#[97]⟩ : ByteArray)]).length c1], .bool true]) (by simp [results, Try.results96, go_sem, csame, cset, *]) rfl ⟨x1, c1, rfl, isStrs_setG h1 (fun b off e => by have := hx1 b off e; simp at this; omega), (fun b off e => by have := hx1 b off e; simp at this; omega), by (repeat (first | with_reducible exact Below.refl _ _ | assumption | with_reducible refine Qdrew ?_ | with_reducible refine QdrewN ?_ | ((with_reducible refine Qset ?_ ?_); exact (by ((try simp only [World.size_alloc, World.size_setCell, World.size_drew, size_drewN]); (try dsimp only); omega))) | ((with_reducible refine Qalloc ?_ ?_); exact (by ((try simp only [World.size_alloc, World.size_setCell, World.size_drew, size_drewN]); (try dsimp only); omega))) | refine Qtrans (by assumption) (by ((try simp only [World.size_alloc, World.size_setCell, World.size_drew, size_drewN]); (try dsimp only); omega)) ?_))⟩
set_option maxRecDepth 20000 in
set_option maxHeartbeats 1000000 in
theorem namedSilv (w : World) :
    Calls Try.prog 96 #[.string nmSilv] w fun e w' => ∃ x cap, e = .returned (.tuple #[.agg #[.slice x ([(⟨#[97, 97, 98]⟩ : ByteArray), (⟨#[97]⟩ : ByteArray)]).length cap], .bool true]) ∧ IsStrs w' x ([(⟨#[97, 97, 98]⟩ : ByteArray), (⟨#[97]⟩ : ByteArray)]).length cap [(⟨#[97, 97, 98]⟩ : ByteArray), (⟨#[97]⟩ : ByteArray)] ∧ (∀ b off, x = some ⟨b, off, none⟩ → w.heap.size ≤ b) ∧ Below w.heap.size w w' := by
  have hz : splt (⟨#[97, 97, 98, 44, 97]⟩ : ByteArray) = [(⟨#[97, 97, 98]⟩ : ByteArray), (⟨#[97]⟩ : ByteArray)] := by decide +kernel
  have hS : sB (splt (⟨#[97, 97, 98, 44, 97]⟩ : ByteArray)) = true := by rw [hz]; exact sB_yes (by unfold sOk iOk isWP inL; decide +kernel)
  have hp : parL (⟨#[97, 97, 98, 44, 97]⟩ : ByteArray) = [(⟨#[97, 97, 98]⟩ : ByteArray), (⟨#[97]⟩ : ByteArray)] := by unfold parL; rw [if_pos hS, hz]
  have hC := fun w => specParse_any (⟨#[97, 97, 98, 44, 97]⟩ : ByteArray) w (by decide)
  rw [hS, hp] at hC
  unfold nmSilv
  go_enter Try.func96, Try.ntmps96
  go_wp2_with (go_at_call 119; refine (hC _).mono ?_; rintro e w1 ⟨x1, c1, rfl, h1, hx1, hb1⟩; obtain ⟨hc1, hf1⟩ := bcell hb1; have hl1 := ltW hb1)
  have hz1 := hb1.size
  simp only [World.size_alloc] at hz1
  refine bodyPost_ret (v := .tuple #[.agg #[.slice x1 ([(⟨#[97, 97, 98]⟩ : ByteArray), (⟨#[97]⟩ : ByteArray)]).length c1], .bool true]) (by simp [results, Try.results96, go_sem, csame, cset, *]) rfl ⟨x1, c1, rfl, isStrs_setG h1 (fun b off e => by have := hx1 b off e; simp at this; omega), (fun b off e => by have := hx1 b off e; simp at this; omega), by (repeat (first | with_reducible exact Below.refl _ _ | assumption | with_reducible refine Qdrew ?_ | with_reducible refine QdrewN ?_ | ((with_reducible refine Qset ?_ ?_); exact (by ((try simp only [World.size_alloc, World.size_setCell, World.size_drew, size_drewN]); (try dsimp only); omega))) | ((with_reducible refine Qalloc ?_ ?_); exact (by ((try simp only [World.size_alloc, World.size_setCell, World.size_drew, size_drewN]); (try dsimp only); omega))) | refine Qtrans (by assumption) (by ((try simp only [World.size_alloc, World.size_setCell, World.size_drew, size_drewN]); (try dsimp only); omega)) ?_))⟩
set_option maxRecDepth 20000 in
set_option maxHeartbeats 1000000 in
theorem namedSqua (w : World) :
    Calls Try.prog 96 #[.string nmSqua] w fun e w' => ∃ x cap, e = .returned (.tuple #[.agg #[.slice x ([(⟨#[97, 98, 99]⟩ : ByteArray), (⟨#[97, 99]⟩ : ByteArray), (⟨#[98]⟩ : ByteArray)]).length cap], .bool true]) ∧ IsStrs w' x ([(⟨#[97, 98, 99]⟩ : ByteArray), (⟨#[97, 99]⟩ : ByteArray), (⟨#[98]⟩ : ByteArray)]).length cap [(⟨#[97, 98, 99]⟩ : ByteArray), (⟨#[97, 99]⟩ : ByteArray), (⟨#[98]⟩ : ByteArray)] ∧ (∀ b off, x = some ⟨b, off, none⟩ → w.heap.size ≤ b) ∧ Below w.heap.size w w' := by
  have hz : splt (⟨#[97, 98, 99, 44, 97, 99, 44, 98]⟩ : ByteArray) = [(⟨#[97, 98, 99]⟩ : ByteArray), (⟨#[97, 99]⟩ : ByteArray), (⟨#[98]⟩ : ByteArray)] := by decide +kernel
  have hS : sB (splt (⟨#[97, 98, 99, 44, 97, 99, 44, 98]⟩ : ByteArray)) = true := by rw [hz]; exact sB_yes (by unfold sOk iOk isWP inL; decide +kernel)
  have hp : parL (⟨#[97, 98, 99, 44, 97, 99, 44, 98]⟩ : ByteArray) = [(⟨#[97, 98, 99]⟩ : ByteArray), (⟨#[97, 99]⟩ : ByteArray), (⟨#[98]⟩ : ByteArray)] := by unfold parL; rw [if_pos hS, hz]
  have hC := fun w => specParse_any (⟨#[97, 98, 99, 44, 97, 99, 44, 98]⟩ : ByteArray) w (by decide)
  rw [hS, hp] at hC
  unfold nmSqua
  go_enter Try.func96, Try.ntmps96
  go_wp2_with (go_at_call 119; refine (hC _).mono ?_; rintro e w1 ⟨x1, c1, rfl, h1, hx1, hb1⟩; obtain ⟨hc1, hf1⟩ := bcell hb1; have hl1 := ltW hb1)
  have hz1 := hb1.size
  simp only [World.size_alloc] at hz1
  refine bodyPost_ret (v := .tuple #[.agg #[.slice x1 ([(⟨#[97, 98, 99]⟩ : ByteArray), (⟨#[97, 99]⟩ : ByteArray), (⟨#[98]⟩ : ByteArray)]).length c1], .bool true]) (by simp [results, Try.results96, go_sem, csame, cset, *]) rfl ⟨x1, c1, rfl, isStrs_setG h1 (fun b off e => by have := hx1 b off e; simp at this; omega), (fun b off e => by have := hx1 b off e; simp at this; omega), by (repeat (first | with_reducible exact Below.refl _ _ | assumption | with_reducible refine Qdrew ?_ | with_reducible refine QdrewN ?_ | ((with_reducible refine Qset ?_ ?_); exact (by ((try simp only [World.size_alloc, World.size_setCell, World.size_drew, size_drewN]); (try dsimp only); omega))) | ((with_reducible refine Qalloc ?_ ?_); exact (by ((try simp only [World.size_alloc, World.size_setCell, World.size_drew, size_drewN]); (try dsimp only); omega))) | refine Qtrans (by assumption) (by ((try simp only [World.size_alloc, World.size_setCell, World.size_drew, size_drewN]); (try dsimp only); omega)) ?_))⟩
set_option maxRecDepth 20000 in
set_option maxHeartbeats 1000000 in
theorem namedRudi (w : World) :
    Calls Try.prog 96 #[.string nmRudi] w fun e w' => ∃ x cap, e = .returned (.tuple #[.agg #[.slice x ([(⟨#[97, 98]⟩ : ByteArray), (⟨#[97, 99]⟩ : ByteArray), (⟨#[100, 98]⟩ : ByteArray), (⟨#[100, 99]⟩ : ByteArray)]).length cap], .bool true]) ∧ IsStrs w' x ([(⟨#[97, 98]⟩ : ByteArray), (⟨#[97, 99]⟩ : ByteArray), (⟨#[100, 98]⟩ : ByteArray), (⟨#[100, 99]⟩ : ByteArray)]).length cap [(⟨#[97, 98]⟩ : ByteArray), (⟨#[97, 99]⟩ : ByteArray), (⟨#[100, 98]⟩ : ByteArray), (⟨#[100, 99]⟩ : ByteArray)] ∧ (∀ b off, x = some ⟨b, off, none⟩ → w.heap.size ≤ b) ∧ Below w.heap.size w w' := by
  have hz : splt (⟨#[97, 98, 44, 97, 99, 44, 100, 98, 44, 100, 99]⟩ : ByteArray) = [(⟨#[97, 98]⟩ : ByteArray), (⟨#[97, 99]⟩ : ByteArray), (⟨#[100, 98]⟩ : ByteArray), (⟨#[100, 99]⟩ : ByteArray)] := by decide +kernel
  have hS : sB (splt (⟨#[97, 98, 44, 97, 99, 44, 100, 98, 44, 100, 99]⟩ : ByteArray)) = true := by rw [hz]; exact sB_yes (by unfold sOk iOk isWP inL; decide +kernel)
  have hp : parL (⟨#[97, 98, 44, 97, 99, 44, 100, 98, 44, 100, 99]⟩ : ByteArray) = [(⟨#[97, 98]⟩ : ByteArray), (⟨#[97, 99]⟩ : ByteArray), (⟨#[100, 98]⟩ : ByteArray), (⟨#[100, 99]⟩ : ByteArray)] := by unfold parL; rw [if_pos hS, hz]
  have hC := fun w => specParse_any (⟨#[97, 98, 44, 97, 99, 44, 100, 98, 44, 100, 99]⟩ : ByteArray) w (by decide)
  rw [hS, hp] at hC
  unfold nmRudi
  go_enter Try.func96, Try.ntmps96
  go_wp2_with (go_at_call 119; refine (hC _).mono ?_; rintro e w1 ⟨x1, c1, rfl, h1, hx1, hb1⟩; obtain ⟨hc1, hf1⟩ := bcell hb1; have hl1 := ltW hb1)
  have hz1 := hb1.size
  simp only [World.size_alloc] at hz1
  refine bodyPost_ret (v := .tuple #[.agg #[.slice x1 ([(⟨#[97, 98]⟩ : ByteArray), (⟨#[97, 99]⟩ : ByteArray), (⟨#[100, 98]⟩ : ByteArray), (⟨#[100, 99]⟩ : ByteArray)]).length c1], .bool true]) (by simp [results, Try.results96, go_sem, csame, cset, *]) rfl ⟨x1, c1, rfl, isStrs_setG h1 (fun b off e => by have := hx1 b off e; simp at this; omega), (fun b off e => by have := hx1 b off e; simp at this; omega), by (repeat (first | with_reducible exact Below.refl _ _ | assumption | with_reducible refine Qdrew ?_ | with_reducible refine QdrewN ?_ | ((with_reducible refine Qset ?_ ?_); exact (by ((try simp only [World.size_alloc, World.size_setCell, World.size_drew, size_drewN]); (try dsimp only); omega))) | ((with_reducible refine Qalloc ?_ ?_); exact (by ((try simp only [World.size_alloc, World.size_setCell, World.size_drew, size_drewN]); (try dsimp only); omega))) | refine Qtrans (by assumption) (by ((try simp only [World.size_alloc, World.size_setCell, World.size_drew, size_drewN]); (try dsimp only); omega)) ?_))⟩
theorem named_any (z : ByteArray) (hz : z ∈ names) (w : World) :
    Calls Try.prog 96 #[.string z] w fun e w' => ∃ x cap zs, e = .returned (.tuple #[.agg #[.slice x zs.length cap], .bool true]) ∧ sB zs = true ∧ IsStrs w' x zs.length cap zs ∧ (∀ b off, x = some ⟨b, off, none⟩ → w.heap.size ≤ b) ∧ Below w.heap.size w w' := by
  simp only [names, List.mem_cons, List.mem_nil_iff, or_false] at hz
  rcases hz with rfl | rfl | rfl | rfl | rfl | rfl | rfl
  · exact (namedFib w).mono fun e w' ⟨x, cap, h1, h2, h3, h4⟩ => ⟨x, cap, [(⟨#[97, 98]⟩ : ByteArray), (⟨#[97]⟩ : ByteArray)], h1, sB_yes (by unfold sOk iOk isWP inL; decide +kernel), h2, h3, h4⟩
  · exact (namedThue w).mono fun e w' ⟨x, cap, h1, h2, h3, h4⟩ => ⟨x, cap, [(⟨#[97, 98]⟩ : ByteArray), (⟨#[98, 97]⟩ : ByteArray)], h1, sB_yes (by unfold sOk iOk isWP inL; decide +kernel), h2, h3, h4⟩
  · exact (namedDoub w).mono fun e w' ⟨x, cap, h1, h2, h3, h4⟩ => ⟨x, cap, [(⟨#[97, 98]⟩ : ByteArray), (⟨#[97, 97]⟩ : ByteArray)], h1, sB_yes (by unfold sOk iOk isWP inL; decide +kernel), h2, h3, h4⟩
  · exact (namedTrib w).mono fun e w' ⟨x, cap, h1, h2, h3, h4⟩ => ⟨x, cap, [(⟨#[97, 98]⟩ : ByteArray), (⟨#[97, 99]⟩ : ByteArray), (⟨#[97]⟩ : ByteArray)], h1, sB_yes (by unfold sOk iOk isWP inL; decide +kernel), h2, h3, h4⟩
  · exact (namedSilv w).mono fun e w' ⟨x, cap, h1, h2, h3, h4⟩ => ⟨x, cap, [(⟨#[97, 97, 98]⟩ : ByteArray), (⟨#[97]⟩ : ByteArray)], h1, sB_yes (by unfold sOk iOk isWP inL; decide +kernel), h2, h3, h4⟩
  · exact (namedSqua w).mono fun e w' ⟨x, cap, h1, h2, h3, h4⟩ => ⟨x, cap, [(⟨#[97, 98, 99]⟩ : ByteArray), (⟨#[97, 99]⟩ : ByteArray), (⟨#[98]⟩ : ByteArray)], h1, sB_yes (by unfold sOk iOk isWP inL; decide +kernel), h2, h3, h4⟩
  · exact (namedRudi w).mono fun e w' ⟨x, cap, h1, h2, h3, h4⟩ => ⟨x, cap, [(⟨#[97, 98]⟩ : ByteArray), (⟨#[97, 99]⟩ : ByteArray), (⟨#[100, 98]⟩ : ByteArray), (⟨#[100, 99]⟩ : ByteArray)], h1, sB_yes (by unfold sOk iOk isWP inL; decide +kernel), h2, h3, h4⟩
set_option maxRecDepth 20000 in
set_option maxHeartbeats 1000000 in
theorem l01Str_any (B g : Nat) (x : Option Addr) (n cap : Nat) (y : Option Addr) (N cy : Nat) (zs : List ByteArray) (w : World) (hN : 0 < N) (hN2 : N ≤ 256) (hy : IsStrs w y N cy zs) (hyg : ∀ b off, y = some ⟨b, off, none⟩ → b ≠ g) (hB : B ≤ g) (hr : RB B w x n) (hc : Cur w g x n cap) :
    Calls Try.prog 97 #[.pointer (some ⟨g, 0, none⟩), .slice y N cy] w fun e w' => ∃ z : ByteArray, e = .returned (.string z) ∧ z ∈ zs ∧ Cur w' g x n cap ∧ w.grownBy w' (some g) := by
  have hC := l01Below_any B g x n cap (N : Int) (by omega) (by omega) w hB hr hc
  obtain ⟨b, off, rfl, hlt, hcell⟩ : ∃ b off, y = some ⟨b, off, none⟩ ∧ b < w.heap.size ∧ ∀ j, j < N → w.cell? ⟨b, off + j, none⟩ = some (.string (zs.getD j ByteArray.empty)) := by
    rcases hy.2.2.2.2 with h0 | q
    · omega
    · exact q
  have hbg := hyg b off rfl
  have hcell' := Lib.hid hcell
  have hl := hy.1
  have hcap : N ≤ cy := hy.2.1
  clear hcell hy hyg hr hc
  go_enter Try.func97, Try.ntmps97
  go_wp2_with fail
  refine hC.mono ?_
  rintro e w1 ⟨v, rfl, ⟨hv0, hv1⟩, hc1, hg1⟩
  obtain ⟨k, rfl⟩ : ∃ k : Nat, v = (k : Int) := ⟨v.toNat, by omega⟩
  have hk : k < N := by omega
  have hck := (hg1.cell_far ⟨b, off + k, none⟩ hlt (by simp; omega)).trans (hcell'.out k hk)
  have hmem : Hid (zs.getD k ByteArray.empty ∈ zs) := by
    rw [List.getD_eq_getElem?_getD, List.getElem?_eq_getElem (by omega)]; exact List.getElem_mem _
  obtain ⟨z, hz⟩ : ∃ z, zs.getD k ByteArray.empty = z := ⟨_, rfl⟩
  rw [hz] at hck hmem
  clear hz
  go_wp2
  go_ret
  exact ⟨z, rfl, hmem.out, hc1, hg1⟩
end Go.Proofs.Ytilbhingfnjppab

namespace Go.Proofs.Ytilbhingfnjppab
open Go.RowKit
theorem cur_drew {w : World} {g : Nat} {x : Option Addr} {n cap : Nat} (h : Cur w g x n cap) : Cur w.drew g x n cap := h
theorem rB_drew {w : World} {B : Nat} {x : Option Addr} {n : Nat} (h : RB B w x n) : RB B w.drew x n := h
theorem size_drewI {w : World} {k : Nat} (h : w.drew.heap.size ≤ k) : w.heap.size ≤ k := h
theorem cell_drewI {w : World} {a : Addr} {v : Option Value} (h : w.cell? a = v) : w.drew.cell? a = v := h
theorem frozen_drewI {w : World} {a : Addr} {v : Bool} (h : w.frozen? a = v) : w.drew.frozen? a = v := h
theorem grown_drewF {w a b : World} {g : Nat} (h1 : w.grownBy a (some g)) (h2 : a.drew.grownBy b (some g)) : w.grownBy b (some g) := World.grownBy.trans (b := a.drew) ⟨h1.os, h1.tape, h1.output, h1.size, h1.block⟩ h2
theorem grown_drewG {w a : World} {g : Nat} (h : w.grownBy a (some g)) : w.grownBy a.drew (some g) := ⟨h.os, h.tape, h.output, h.size, h.block⟩
theorem falloc {w : World} {b o : Nat} {x : Obj} (h : b < w.heap.size) : (w.alloc x).frozen? ⟨b, o, none⟩ = w.frozen? ⟨b, o, none⟩ :=
  (((Below.refl _ w).alloc (Nat.le_refl _) x).frozen (p := ⟨b, o, none⟩) h)
theorem isStrs_ownAny {w : World} {B n cap : Nat} {y : Option Addr} {zs : List ByteArray} (h : w.ownsRow B 9 1 (.slice y n cap) n (sv zs)) (hl : zs.length = n) (hz : ∀ s ∈ zs, s.size ≤ maxLen) : IsStrs w y n cap zs := by
  rcases h.2 with ⟨h', h0⟩ | ⟨g, _, _, h', _⟩
  · cases h'
    have : zs = [] := List.length_eq_zero_iff.1 hl
    subst this
    exact isStrs_nil w
  · cases h'
    exact isStrs_own h hz
/-- A row of images of letters among the first n. -/
def rowOk (n : Int) (zs : List ByteArray) : Prop := ∀ z ∈ zs, (1 ≤ z.size ∧ z.size ≤ 4) ∧ ∀ j, j < z.size → 97 ≤ bt z j ∧ bt z j < 97 + n
theorem rowOk_sB {n : Nat} {zs : List ByteArray} (h1 : 1 ≤ n) (h3 : n ≤ 3) (hl : zs.length = n) (h : rowOk n zs) : sB zs = true := by
  refine sB_yes ⟨⟨by omega, by omega⟩, fun j hj => ?_⟩
  have hm : zs.getD j ByteArray.empty ∈ zs := by
    rw [List.getD_eq_getElem?_getD, List.getElem?_eq_getElem hj]; exact List.getElem_mem _
  obtain ⟨⟨a, b⟩, c⟩ := h _ hm
  refine ⟨⟨a, by omega⟩, ⟨by omega, fun i hi => ?_⟩, fun i hi => ?_⟩
  · have := c i hi; unfold inL; omega
  · have := c i hi; unfold lt; omega
theorem bt_of_list {l : List UInt8} {k : Int} (h : ∀ b ∈ l, 97 ≤ b.toNat ∧ (b.toNat : Int) < 97 + k) : ∀ j, j < (⟨l.toArray⟩ : ByteArray).size → 97 ≤ bt ⟨l.toArray⟩ j ∧ bt ⟨l.toArray⟩ j < 97 + k := by
  intro j hj
  have hj' : j < l.length := by simpa [ByteArray.size] using hj
  have := h _ (List.getElem_mem hj')
  rw [← bt_eq _ j hj]
  have e : ((⟨l.toArray⟩ : ByteArray)[j]'hj) = l[j] := by
    show l.toArray[j] = l[j]
    simp
  rw [e]; omega
theorem l02Word_int (B g : Nat) (x : Option Addr) (n cap : Nat) (K : Int) (hK1 : 0 ≤ K) (hK2 : K ≤ 1000) (k : Int) (hk1 : 1 ≤ k) (hk2 : k ≤ 26) (w : World) (hB : B ≤ g) (hr : RB B w x n) (hc : Cur w g x n cap) :
    Calls Try.prog 60 #[.pointer (some ⟨g, 0, none⟩), .int .i64 K, .int .i64 k] w fun e w' => ∃ l : List UInt8, e = .returned (.string ⟨l.toArray⟩) ∧ (l.length : Int) = K ∧ (∀ b ∈ l, 97 ≤ b.toNat ∧ (b.toNat : Int) < 97 + k) ∧ Cur w' g x n cap ∧ w.grownBy w' (some g) := by
  obtain ⟨N, rfl⟩ : ∃ N : Nat, K = (N : Int) := ⟨K.toNat, by omega⟩
  exact (l02Word_any B g x n cap N (by omega) k hk1 hk2 w hB hr hc).mono fun e w' ⟨l, h1, h2, h3⟩ => ⟨l, h1, by omega, h3⟩
set_option maxRecDepth 20000 in
set_option maxHeartbeats 4000000 in
theorem l03Draw_any (B g : Nat) (x : Option Addr) (n cap : Nat) (w : World) (hB : B ≤ g) (hr : RB B w x n) (hc : Cur w g x n cap) :
    Calls Try.prog 58 #[.pointer (some ⟨g, 0, none⟩)] w fun e w' => ∃ y cy zs, e = .returned (.agg #[.slice y zs.length cy]) ∧ sB zs = true ∧ IsStrs w' y zs.length cy zs ∧ (∀ b off, y = some ⟨b, off, none⟩ → w.heap.size ≤ b) ∧ w.grownBy w' (some g) := by
  have hgw := cur_lt hc
  have hbW : Below w.heap.size w (w.alloc (.cells #[.slice none 0 0] 25)) := (Below.refl _ w).alloc (Nat.le_refl _) _
  have hC1 := l01Once_any B g x n cap 2 (by omega) (by omega) (w.alloc (.cells #[.slice none 0 0] 25)) hB (rB_below hr (hbW.mono (by omega))) (cur_below hc hbW hgw)
  have hrH := Lib.hid hr
  clear hr hc
  go_enter Try.func58, Try.ntmps58
  go_wp2_with fail
  refine hC1.mono ?_
  rintro e w1 ⟨b, rfl, hc1, hg1⟩
  have hz1 := hg1.size
  have hg01 : w.grownBy w1 (some g) := grown_gg (grown_alloc (World.grownBy.refl _ _) _) hg1
  have hr1 := rB_grown hrH.out hg01 (by omega) hB
  have c1 : w1.cell? ⟨w.heap.size, 0, none⟩ = some (.slice none 0 0) := (hg1.cell_far _ (by simp) (by simp; omega)).trans (by simp [go_sem])
  have f1 : w1.frozen? ⟨w.heap.size, 0, none⟩ = false := (hg1.frozen_far _ (by simp) (by simp; omega)).trans (by simp [go_sem])
  simp only [World.size_alloc] at hz1
  have hs1 : w.heap.size < w1.heap.size := by omega
  cases b
  · have hC2 := l01Below_any B g x n cap 3 (by omega) (by omega) w1 hB hr1 hc1
    go_wp2_with fail
    refine hC2.mono ?_
    rintro e w2 ⟨v, rfl, ⟨hv0, hv1⟩, hc2, hg2⟩
    have hz2 := hg2.size
    have hg02 : w.grownBy w2 (some g) := grown_gg hg01 hg2
    have c2 : w2.cell? ⟨w.heap.size, 0, none⟩ = some (.slice none 0 0) := (hg2.cell_far ⟨w.heap.size, 0, none⟩ hs1 (by simp; omega)).trans c1
    have f2 : w2.frozen? ⟨w.heap.size, 0, none⟩ = false := (hg2.frozen_far ⟨w.heap.size, 0, none⟩ hs1 (by simp; omega)).trans f1
    have hs2 : w.heap.size < w2.heap.size := by omega
    obtain ⟨N, hN⟩ : ∃ N : Nat, (N : Int) = 1 + v := ⟨(1 + v).toNat, by omega⟩
    have i9 : IntKind.i64.wrap (1 + v) = 1 + v := IntWalk.i64_in _ (by omega)
    have hN1 : 1 ≤ N := by omega
    have hN3 : N ≤ 3 := by omega
    obtain ⟨i0, hi0, hz0, hz1, hz2⟩ := info_parts infoS
    go_wp2_with fail
    clear hc1 hr1
    go_loopw [7] (fun i wr => ∃ (k cy : Nat) (y : Option Addr) (zs : List ByteArray), k ≤ N ∧ i = .int .i64 k ∧ zs.length = k ∧ rowOk (1 + v) zs ∧ wr.cell? ⟨w2.heap.size, 0, none⟩ = some (.slice y k cy) ∧ wr.frozen? ⟨w2.heap.size, 0, none⟩ = false ∧ wr.ownsRow (w2.heap.size + 1) 9 1 (.slice y k cy) k (sv zs) ∧ wr.cell? ⟨w.heap.size, 0, none⟩ = some (.slice none 0 0) ∧ wr.frozen? ⟨w.heap.size, 0, none⟩ = false ∧ w2.heap.size < wr.heap.size ∧ Cur wr g x n cap ∧ w.grownBy wr (some g)) (fun i _ => N - (intOf i).toNat)
    case atStart => exact ⟨0, 0, none, [], by omega, rfl, rfl, by intro z hz; simp at hz, by simp [go_sem], by simp [go_sem], World.ownsRow_nil _ _ _ _, (calloc hs2).trans c2, (falloc hs2).trans f2, by simp, cur_below hc2 ((Below.refl _ w2).alloc (Nat.le_refl _) _) (cur_lt hc2), grown_alloc hg02 _⟩
    case round =>
      obtain ⟨k, cy, y, zs, hk, rfl, hl, hrow, k6, kf6, hown, c3, f3, hz3, hc3, hg3⟩ := hrel
      have hwz := hg3.size
      have hg3' := cur_lt hc2
      have hs3 : w.heap.size < wr.heap.size := by omega
      by_cases hlt : k < N
      · have i1 : (k : Int) < 1 + v := by omega
        have i8 : IntKind.i64.wrap ((k : Int) + 1) = (k : Int) + 1 := IntWalk.i64_in _ (by omega)
        have hrow' := Lib.hid hrow
        have hl' := Lib.hid hl
        have hr3 := rB_grown hrH.out hg3 (by omega) hB
        have hown' := Lib.hid hown
        clear hrow hl hc2 hown
        go_wp2_with fail
        go_region_law (first | (((refine step_append_lies _ (by rfl) _ _ _ (by rfl) (w2.heap.size + 1) 9 i0 _ 1 16 Try.underlying23 hi0 hz0 hz1 hz2 rfl (by decide) (.slice y k cy) (k) (sv zs) (by rfl) (hown7.alloc _) ⟨(w7).heap.size, 0, none⟩ 1 1 [.string ⟨L.toArray⟩] (by rfl) (by rfl) (World.news_of_block (cs := #[.string ⟨L.toArray⟩]) (t := 9) (fr := (0, 0)) (heap_alloc_new (w7) _)) (by simp [Value.oneCell']) (by omega) (by unfold maxLen; omega) (by omega) (by simp; omega) ((w7).heap.size + 1) (by simp) ?_; intro gg cap w1 hown1 hgrow hatg hltg)); have k9 := (hgrow.cell_far ⟨w2.heap.size, 0, none⟩ (by simp; omega) (fun e => by have := (hown7.lt w2.heap.size e.symm).1; omega)).trans ((calloc hz7').trans k8); have kf9 := (hgrow.frozen_far ⟨w2.heap.size, 0, none⟩ (by simp; omega) (fun e => by have := (hown7.lt w2.heap.size e.symm).1; omega)).trans ((falloc hz7').trans kf8)) | (go_simp; go_at_call 61; (with_reducible refine (l01Below_any B g x n cap 4 (by omega) (by omega) wr.drew hB (rB_drew hr3) (cur_drew hc3)).mono ?_); rintro e w6 ⟨v4, rfl, ⟨a0, a1⟩, hc6, hg6⟩; have hz6 := size_drewI hg6.size; have hz6' : w2.heap.size < w6.heap.size := (by omega); have hg36 : w.grownBy w6 (some g) := grown_drewF hg3 hg6; have k7 : w6.cell? ⟨w2.heap.size, 0, none⟩ = some (.slice y k cy) := (hg6.cell_far ⟨w2.heap.size, 0, none⟩ hz3 (by simp; omega)).trans (cell_drewI k6); have kf7 : w6.frozen? ⟨w2.heap.size, 0, none⟩ = false := (hg6.frozen_far ⟨w2.heap.size, 0, none⟩ hz3 (by simp; omega)).trans (frozen_drewI kf6); have i4 : IntKind.i64.wrap (1 + v4) = 1 + v4 := IntWalk.i64_in _ (by omega)) | (go_simp; go_at_call 60; (with_reducible refine (l02Word_int B g x n cap (1 + v4) (by omega) (by omega) (1 + v) (by omega) (by omega) w6 hB (rB_grown hrH.out hg36 (by omega) hB) hc6).mono ?_); rintro e w7 ⟨L, rfl, hL, hLb, hc7, hg7⟩; have hz7 : w6.heap.size ≤ w7.heap.size := hg7.size; have hz7' : w2.heap.size < w7.heap.size := (by omega); have hg37 : wr.grownBy w7 (some g) := grown_gg (grown_drewF (World.grownBy.refl _ _) hg6) hg7; have k8 : w7.cell? ⟨w2.heap.size, 0, none⟩ = some (.slice y k cy) := (hg7.cell_far ⟨w2.heap.size, 0, none⟩ hz6' (by simp; omega)).trans k7; have kf8 : w7.frozen? ⟨w2.heap.size, 0, none⟩ = false := (hg7.frozen_far ⟨w2.heap.size, 0, none⟩ hz6' (by simp; omega)).trans kf7; have hown7 := hown'.out.kept hg37 (.inr (fun e => by have := (hown'.out.lt g e).1; omega)); have hL' := Lib.hid hL; have hLb' := Lib.hid hLb; clear hL hLb))
        all_goals go_wp2
        all_goals
          have hg7 : wr.grownBy w7 (some g) := hg37
          have hz8 := hgrow.size
          simp only [World.size_alloc] at hz8
          have hob : ∀ b, b ≤ w2.heap.size → some b ≠ (Value.slice y k cy).ownBlock := fun b hb e => by
            have := (hown7.lt b e.symm).1; omega
          have hc9 := cur_far (cur_below hc7 ((Below.refl _ w7).alloc (Nat.le_refl _) (.cells #[.string ⟨L.toArray⟩] 9)) (cur_lt hc7)) hgrow (hob g (by omega))
          refine ⟨⟨k + 1, cap, some ⟨gg, 0, none⟩, zs ++ [⟨L.toArray⟩], by omega, by go_num, by simp [hl'.out], ?_, by rw [csame, k9]; rfl, (World.frozen?_setCell _ _ _ _).trans kf9, ?_, ?_, ?_, by simp; omega, cur_far hc9 (grown_set _ _ _ _) (by simp; omega), ?_⟩, by simp [intOf]; omega⟩
          · intro z hz
            rcases List.mem_append.1 hz with q | q
            · exact hrow'.out z q
            · rw [List.mem_singleton] at q; subst q
              have e := hL'.out
              exact ⟨⟨by simp [ByteArray.size]; omega, by simp [ByteArray.size]; omega⟩, bt_of_list hLb'.out⟩
          · rw [sv_snoc]
            exact ownsRow_setCell_below hown1 (by show w2.heap.size < _; omega) _
          · exact (cset (by omega)).trans ((hgrow.cell_far ⟨w.heap.size, 0, none⟩ (by show w.heap.size < _; simp; omega) (hob w.heap.size (by omega))).trans ((calloc (by omega)).trans ((hg7.cell_far ⟨w.heap.size, 0, none⟩ hs3 (by simp; omega)).trans c3)))
          · exact (World.frozen?_setCell _ _ _ _).trans ((hgrow.frozen_far ⟨w.heap.size, 0, none⟩ (by show w.heap.size < _; simp; omega) (hob w.heap.size (by omega))).trans ((falloc (by omega)).trans ((hg7.frozen_far ⟨w.heap.size, 0, none⟩ hs3 (by simp; omega)).trans f3)))
          · exact grown_new (grown_new (grown_alloc (grown_gg hg3 hg7) _) hgrow (fun b e => by have := (hown7.lt b e).1; omega)) (grown_set _ _ _ _) (fun b e => by cases e; omega)
      · obtain rfl : k = N := by omega
        have hS := rowOk_sB hN1 hN3 hl (by rw [hN]; exact hrow)
        have hsm : ∀ z ∈ zs, z.size ≤ maxLen := fun z hz => by have := (hrow z hz).1.2; unfold maxLen; omega
        have hst : IsStrs wr y k cy zs := isStrs_ownAny hown hl hsm
        have hyB : ∀ b off, y = some ⟨b, off, none⟩ → w2.heap.size < b := fun b off e => by
          subst e
          rcases hown.2 with ⟨h', _⟩ | ⟨g', _, _, h', hg', _⟩
          · cases h'
          · cases h'; omega
        have hl' := Lib.hid hl
        have i1 : ¬ (k : Int) < 1 + v := by omega
        clear hrow hsm hl hc2
        go_wp2
        refine bodyPost_ret (v := .agg #[.slice y k cy]) (by simp [results, Try.results58, go_sem, csame, cset, *]) rfl ⟨y, cy, zs, by rw [hl'.out], hS, ?_, (fun b off e => by have := hyB b off e; omega), ?_⟩
        · rw [hl'.out]
          exact isStrs_setG hst (fun b off e => by have := hyB b off e; omega)
        · exact grown_new hg3 (grown_set _ _ _ _) (fun b e => by cases e; omega)
  · have own7 : (w1.alloc (.cells #[.string nmFib, .string nmThue, .string nmDoub, .string nmTrib, .string nmSilv, .string nmSqua, .string nmRudi] 9)).ownsRow w1.heap.size 9 1 (.slice (some ⟨w1.heap.size, 0, none⟩) 7 7) 7 (sv names) := World.ownsRow_lit w1 #[.string nmFib, .string nmThue, .string nmDoub, .string nmTrib, .string nmSilv, .string nmSqua, .string nmRudi] 7 (Nat.le_refl _) (by decide) rfl
    have hgA : w.grownBy (w1.alloc (.cells #[.string nmFib, .string nmThue, .string nmDoub, .string nmTrib, .string nmSilv, .string nmSqua, .string nmRudi] 9)) (some g) := grown_alloc hg01 _
    have hStr := l01Str_any B g x n cap (some ⟨w1.heap.size, 0, none⟩) 7 7 names _ (by omega) (by omega) (isStrs_own own7 (by intro z hz; simp [names] at hz; rcases hz with rfl | rfl | rfl | rfl | rfl | rfl | rfl <;> (unfold maxLen; decide))) (fun b off e => by cases e; have := cur_lt hc1; omega) hB (rB_grown hrH.out hgA (by omega) hB) (cur_below hc1 ((Below.refl _ w1).alloc (Nat.le_refl _) (.cells #[.string nmFib, .string nmThue, .string nmDoub, .string nmTrib, .string nmSilv, .string nmSqua, .string nmRudi] 9)) (cur_lt hc1))
    unfold nmFib nmThue nmDoub nmTrib nmSilv nmSqua nmRudi at hStr hgA
    clear own7
    go_wp2_with fail
    refine hStr.mono ?_
    rintro e w2 ⟨z, rfl, hzm, hc2, hg2⟩
    have hz2 := hg2.size
    simp only [World.size_alloc] at hz2
    have hg02 : w.grownBy w2 (some g) := grown_gg hgA hg2
    have c2 : w2.cell? ⟨w.heap.size, 0, none⟩ = some (.slice none 0 0) := (hg2.cell_far ⟨w.heap.size, 0, none⟩ (by simp; omega) (by simp; omega)).trans ((calloc hs1).trans c1)
    have f2 : w2.frozen? ⟨w.heap.size, 0, none⟩ = false := (hg2.frozen_far ⟨w.heap.size, 0, none⟩ (by simp; omega) (by simp; omega)).trans ((falloc hs1).trans f1)
    have hs2 : w.heap.size < w2.heap.size := by omega
    have hNm := named_any z hzm w2
    go_wp2_with (go_at_call 96; refine hNm.mono ?_; rintro e w3 ⟨y, cy, zs, rfl, hS, hst, hy, hb3⟩; obtain ⟨hc3, hf3⟩ := bcell hb3; have hl3 := ltW hb3)
    have hz3 := hb3.size
    have hs3 : w.heap.size < w3.heap.size := by omega
    have hg03 := grownG_below hg02 hb3
    have c3 : w3.cell? ⟨w.heap.size, 0, none⟩ = some (.slice none 0 0) := (hc3 _ 0 hs2).trans c2
    have f3 : w3.frozen? ⟨w.heap.size, 0, none⟩ = false := (hf3 _ 0 hs2).trans f2
    refine bodyPost_ret (v := .agg #[.slice y zs.length cy]) (by simp [results, Try.results58, go_sem, csame, cset, *]) rfl ⟨y, cy, zs, rfl, hS, ?_, (fun b off e => by have := hy b off e; omega), ?_⟩
    · exact isStrs_below (isStrs_setG hst (fun b off e => by have := hy b off e; omega)) (Nat.le_refl _) ((Below.refl _ _).alloc (Nat.le_refl _) _)
    · exact grown_alloc (grown_new hg03 (grown_set _ _ _ _) (fun k hk => by cases hk; exact Nat.le_refl _)) _
set_option maxRecDepth 20000 in
set_option maxHeartbeats 1000000 in
theorem MakeSubst_any (B : Nat) (x : Option Addr) (n cap m : Nat) (hm : m ≤ 1000) (w : World) (hB : B ≤ w.heap.size) (hr : RB B w x n) :
    Calls Try.prog 7 #[.slice x n cap, .int .i64 m] w fun e w' => ∃ y cy zs, e = .returned (.agg #[.slice y zs.length cy]) ∧ sB zs = true ∧ IsStrs w' y zs.length cy zs ∧ (∀ b off, y = some ⟨b, off, none⟩ → w.heap.size ≤ b) ∧ Below w.heap.size w w' := by
  have hbW : Below w.heap.size w (w.alloc (.cells #[.slice none 0 0] 25)) := (Below.refl _ w).alloc (Nat.le_refl _) _
  have hrW : RB w.heap.size (w.alloc (.cells #[.slice none 0 0] 25)) x n := rB_below (rB_mono hr hB) hbW
  have hC1 := l31New_any w.heap.size x n cap m hm _ (by simp) hrW
  clear hr
  go_enter Try.func7, Try.ntmps7
  go_wp2_with (first | (go_at_call 59; refine hC1.mono ?_; rintro e w1 ⟨g, rfl, hg, hc1, hb1⟩; have hz1 := hb1.size; (simp at hg); have hk1 := fun o => hb1.cell (p := ⟨w.heap.size, o, none⟩) (by simp); have hk2 := fun o => hb1.frozen (p := ⟨w.heap.size, o, none⟩) (by simp)) | (go_at_call 58; refine (l03Draw_any (w.heap.size + 1) g x n cap w1 hg (rB_below (rB_mono hrW (by omega)) (hb1.mono (by simp))) hc1).mono ?_; rintro e w2 ⟨y, cy, zs, rfl, hS, hst, hy, hg2⟩; have hz2 := hg2.size; have hb2 := below_of_grown (B := w.heap.size + 1) hg2 (by simp at hz1; omega) hg; have hk3 := fun o => hb2.cell (p := ⟨w.heap.size, o, none⟩) (by simp); have hk4 := fun o => hb2.frozen (p := ⟨w.heap.size, o, none⟩) (by simp)))
  simp only [World.size_alloc] at hz1
  have hbA : Below w.heap.size w w2 := (hbW.trans (hb1.mono (by simp))).trans (hb2.mono (by omega))
  refine bodyPost_ret (v := .agg #[.slice y zs.length cy]) (by simp [results, Try.results7, go_sem, cset, csame, *]) rfl ⟨y, cy, zs, rfl, hS, isStrs_setG hst (fun b off e => by have := hy b off e; omega), (fun b off e => by have := hy b off e; omega), ?_⟩
  (repeat (first | with_reducible exact Below.refl _ _ | assumption | with_reducible refine Qdrew ?_ | with_reducible refine QdrewN ?_ | ((with_reducible refine Qset ?_ ?_); exact (by ((try simp only [World.size_alloc, World.size_setCell, World.size_drew, size_drewN]); (try dsimp only); omega))) | ((with_reducible refine Qalloc ?_ ?_); exact (by ((try simp only [World.size_alloc, World.size_setCell, World.size_drew, size_drewN]); (try dsimp only); omega))) | refine Qtrans (by assumption) (by ((try simp only [World.size_alloc, World.size_setCell, World.size_drew, size_drewN]); (try dsimp only); omega)) ?_))
end Go.Proofs.Ytilbhingfnjppab

namespace Go.Proofs.Ytilbhingfnjppab
open Go.RowKit
/-- The words of a list that a word's first letters name, one after the other. -/
def cc (d : ByteArray) (zs : List ByteArray) : Nat → ByteArray
  | 0 => ⟨#[]⟩
  | k + 1 => cc d zs k ++ zs.getD (lt d k) ByteArray.empty
theorem cc_succ (d : ByteArray) (zs : List ByteArray) (k : Nat) : cc d zs (k + 1) = cc d zs k ++ zs.getD (lt d k) ByteArray.empty := rfl
theorem word_size {zs : List ByteArray} (h : ∀ j, j < zs.length → isWP (zs.getD j ByteArray.empty)) (j : Nat) : (zs.getD j ByteArray.empty).size ≤ 400 := by
  by_cases hj : j < zs.length
  · exact (h j hj).1
  · rw [List.getD_eq_getElem?_getD, List.getElem?_eq_none (by omega)]; exact Nat.zero_le _
theorem cc_size {d : ByteArray} {zs : List ByteArray} (h : ∀ j, j < zs.length → isWP (zs.getD j ByteArray.empty)) : ∀ k, (cc d zs k).size ≤ 400 * k
  | 0 => Nat.zero_le _
  | k + 1 => by have := cc_size (d := d) h k; have := word_size h (lt d k); rw [cc_succ, ByteArray.size_append]; omega
theorem cc_mono (d : ByteArray) (zs : List ByteArray) {k m : Nat} (h : k ≤ m) : (cc d zs k).size ≤ (cc d zs m).size := by
  induction h with
  | refl => exact Nat.le_refl _
  | step _ ih => rw [cc_succ, ByteArray.size_append]; omega
def FDok (d : ByteArray) (zs : List ByteArray) : Prop :=
  isWP d ∧ zs.length ≤ 4 ∧ (∀ j, j < d.size → lt d j < zs.length) ∧ (∀ j, j < zs.length → isWP (zs.getD j ByteArray.empty)) ∧ isWP (cc d zs d.size)
open Classical in
noncomputable def fdV (d : ByteArray) (zs : List ByteArray) : Value := if FDok d zs then .tuple #[.string (cc d zs d.size), .bool true] else .tuple #[.string ⟨#[]⟩, .bool false]
theorem fd_yes {d : ByteArray} {zs : List ByteArray} (h : FDok d zs) : fdV d zs = .tuple #[.string (cc d zs d.size), .bool true] := by simp [fdV, h]
theorem fd_no {d : ByteArray} {zs : List ByteArray} (h : ¬ FDok d zs) : fdV d zs = .tuple #[.string ⟨#[]⟩, .bool false] := by simp [fdV, h]
theorem add_run (a b : ByteArray) (h : a.size + b.size ≤ 9223372036854775807) (w : World) : (Op.stringOp .add a b).run Try.prog w = .ok (.string (a ++ b)) w := run_string_add_sum w a b h
set_option maxRecDepth 20000 in
set_option maxHeartbeats 2000000 in
theorem implFromDerived_any (d : ByteArray) (x : Option Addr) (n cap : Nat) (zs : List ByteArray) (w : World) (hd : d.size ≤ 9223372036854775807) (h : IsStrs w x n cap zs) (hn : n ≤ 1048576) :
    Calls Try.prog 27 #[.string d, .slice x n cap] w fun e w' => e = .returned (fdV d zs) ∧ Below w.heap.size w w' := by
  have hlen := h.1
  cases hd1 : isWB d
  · have hf := Lib.hid (fd_no (d := d) (zs := zs) (fun q => isW_not hd1 q.1))
    go_enter Try.func27, Try.ntmps27
    go_wp2_with (first | (go_at_call 62; refine (isWord_any _ _ (by assumption)).mono ?_; rintro e w1 ⟨rfl, rfl⟩))
    (refine bodyPost_ret (v := fdV d zs) (by rw [hf.out]; simp [results, Try.results27, go_sem, *]) rfl ⟨rfl, by (repeat (first | with_reducible exact Below.refl _ _ | assumption | with_reducible refine Qdrew ?_ | with_reducible refine QdrewN ?_ | ((with_reducible refine Qset ?_ ?_); exact (by ((try simp only [World.size_alloc, World.size_setCell, World.size_drew, size_drewN]); (try dsimp only); omega))) | ((with_reducible refine Qalloc ?_ ?_); exact (by ((try simp only [World.size_alloc, World.size_setCell, World.size_drew, size_drewN]); (try dsimp only); omega))) | refine Qtrans (by assumption) (by ((try simp only [World.size_alloc, World.size_setCell, World.size_drew, size_drewN]); (try dsimp only); omega)) ?_))⟩)
  have hdw := isW_of hd1
  by_cases hn4 : 4 < n
  · have hf := Lib.hid (fd_no (d := d) (zs := zs) (fun q => by have := q.2.1; omega))
    have hn4' : (4 : Int) < (n : Int) := by omega
    go_enter Try.func27, Try.ntmps27
    go_wp2_with (first | (go_at_call 62; refine (isWord_any _ _ (by assumption)).mono ?_; rintro e w1 ⟨rfl, rfl⟩))
    (refine bodyPost_ret (v := fdV d zs) (by rw [hf.out]; simp [results, Try.results27, go_sem, *]) rfl ⟨rfl, by (repeat (first | with_reducible exact Below.refl _ _ | assumption | with_reducible refine Qdrew ?_ | with_reducible refine QdrewN ?_ | ((with_reducible refine Qset ?_ ?_); exact (by ((try simp only [World.size_alloc, World.size_setCell, World.size_drew, size_drewN]); (try dsimp only); omega))) | ((with_reducible refine Qalloc ?_ ?_); exact (by ((try simp only [World.size_alloc, World.size_setCell, World.size_drew, size_drewN]); (try dsimp only); omega))) | refine Qtrans (by assumption) (by ((try simp only [World.size_alloc, World.size_setCell, World.size_drew, size_drewN]); (try dsimp only); omega)) ?_))⟩)
  have hn4' : ¬ (4 : Int) < (n : Int) := by omega
  have hb : ∀ j (h : j < d.size), ((d[j]'h).toNat : Int) = bt d j := fun j h => bt_eq d j h
  go_enter Try.func27, Try.ntmps27
  go_wp2_with (first | (go_at_call 62; refine (isWord_any _ _ (by assumption)).mono ?_; rintro e w1 ⟨rfl, rfl⟩))
  go_loopw [21] (fun i wr => ∃ k : Nat, k ≤ n ∧ i = .int .i64 k ∧ Hid (∀ j, j < k → isWP (zs.getD j ByteArray.empty)) ∧ Below w.heap.size w wr) (fun i _ => n - (intOf i).toNat)
  case atStart => exact ⟨0, by omega, rfl, Lib.hid (fun _ h => absurd h (by omega)), Below.refl _ _⟩
  case round =>
    obtain ⟨k, hk, rfl, hall, hbel⟩ := hrel
    by_cases hlt : k < n
    · obtain ⟨b, off, rfl, hbl, hc⟩ := isStrs_cell h (by omega)
      have hck := (hbel.cell (by exact hbl)).trans (hc k hlt)
      have hsz := size_le h.2.2.2.1 k
      obtain ⟨s, hs⟩ : ∃ s, zs.getD k ByteArray.empty = s := ⟨_, rfl⟩
      rw [hs] at hck hsz
      have hs' := Lib.hid hs
      have hsz' : s.size ≤ 9223372036854775807 := hsz
      have hk0 : (0 : Int) ≤ (k : Int) := by omega
      have hk1 : (k : Int) < (n : Int) := by omega
      clear hs hc hsz
      cases hsw : isWB s
      · have hf := Lib.hid (fd_no (d := d) (zs := zs) (fun q => isW_not hsw (by have := q.2.2.2.1 k (by omega); rw [hs'.out] at this; exact this)))
        go_wp2_with (first | (go_at_call 62; refine (isWord_any _ _ hsz').mono ?_; rintro e w1 ⟨rfl, rfl⟩))
        (refine bodyPost_ret (v := fdV d zs) (by rw [hf.out]; simp [results, Try.results27, go_sem, *]) rfl ⟨rfl, by (repeat (first | with_reducible exact Below.refl _ _ | assumption | with_reducible refine Qdrew ?_ | with_reducible refine QdrewN ?_ | ((with_reducible refine Qset ?_ ?_); exact (by ((try simp only [World.size_alloc, World.size_setCell, World.size_drew, size_drewN]); (try dsimp only); omega))) | ((with_reducible refine Qalloc ?_ ?_); exact (by ((try simp only [World.size_alloc, World.size_setCell, World.size_drew, size_drewN]); (try dsimp only); omega))) | refine Qtrans (by assumption) (by ((try simp only [World.size_alloc, World.size_setCell, World.size_drew, size_drewN]); (try dsimp only); omega)) ?_))⟩)
      · go_wp2_with (first | (go_at_call 62; refine (isWord_any _ _ hsz').mono ?_; rintro e w1 ⟨rfl, rfl⟩))
        go_roundw
        case rel => exact ⟨k + 1, by omega, by go_num, Lib.hid (fun j hj => by
            by_cases e : j = k
            · subst e; rw [hs'.out]; exact isW_of hsw
            · exact hall.out j (by omega)), hbel⟩
        case measure => (simp [intOf]) <;> omega
    · obtain rfl : n = k := by omega
      have hall' : Hid (∀ j, j < zs.length → isWP (zs.getD j ByteArray.empty)) := by have := hall.out; rw [← hlen] at this; exact this
      go_wp2
      go_loopw [8, 31] (fun o i wr2 => ∃ m : Nat, m ≤ d.size ∧ i = .int .i64 m ∧ o = .string (cc d zs m) ∧ Hid (∀ j, j < m → lt d j < n) ∧ wr = wr2) (fun _ i _ => d.size - (intOf i).toNat)
      case atStart => exact ⟨0, by omega, rfl, rfl, Lib.hid (fun _ h => absurd h (by omega)), by first | rfl | trivial⟩
      case round =>
        obtain ⟨m, hm, rfl, rfl, hlow, rfl⟩ := hrel
        have hcs := cc_size (d := d) hall'.out m
        have hd400 := hdw.1
        have hcs2 : (cc d zs m).size ≤ 9223372036854775807 := by omega
        by_cases hm1 : m < d.size
        · have hm0 : (0 : Int) ≤ (m : Int) := by omega
          have hm1' : (m : Int) < (d.size : Int) := by omega
          by_cases hln : lt d m < n
          · have hwi' := Lib.hid (show ∀ j, j < m + 1 → lt d j < n from fun j hj => by
              by_cases e : j = m
              · subst e; exact hln
              · exact hlow.out j (by omega))
            obtain ⟨he, hl3⟩ := lt_eq (hdw.2 m hm1)
            obtain ⟨l, hl⟩ : ∃ l, lt d m = l := ⟨_, rfl⟩
            rw [hl] at he hl3 hln
            have hu := u8_small l (by omega)
            obtain ⟨b, off, rfl, hbl, hc⟩ := isStrs_cell h (by omega)
            have hck := (hbel.cell (by exact hbl)).trans (hc l hln)
            have hzs := word_size hall'.out l
            obtain ⟨z, hz⟩ : ∃ z, zs.getD l ByteArray.empty = z := ⟨_, rfl⟩
            rw [hz] at hck hzs
            have hrun := add_run (cc d zs m) z (by omega)
            have hnext : Hid (cc d zs (m + 1) = cc d zs m ++ z) := by show _ = _; rw [cc_succ, hl, hz]
            have hl0 : (0 : Int) ≤ (l : Int) := by omega
            have hl1 : (l : Int) < (n : Int) := by omega
            clear hl hz hc
            go_wp2
            go_roundw
            case rel => exact ⟨m + 1, by omega, by go_num, by rw [hnext.out], hwi', by first | rfl | trivial⟩
            case measure => (simp [intOf]) <;> omega
          · have hf := Lib.hid (fd_no (d := d) (zs := zs) (fun q => by have := q.2.2.1 m hm1; omega))
            obtain ⟨he, hl3⟩ := lt_eq (hdw.2 m hm1)
            obtain ⟨l, hl⟩ : ∃ l, lt d m = l := ⟨_, rfl⟩
            rw [hl] at he hl3 hln
            have hu := u8_small l (by omega)
            have hl1 : (n : Int) ≤ (l : Int) := by omega
            clear hl
            go_wp2
            (refine bodyPost_ret (v := fdV d zs) (by rw [hf.out]; simp [results, Try.results27, go_sem, *]) rfl ⟨rfl, by (repeat (first | with_reducible exact Below.refl _ _ | assumption | with_reducible refine Qdrew ?_ | with_reducible refine QdrewN ?_ | ((with_reducible refine Qset ?_ ?_); exact (by ((try simp only [World.size_alloc, World.size_setCell, World.size_drew, size_drewN]); (try dsimp only); omega))) | ((with_reducible refine Qalloc ?_ ?_); exact (by ((try simp only [World.size_alloc, World.size_setCell, World.size_drew, size_drewN]); (try dsimp only); omega))) | refine Qtrans (by assumption) (by ((try simp only [World.size_alloc, World.size_setCell, World.size_drew, size_drewN]); (try dsimp only); omega)) ?_))⟩)
        · have e : d.size = m := by omega
          subst e
          have hm1' : ¬ (d.size : Int) < (d.size : Int) := by omega
          cases hw : isWB (cc d zs d.size)
          · have hf := Lib.hid (fd_no (d := d) (zs := zs) (fun q => isW_not hw q.2.2.2.2))
            go_wp2_with (first | (go_at_call 62; refine (isWord_any _ _ hcs2).mono ?_; rintro e w1 ⟨rfl, rfl⟩))
            (refine bodyPost_ret (v := fdV d zs) (by rw [hf.out]; simp [results, Try.results27, go_sem, *]) rfl ⟨rfl, by (repeat (first | with_reducible exact Below.refl _ _ | assumption | with_reducible refine Qdrew ?_ | with_reducible refine QdrewN ?_ | ((with_reducible refine Qset ?_ ?_); exact (by ((try simp only [World.size_alloc, World.size_setCell, World.size_drew, size_drewN]); (try dsimp only); omega))) | ((with_reducible refine Qalloc ?_ ?_); exact (by ((try simp only [World.size_alloc, World.size_setCell, World.size_drew, size_drewN]); (try dsimp only); omega))) | refine Qtrans (by assumption) (by ((try simp only [World.size_alloc, World.size_setCell, World.size_drew, size_drewN]); (try dsimp only); omega)) ?_))⟩)
          · have hf := Lib.hid (fd_yes (d := d) (zs := zs) ⟨hdw, by omega, by have := hlow.out; rw [← hlen] at this; exact this, hall'.out, isW_of hw⟩)
            go_wp2_with (first | (go_at_call 62; refine (isWord_any _ _ hcs2).mono ?_; rintro e w1 ⟨rfl, rfl⟩))
            (refine bodyPost_ret (v := fdV d zs) (by rw [hf.out]; simp [results, Try.results27, go_sem, *]) rfl ⟨rfl, by (repeat (first | with_reducible exact Below.refl _ _ | assumption | with_reducible refine Qdrew ?_ | with_reducible refine QdrewN ?_ | ((with_reducible refine Qset ?_ ?_); exact (by ((try simp only [World.size_alloc, World.size_setCell, World.size_drew, size_drewN]); (try dsimp only); omega))) | ((with_reducible refine Qalloc ?_ ?_); exact (by ((try simp only [World.size_alloc, World.size_setCell, World.size_drew, size_drewN]); (try dsimp only); omega))) | refine Qtrans (by assumption) (by ((try simp only [World.size_alloc, World.size_setCell, World.size_drew, size_drewN]); (try dsimp only); omega)) ?_))⟩)

/-- A copy that the law made of a list that came in, in whatever later world. -/
theorem copy_strs {w w1 w2 : World} {g n : Nat} {zs : List ByteArray} (h : w1.ownsRow w.heap.size 9 1 (.slice (some ⟨g, 0, none⟩) n n) n (sv zs)) (hz : ∀ s ∈ zs, s.size ≤ maxLen) (hb : Below w1.heap.size w1 w2) : IsStrs w2 (some ⟨g, 0, none⟩) n n zs :=
  isStrs_below (isStrs_own h hz) (Nat.le_refl _) hb
end Go.Proofs.Ytilbhingfnjppab

namespace Go.Proofs.Ytilbhingfnjppab
open Go.RowKit
/-- A short word over n letters. -/
def shortP (n : Nat) (d : ByteArray) : Prop := d.size ≤ 400 ∧ ∀ j, j < d.size → inL d j ∧ lt d j < n
def small8 (zs : List ByteArray) : Prop := ∀ j, (zs.getD j ByteArray.empty).size ≤ 8
theorem cc_size8 {d : ByteArray} {zs : List ByteArray} (h : small8 zs) : ∀ k, (cc d zs k).size ≤ 8 * k
  | 0 => Nat.zero_le _
  | k + 1 => by have := cc_size8 (d := d) h k; have := h (lt d k); rw [cc_succ, ByteArray.size_append]; omega
theorem add_run2 (a b : ByteArray) (h : a.size + b.size ≤ 9223372036854775807) (w : World) : (Op.stringOp .add a b).run Try.prog w = .ok (.string (a ++ b)) w := run_string_add_sum w a b h
set_option maxRecDepth 20000 in
set_option maxHeartbeats 1000000 in
theorem image_any (x : Option Addr) (n cap l : Nat) (zs : List ByteArray) (w : World) (h : IsStrs w x n cap zs) (hl : l < n) (hl3 : l ≤ 3) :
    Calls Try.prog 101 #[.agg #[.slice x n cap], .int .u8 ((l : Int) + 97)] w fun e w' => e = .returned (.string (zs.getD l ByteArray.empty)) ∧ Below w.heap.size w w' := by
  have hb0 : Below w.heap.size w (w.alloc (.cells #[.slice x n cap] 25)) := (Below.refl _ w).alloc (Nat.le_refl _) _
  have h' := isStrs_below h (Nat.le_refl _) hb0
  obtain ⟨b, off, rfl, hbl, hc⟩ := isStrs_cell h' (by omega)
  have hck := hc l hl
  have hu : IntKind.u8.wrap ((l : Int) + 97 - 97) = (l : Int) := by rw [show (l : Int) + 97 - 97 = (l : Int) by omega]; exact u8_small l (by omega)
  have hu2 := u8_small l (by omega)
  have hl0 : (0 : Int) ≤ (l : Int) := by omega
  have hl1 : (l : Int) < (n : Int) := by omega
  clear hc h h'
  go_enter Try.func101, Try.ntmps101
  go_wp2
  go_ret
  exact ⟨rfl, by (repeat (first | with_reducible exact Below.refl _ _ | assumption | with_reducible refine Qdrew ?_ | with_reducible refine QdrewN ?_ | ((with_reducible refine Qset ?_ ?_); exact (by ((try simp only [World.size_alloc, World.size_setCell, World.size_drew, size_drewN]); (try dsimp only); omega))) | ((with_reducible refine Qalloc ?_ ?_); exact (by ((try simp only [World.size_alloc, World.size_setCell, World.size_drew, size_drewN]); (try dsimp only); omega))) | refine Qtrans (by assumption) (by ((try simp only [World.size_alloc, World.size_setCell, World.size_drew, size_drewN]); (try dsimp only); omega)) ?_))⟩
set_option maxRecDepth 20000 in
set_option maxHeartbeats 2000000 in
theorem apply_any (x : Option Addr) (n cap : Nat) (zs : List ByteArray) (d : ByteArray) (w : World) (h : IsStrs w x n cap zs) (hd : shortP n d) (h8 : small8 zs) :
    Calls Try.prog 66 #[.agg #[.slice x n cap], .string d] w fun e w' => e = .returned (.string (cc d zs d.size)) ∧ Below w.heap.size w w' := by
  have hb0 : Below w.heap.size w (w.alloc (.cells #[.slice x n cap] 25)) := (Below.refl _ w).alloc (Nat.le_refl _) _
  have h' := isStrs_below h (Nat.le_refl _) hb0
  have hd400 := hd.1
  have hd' := Lib.hid hd.2
  have hb : ∀ j (h : j < d.size), ((d[j]'h).toNat : Int) = bt d j := fun j h => bt_eq d j h
  have hc8 := Lib.hid (cc_size8 (d := d) h8)
  have h8' := Lib.hid h8
  clear hd h8 h
  go_enter Try.func66, Try.ntmps66
  go_wp2_with fail
  go_loopw [5, 9] (fun o i wr => ∃ m : Nat, m ≤ d.size ∧ i = .int .i64 m ∧ o = .string (cc d zs m) ∧ Below (w.heap.size + 1) (w.alloc (.cells #[.slice x n cap] 25)) wr) (fun _ i _ => d.size - (intOf i).toNat)
  case atStart => exact ⟨0, by omega, rfl, rfl, Below.refl _ _⟩
  case round =>
    obtain ⟨m, hm, rfl, rfl, hbel⟩ := hrel
    have hzb := hbel.size
    simp only [World.size_alloc] at hzb
    by_cases hlt : m < d.size
    · obtain ⟨q1, q2⟩ := hd'.out m hlt
      obtain ⟨he, hl3⟩ := lt_eq q1
      obtain ⟨l, hl⟩ : ∃ l, lt d m = l := ⟨_, rfl⟩
      rw [hl] at he hl3 q2
      have hst := isStrs_below h' (show (w.alloc (.cells #[.slice x n cap] 25)).heap.size ≤ w.heap.size + 1 by simp) hbel
      have hstd : IsStrs wr.drew x n cap zs := hst
      have hcB : wr.cell? ⟨w.heap.size, 0, none⟩ = some (.slice x n cap) := (hbel.cell (by simp)).trans (by simp [go_sem])
      have hcs := hc8.out m
      have hzs := h8'.out l
      obtain ⟨z, hz⟩ : ∃ z, zs.getD l ByteArray.empty = z := ⟨_, rfl⟩
      have hC := image_any x n cap l zs wr.drew hstd q2 hl3
      rw [hz] at hzs hC
      have hrun := add_run2 (cc d zs m) z (by omega)
      have hnext : Hid (cc d zs (m + 1) = cc d zs m ++ z) := by show _ = _; rw [cc_succ, hl, hz]
      have hm0 : (0 : Int) ≤ (m : Int) := by omega
      have hm1' : (m : Int) < (d.size : Int) := by omega
      have hbw : w.heap.size < wr.heap.size := by omega
      obtain ⟨B, hB⟩ : ∃ B, (l : Int) + 97 = B := ⟨_, rfl⟩
      rw [hB] at he hC
      clear hl hz hst h' hB hl3 q1 q2 hd'
      go_wp2_with fail
      go_region_held3 (fun wx => (∀ bk ofs, bk < wr.heap.size → wx.cell? ⟨bk, ofs, none⟩ = (wr).cell? ⟨bk, ofs, none⟩) ∧ Below (wr.heap.size) (wr) wx) ((refine stays ?_; ((repeat (first | with_reducible exact Below.refl _ _ | assumption | with_reducible refine Qdrew ?_ | with_reducible refine QdrewN ?_ | ((with_reducible refine Qset ?_ ?_); exact (by ((try simp only [World.size_alloc, World.size_setCell, World.size_drew, size_drewN]); (try dsimp only); omega))) | ((with_reducible refine Qalloc ?_ ?_); exact (by ((try simp only [World.size_alloc, World.size_setCell, World.size_drew, size_drewN]); (try dsimp only); omega))) | refine Qtrans (by assumption) (by ((try simp only [World.size_alloc, World.size_setCell, World.size_drew, size_drewN]); (try dsimp only); omega)) ?_)) <;> (go_split_ands; assumption)))) (first | (go_at_call 101; with_reducible refine hC.mono ?_; rintro e w6 ⟨rfl, hb6⟩; obtain ⟨hc6, hf6⟩ := bcell hb6; have hl6 := ltW hb6; have hz6 := hb6.size; (try simp only [World.size_drew] at hz6)))
      all_goals go_wp2
      all_goals go_roundw
      case rel => exact ⟨m + 1, by omega, by go_num, by rw [hnext.out], Qtrans hb6 (by simp; omega) (Qdrew hbel)⟩
      case measure => (simp [intOf]) <;> omega
    · obtain rfl : m = d.size := by omega
      go_wp2
      go_ret
      exact ⟨rfl, Qtrans hbel (by omega) hb0⟩
theorem conv_bytes (w : World) (z : ByteArray) : ∃ K W2, (convert 9 22 (.string z)).run Try.prog w.drew = .ok (.slice (some ⟨w.heap.size, 0, none⟩) z.size K) W2 ∧ w.grownBy W2 none ∧ W2.heap.size = w.heap.size + 1 ∧ ∀ j u, (bv z.data.toList)[j]? = some u → W2.cell? ((⟨w.heap.size, 0, none⟩ : Addr).add j) = some u := by
  refine ⟨_, _, run_bytes_of_string w.drew 9 22 5 z Try.underlying9 Try.underlying22 Try.underlying5, ?_, ?_, ?_⟩
  · exact ⟨rfl, rfl, rfl, by simp, fun k hk _ => Below.heap_alloc w.drew.drew _ k hk⟩
  · simp
  · intro j u hu
    have hj : j < z.data.size := by
      by_cases h : j < z.data.size
      · exact h
      · rw [List.getElem?_eq_none (by have hs : z.data.size = z.size := rfl; simp [bv]; omega)] at hu; cases hu
    refine World.news_of_block (cs := bytesRow z (grownCap w.drew z.size 0 5)) (heap_alloc_new w.drew.drew _) j u ?_
    rw [Array.getElem?_toList, bytesRow_at z _ j hj, ← hu]
    simp [bv, Array.getElem?_eq_getElem hj]
theorem bv_app (a b : ByteArray) : bv (a ++ b).data.toList = bv a.data.toList ++ bv b.data.toList := by simp [bv]
theorem bv_one (l : List UInt8) : ∀ u ∈ bv l, u.oneCell' = true := by intro u hu; obtain ⟨z, _, rfl⟩ := List.mem_map.1 hu; rfl
end Go.Proofs.Ytilbhingfnjppab

namespace Go.Proofs.Ytilbhingfnjppab
open Go.RowKit
theorem app_keep {P : Program} (w : World) (base : Nat) (t ty e : TypeId) (i : TypeInfo) (z : Value) (bytes : Nat) (ht : P.underlying t = some (.slice e)) (hi : P.info? e = some i) (hz : i.zero = some z)
    (hsize : i.size = 1) (hby : i.bytes = bytes) (hzs : z.cells.size = 1) (g n cap : Nat) (xs : List Value) (hown : w.ownsRow base e 1 (.slice (some ⟨g, 0, none⟩) n cap) n xs)
    (a : Addr) (m c : Nat) (news : List Value) (hl : news.length = m * 1) (hnews : ∀ j u, news[j]? = some u → w.cell? (a.add j) = some u) (h1 : ∀ u ∈ news, u.oneCell' = true)
    (h63 : n + m ≤ maxLen) (hbytes : (n + m) * bytes ≤ 140737488355328) (hbase : base ≤ w.heap.size) :
    ∃ g' cap' w', (Builtin.append_ #[t, t] ty #[.slice (some ⟨g, 0, none⟩) n cap, .slice (some a) m c]).run P w = .ok (.slice (some ⟨g', 0, none⟩) (n + m) cap') w' ∧ w'.ownsRow base e 1 (.slice (some ⟨g', 0, none⟩) (n + m) cap') (n + m) (xs ++ news) ∧ w.grownBy w' (some g) ∧
      (g' = g ∨ g' = w.heap.size) ∧ (∀ j, j < n → w'.cell? ⟨g, j, none⟩ = w.cell? ⟨g, j, none⟩) := by
  obtain ⟨v', w', hr, h2, h3, h4, h5⟩ := run_append_own_at (P := P) w base t ty e i z 1 bytes ht hi hz hsize hby hzs (by decide) _ n xs hown a m c news hl hnews h1 h63 hbytes hbase
  have hform : ∃ g' cap', v' = .slice (some ⟨g', 0, none⟩) (n + m) cap' ∧ (g' = g ∨ g' = w.heap.size) := by
    rcases h2.2 with ⟨h', _⟩ | ⟨g1, c1, _, h', _⟩
    · exact absurd (h4.1 h').1 (by simp)
    · subst h'
      exact ⟨g1, c1, rfl, by simpa [Value.ownBlock] using h5⟩
  have hlen : xs.length = n := by have := hown.1; omega
  obtain ⟨g', cap', rfl, hg'⟩ := hform
  refine ⟨g', cap', w', hr, h2, h3, hg', fun j hj => ?_⟩
  rcases hown.2 with ⟨h', _⟩ | ⟨g0, cap0, cur, he, hbg, hg, hnc, hcm, hcs, htake⟩
  · cases h'
  · cases he
    by_cases hroom : n + m ≤ cap
    · have hr2 := run_append_room (P := P) w t ty e i ht hi g n cap cur hg a m c news (by rw [hsize]; exact hl) hnews h1 hroom (by rw [hsize, hcs]; omega)
      rw [hr2] at hr
      injection hr with e1 e2
      simp only [Value.slice.injEq] at e1
      have hgg : g' = g := by have := e1.1; simp at this; omega
      subst hgg
      rw [own_cell h2 j (by omega), own_cell hown j hj, List.getElem?_append_left (by omega)]
    · obtain ⟨v2, w2, hr2, _, hgr⟩ := run_append_arg_grows (P := P) w t ty e i z 1 bytes ht hi hz hsize hby hzs (by decide) ⟨g, 0, none⟩ n cap xs (by omega) (fun j u hu => hown.cells (g := g) rfl j u hu) a m c news hl hnews (by omega) h63 hbytes
      rw [hr2] at hr
      injection hr with e1 e2
      subst e2
      have hlt : g < w.heap.size := (hown.lt g rfl).2
      exact hgr.cell_far ⟨g, j, none⟩ hlt (by simp)
theorem wpList_append_keep {P : Program} (w : World) {ops : Array Oper} {rest : List Oper} {o : Oper} {a : Act} {Q : Exit → Act → World → Prop} (hgd : o.guard = none) (s x : Operand) (t : TypeId)
    (ho : o.op = .call { callee := .builtin .append, args := #[s, x], argTypes := #[t, t] })
    (base : Nat) (e : TypeId) (i : TypeInfo) (z : Value) (bytes : Nat) (ht : P.underlying t = some (.slice e)) (hi : P.info? e = some i) (hz : i.zero = some z)
    (hsize : i.size = 1) (hby : i.bytes = bytes) (hzs : z.cells.size = 1) (g n cap : Nat) (xs : List Value) (hs : a.eval s = .slice (some ⟨g, 0, none⟩) n cap) (hown : w.ownsRow base e 1 (.slice (some ⟨g, 0, none⟩) n cap) n xs)
    (ad : Addr) (m c : Nat) (news : List Value) (hx : a.eval x = .slice (some ad) m c) (hl : news.length = m * 1) (hnews : ∀ j u, news[j]? = some u → w.cell? (ad.add j) = some u) (h1 : ∀ u ∈ news, u.oneCell' = true)
    (h63 : n + m ≤ maxLen) (hbytes : (n + m) * bytes ≤ 140737488355328) (hbase : base ≤ w.heap.size) (H : Nat) (hH : w.heap.size = H)
    (h : ∀ g' cap' w', w'.ownsRow base e 1 (.slice (some ⟨g', 0, none⟩) (n + m) cap') (n + m) (xs ++ news) → w.grownBy w' (some g) → (g' = g ∨ g' = H) → (∀ j, j < n → w'.cell? ⟨g, j, none⟩ = w.cell? ⟨g, j, none⟩) → wpList P ops Q rest (a.put o.dst (.slice (some ⟨g', 0, none⟩) (n + m) cap')) w') : wpList P ops Q (o :: rest) a w := by
  refine wpList_plain hgd fun K hK => ?_
  obtain ⟨g', cap', w', hr, h2, h3, h4, h5⟩ := app_keep (P := P) w base t o.type e i z bytes ht hi hz hsize hby hzs g n cap xs hown ad m c news hl hnews h1 h63 hbytes hbase
  unfold Oper.wp execOp
  simp only [ho, resolve, invoke, builtin, Sem.run_bind, Sem.run_pure, Result.andThen_ok, List.map_toArray, List.map_cons, List.map_nil, hs, hx, hr]
  exact hK _ _ (h g' cap' w' h2 h3 (by omega) h5)
end Go.Proofs.Ytilbhingfnjppab

namespace Go.Proofs.Ytilbhingfnjppab
open Go.RowKit
def letS (j : Nat) : ByteArray := (⟨#[97, 98, 99, 100]⟩ : ByteArray).extract j (j + 1)
def ext1 (k : Nat) (x : ByteArray) : List ByteArray := (List.range k).map (fun j => x ++ letS j)
def extL (k : Nat) (L : List ByteArray) : List ByteArray := L.flatMap (ext1 k)
def lev (k : Nat) : Nat → List ByteArray
  | 0 => [⟨#[]⟩]
  | i + 1 => extL k (lev k i)
def wds (k : Nat) : Nat → List ByteArray
  | 0 => [⟨#[]⟩]
  | i + 1 => wds k i ++ lev k (i + 1)
theorem ext1_len (k : Nat) (x : ByteArray) : (ext1 k x).length = k := by simp [ext1]
theorem extL_len (k : Nat) : ∀ L : List ByteArray, (extL k L).length = L.length * k
  | [] => by simp [extL]
  | a :: L => by
    have := extL_len k L
    unfold extL at *
    rw [List.flatMap_cons, List.length_append, this, ext1_len, List.length_cons, Nat.add_mul]; omega
theorem extL_next (k q : Nat) (L : List ByteArray) (h : q < L.length) : extL k (L.take (q + 1)) = extL k (L.take q) ++ ext1 k (L.getD q ByteArray.empty) := by
  unfold extL; rw [take_next L q ByteArray.empty h]; simp
theorem ext1_next (k j : Nat) (x : ByteArray) : ext1 (j + 1) x = ext1 j x ++ [x ++ letS j] := by simp [ext1, List.range_succ]
theorem lev_len (k : Nat) : ∀ i, (lev k i).length = k ^ i
  | 0 => rfl
  | i + 1 => by rw [lev, extL_len, lev_len k i, Nat.pow_succ]
theorem pow_bounds {k i : Nat} (h1 : 1 ≤ k) (hk : k ≤ 4) (hi : i ≤ 4) : 1 ≤ k ^ i ∧ k ^ i ≤ 256 := by
  have h4 := Nat.pow_le_pow_left hk i
  have h5 := Nat.pow_le_pow_right (show 0 < 4 by omega) hi
  have h6 := Nat.pow_le_pow_left h1 i
  rw [Nat.one_pow] at h6
  omega
theorem wds_len {k : Nat} (h1 : 1 ≤ k) (hk : k ≤ 4) : ∀ i, i ≤ 4 → (wds k i).length ≤ 1 + 256 * i
  | 0, _ => by simp [wds]
  | i + 1, hi => by
    have := wds_len h1 hk i (by omega)
    have h2 := (pow_bounds h1 hk hi).2
    rw [wds, List.length_append, lev_len]; omega
/-- The words of a level stand at the end. -/
theorem wds_end (k : Nat) : ∀ i, ∃ P, wds k i = P ++ lev k i
  | 0 => ⟨[], rfl⟩
  | i + 1 => ⟨wds k i, rfl⟩
theorem lev_size (k : Nat) : ∀ i, ∀ z ∈ lev k i, z.size ≤ i
  | 0, z, h => by simp [lev] at h; subst h; exact Nat.le_refl 0
  | i + 1, z, h => by
    unfold lev extL at h
    obtain ⟨x, hx, hz⟩ := List.mem_flatMap.1 h
    obtain ⟨j, _, rfl⟩ := List.mem_map.1 hz
    have := lev_size k i x hx
    rw [ByteArray.size_append]
    have : (letS j).size ≤ 1 := by unfold letS; rw [ByteArray.size_extract]; omega
    omega
theorem wds_size (k : Nat) : ∀ i, ∀ z ∈ wds k i, z.size ≤ i
  | 0, z, h => by simp [wds] at h; subst h; exact Nat.le_refl 0
  | i + 1, z, h => by
    rw [wds, List.mem_append] at h
    rcases h with h | h
    · have := wds_size k i z h; omega
    · exact lev_size k (i + 1) z h
theorem cap_keep {w w' : World} {g g' N fr l : Nat} {L : List ByteArray} (hc : Hid (∀ j, j < l → w.cell? ⟨g, fr + j, none⟩ = some (.string (L.getD j ByteArray.empty)))) (hfl : fr + l ≤ N) (hg : w.grownBy w' (some g')) (hk : ∀ j, j < N → w'.cell? ⟨g', j, none⟩ = w.cell? ⟨g', j, none⟩) (hl : g < w.heap.size) : Hid (∀ j, j < l → w'.cell? ⟨g, fr + j, none⟩ = some (.string (L.getD j ByteArray.empty))) := by
  intro j hj
  by_cases e : g = g'
  · subst e; exact (hk (fr + j) (by omega)).trans (hc.out j hj)
  · exact (hg.cell_far ⟨g, fr + j, none⟩ hl (by simp; exact e)).trans (hc.out j hj)
theorem cap_alloc {w : World} {o : Obj} {g fr l : Nat} {L : List ByteArray} (hc : Hid (∀ j, j < l → w.cell? ⟨g, fr + j, none⟩ = some (.string (L.getD j ByteArray.empty)))) (hl : g < w.heap.size) : Hid (∀ j, j < l → (w.alloc o).cell? ⟨g, fr + j, none⟩ = some (.string (L.getD j ByteArray.empty))) :=
  fun j hj => (calloc hl).trans (hc.out j hj)
set_option maxRecDepth 20000 in
set_option maxHeartbeats 4000000 in
theorem l17Words_any (k n : Nat) (w : World) (h1 : 1 ≤ k) (hk4 : k ≤ 4) (hn4 : n ≤ 4) :
    Calls Try.prog 92 #[.int .i64 k, .int .i64 n] w fun e w' => ∃ g c, e = .returned (.slice (some ⟨g, 0, none⟩) (wds k n).length c) ∧ w'.ownsRow w.heap.size 9 1 (.slice (some ⟨g, 0, none⟩) (wds k n).length c) (wds k n).length (sv (wds k n)) ∧ Below w.heap.size w w' := by
  obtain ⟨i0, hi0, hz0, hz1, hz2⟩ := info_parts infoS
  have hk' : (k : Int) ≤ 4 := by omega
  have hn' : (n : Int) ≤ 4 := by omega
  have hown0 := World.ownsRow_lit (base := w.heap.size) (e := 9) (size := 1) w #[.string ⟨#[]⟩] 1 (Nat.le_refl _) (by decide) rfl
  go_enter Try.func92, Try.ntmps92
  go_wp2_with fail
  go_loopw [5, 6, 7] (fun out fr iv wr => ∃ i g c N f : Nat, i ≤ n ∧ iv = .int .i64 i ∧ fr = .int .i64 f ∧ out = .slice (some ⟨g, 0, none⟩) N c ∧ (wds k i).length = N ∧ f + k ^ i = N ∧ wr.ownsRow w.heap.size 9 1 (.slice (some ⟨g, 0, none⟩) N c) N (sv (wds k i)) ∧ Below w.heap.size w wr) (fun _ _ iv _ => n - (intOf iv).toNat)
  case atStart => exact ⟨0, w.heap.size, 1, 1, 0, by omega, rfl, rfl, rfl, rfl, rfl, hown0, (Below.refl _ w).alloc (Nat.le_refl _) _⟩
  case round =>
    clear hown0
    obtain ⟨i, g, c, N, f, hin, rfl, rfl, rfl, hN, hf, hown, hbel⟩ := hrel
    have hz := hbel.size
    have hi0' : (0 : Int) ≤ (i : Int) := by omega
    by_cases hlt : i < n
    · have hi1 : (i : Int) < (n : Int) := by omega
      obtain ⟨p1, p2⟩ := pow_bounds h1 hk4 (show i ≤ 4 by omega)
      have hNb := wds_len h1 hk4 i (by omega)
      have hcap : N ≤ c ∧ c ≤ maxLen := by
        rcases hown.2 with ⟨h', _⟩ | ⟨_, _, _, h', _, _, hc, hm, _⟩
        · cases h'
        · cases h'; exact ⟨hc, hm⟩
      unfold maxLen at hcap
      obtain ⟨c1, c2⟩ := hcap
      obtain ⟨Pr, hPr⟩ := wds_end k i
      have hll := lev_len k i
      have hPl : Pr.length = f := by have := congrArg List.length hPr; rw [List.length_append, hll, hN] at this; omega
      have hgl := (hown.lt g rfl).2
      obtain ⟨l, hl⟩ : ∃ l, k ^ i = l := ⟨_, rfl⟩
      rw [hl] at hf p1 p2 hll
      have hcapt : Hid (∀ j, j < l → wr.cell? ⟨g, f + j, none⟩ = some (.string ((lev k i).getD j ByteArray.empty))) := fun j hj => by
        rw [own_cell hown (f + j) (by omega), sv_at _ _ (by omega), hPr, List.getD_eq_getElem?_getD, List.getElem?_append_right (by omega), hPl, show f + j - f = j by omega]
        rfl
      have f1 : (0 : Int) ≤ (f : Int) := by omega
      have f2 : (f : Int) ≤ (N : Int) := by omega
      have f3 : (N : Int) ≤ (c : Int) := by omega
      have f4 : ¬ c = f := by omega
      have hext : Hid (extL k ((lev k i).take l) = lev k (i + 1)) := by show _ = _; rw [List.take_of_length_le (by omega)]; rfl
      have hNf : N - f = l := by omega
      have hN1k : N ≤ 1100 := by omega
      have hsz := lev_size k i
      have hdat : Hid ((∀ z ∈ lev k i, z.size ≤ i) ∧ (lev k i).length = l ∧ (wds k i).length = N ∧ wds k (i + 1) = wds k i ++ lev k (i + 1) ∧ (wds k (i + 1)).length = N + k ^ (i + 1)) := ⟨hsz, hll, hN, rfl, by rw [wds, List.length_append, lev_len, hN]⟩
      clear hPr hPl hll hl hsz hN
      go_wp2_with fail
      go_loopw [5, 25] (fun out iq wr => ∃ q g2 c2 N2 : Nat, q ≤ l ∧ iq = .int .i64 q ∧ out = .slice (some ⟨g2, 0, none⟩) N2 c2 ∧ (wds k i ++ extL k ((lev k i).take q)).length = N2 ∧ N2 ≤ N + 4 * q ∧ N ≤ N2 ∧ wr.ownsRow w.heap.size 9 1 (.slice (some ⟨g2, 0, none⟩) N2 c2) N2 (sv (wds k i ++ extL k ((lev k i).take q))) ∧ Hid (∀ j, j < l → wr.cell? ⟨g, f + j, none⟩ = some (.string ((lev k i).getD j ByteArray.empty))) ∧ g < wr.heap.size ∧ Below w.heap.size w wr) (fun _ iq _ => l - (intOf iq).toNat)
      case atStart => exact ⟨0, g, c, N, by omega, rfl, rfl, by simp [extL]; exact hdat.out.2.2.1, by omega, Nat.le_refl _, by simpa [extL] using hown, hcapt, hgl, hbel⟩
      case round =>
        clear hown hcapt
        obtain ⟨q, g2, c2, N2, hql, rfl, rfl, hlen2, hN2, hN2', hown, hcapt, hgl2, hbel2⟩ := hrel
        have hz2' := hbel2.size
        have hq0 : (0 : Int) ≤ (q : Int) := by omega
        by_cases hlt2 : q < l
        · have hq1 : (q : Int) < (l : Int) := by omega
          have hck := hcapt.out q hlt2
          have hnext := Lib.hid (extL_next k q (lev k i) (by have := hdat.out.2.1; omega))
          have hxs : ((lev k i).getD q ByteArray.empty).size ≤ 4 := by
            have h5 : (lev k i).getD q ByteArray.empty ∈ lev k i := by
              have := hdat.out.2.1
              rw [List.getD_eq_getElem?_getD, List.getElem?_eq_getElem (by omega)]; exact List.getElem_mem _
            have := hdat.out.1 _ h5
            omega
          obtain ⟨M, hM⟩ : ∃ M, wds k i ++ extL k ((lev k i).take q) = M := ⟨_, rfl⟩
          obtain ⟨x, hx⟩ : ∃ x, (lev k i).getD q ByteArray.empty = x := ⟨_, rfl⟩
          rw [hM] at hown hlen2
          rw [hx] at hck hxs
          have hM' := Lib.hid hM
          have hx' := Lib.hid hx
          clear hM hx
          go_wp2_with fail
          go_loopw [5, 11] (fun out jv wr => ∃ j g3 c3 : Nat, j ≤ k ∧ jv = .int .i64 j ∧ out = .slice (some ⟨g3, 0, none⟩) (N2 + j) c3 ∧ wr.ownsRow w.heap.size 9 1 (.slice (some ⟨g3, 0, none⟩) (N2 + j) c3) (N2 + j) (sv (M ++ ext1 j x)) ∧ Hid (∀ j, j < l → wr.cell? ⟨g, f + j, none⟩ = some (.string ((lev k i).getD j ByteArray.empty))) ∧ g < wr.heap.size ∧ Below w.heap.size w wr) (fun _ jv _ => k - (intOf jv).toNat)
          case atStart => exact ⟨0, g2, c2, by omega, rfl, rfl, by simpa [ext1] using hown, hcapt, hgl2, hbel2⟩
          case round =>
            clear hown hcapt hck hbel2 hz2'
            obtain ⟨j, g3, c3, hjk, rfl, rfl, hown, hcapt, hgl3, hbel2⟩ := hrel
            have hz3' := hbel2.size
            have hj0 : (0 : Int) ≤ (j : Int) := by omega
            by_cases hlt3 : j < k
            · have hj1 : (j : Int) < (k : Int) := by omega
              have hj2 : (j : Int) + 1 ≤ 4 := by omega
              have hj3 : (j : Int) ≤ (j : Int) + 1 := by omega
              have hnx := Lib.hid (ext1_next k j x)
              have hls : ((⟨#[97, 98, 99, 100]⟩ : ByteArray).extract j (j + 1)).size ≤ 1 := by rw [ByteArray.size_extract]; omega
              have hrun := fun w => run_string_add_sum (P := Try.prog) w x ((⟨#[97, 98, 99, 100]⟩ : ByteArray).extract j (j + 1)) (by omega)
              have hcapt0 := cap_alloc (o := .cells #[.string (x ++ (⟨#[97, 98, 99, 100]⟩ : ByteArray).extract j (j + 1))] 9) hcapt hgl3
              clear hls hxs
              go_wp2_with (at_builtin; refine wpList_append_keep _ rfl _ _ _ rfl w.heap.size 9 i0 _ 16 Try.underlying23 hi0 hz0 hz1 hz2 rfl (g3) (N2 + j) (c3) (sv (M ++ ext1 j x)) (by rfl) (hown.alloc _) ⟨(wr).heap.size, 0, none⟩ 1 1 [.string (x ++ (⟨#[97, 98, 99, 100]⟩ : ByteArray).extract j (j + 1))] (by rfl) (by rfl) (World.news_of_block (cs := #[.string (x ++ (⟨#[97, 98, 99, 100]⟩ : ByteArray).extract j (j + 1))]) (t := 9) (fr := (0, 0)) (heap_alloc_new (wr) _)) (by simp [Value.oneCell']) (by unfold maxLen; omega) (by omega) (by simp; omega) ((wr).heap.size + 1) (by simp) ?_; intro gg capA w1 hown1 hgrow hatg hkeep)
              go_roundw
              case rel => exact ⟨j + 1, gg, _, by omega, by go_num, rfl, by rw [hnx.out, ← List.append_assoc, sv_snoc]; exact hown1, cap_keep hcapt0 (by omega) hgrow hkeep (by simp; omega), by have := size_app hgrow; omega, below_app hbel2 (by omega) hown hgrow⟩
              case measure => (simp [intOf]) <;> omega
            · obtain rfl : k = j := by omega
              have hj4 : ¬ (k : Int) < (k : Int) := by omega
              have hMn : Hid (wds k i ++ extL k ((lev k i).take (q + 1)) = M ++ ext1 k x) := by show _ = _; rw [hnext.out, hx'.out, ← hM'.out, List.append_assoc]
              go_wp2
              go_roundw
              case rel => exact ⟨q + 1, g3, c3, N2 + k, by omega, by go_num, rfl, by rw [hMn.out, List.length_append, ext1_len, hlen2], by omega, by omega, by rw [hMn.out]; exact hown, hcapt, hgl3, hbel2⟩
              case measure => (simp [intOf]) <;> omega
        · obtain rfl : l = q := by omega
          have hq4 : ¬ (l : Int) < (l : Int) := by omega
          rw [hext.out] at hown hlen2
          have hd := hdat.out
          go_wp2
          go_roundw
          case rel => exact ⟨i + 1, g2, c2, N2, N, by omega, by go_num, rfl, rfl, hd.2.2.2.1 ▸ hlen2, by rw [← hlen2, List.length_append, hd.2.2.1, lev_len], by rw [hd.2.2.2.1]; exact hown, hbel2⟩
          case measure => (simp [intOf]) <;> omega
    · obtain rfl : n = i := by omega
      have hx : ¬ (n : Int) < (n : Int) := by omega
      go_wp2
      go_ret
      exact ⟨g, c, by first | rfl | (rw [hN]; rfl), by first | exact hown | (rw [hN]; exact hown), hbel⟩
end Go.Proofs.Ytilbhingfnjppab

namespace Go.Proofs.Ytilbhingfnjppab
open Go.RowKit
def img (zs : List ByteArray) (z : ByteArray) : ByteArray := cc z zs z.size
def imgs (zs L : List ByteArray) : List ByteArray := L.map (img zs)
theorem wds_up (p : Nat) : ∀ n i, i ≤ n → ∃ R, wds p n = wds p i ++ R
  | 0, i, h => by obtain rfl : i = 0 := by omega
                  exact ⟨[], by simp⟩
  | n + 1, i, h => by
    by_cases e : i = n + 1
    · subst e; exact ⟨[], by simp⟩
    · obtain ⟨R, hR⟩ := wds_up p n i (by omega)
      exact ⟨R ++ lev p (n + 1), by rw [wds, hR, List.append_assoc]⟩
theorem ext1_up (x : ByteArray) : ∀ p j, j ≤ p → ∃ R, ext1 p x = ext1 j x ++ R
  | 0, j, h => by obtain rfl : j = 0 := by omega
                  exact ⟨[], by simp⟩
  | p + 1, j, h => by
    by_cases e : j = p + 1
    · subst e; exact ⟨[], by simp⟩
    · obtain ⟨R, hR⟩ := ext1_up x p j (by omega)
      exact ⟨R ++ [x ++ letS p], by rw [ext1_next 0, hR, List.append_assoc]⟩
theorem wds_pre {p n i a j : Nat} (hi : i < n) (ha : a < (lev p i).length) (hj : j < p) : ∃ R, wds p n = (wds p i ++ extL p ((lev p i).take a) ++ ext1 j ((lev p i).getD a ByteArray.empty) ++ [(lev p i).getD a ByteArray.empty ++ letS j]) ++ R := by
  obtain ⟨R0, h0⟩ := wds_up p n (i + 1) (by omega)
  obtain ⟨x, hx⟩ : ∃ x, (lev p i).getD a ByteArray.empty = x := ⟨_, rfl⟩
  rw [hx]
  obtain ⟨R1, h1⟩ := ext1_up x p (j + 1) (by omega)
  have hsplit : extL p (lev p i) = extL p ((lev p i).take a) ++ ext1 p x ++ extL p ((lev p i).drop (a + 1)) := by
    have hn := extL_next p a (lev p i) ha
    rw [hx] at hn
    rw [← hn]
    unfold extL
    rw [← List.flatMap_append, List.take_append_drop]
  refine ⟨R1 ++ extL p ((lev p i).drop (a + 1)) ++ R0, ?_⟩
  rw [h0, wds, lev, hsplit, h1, ext1_next 0]
  simp [List.append_assoc]
theorem bt_left (x y : ByteArray) (j : Nat) (h : j < x.size) : bt (x ++ y) j = bt x j := by
  unfold bt
  rw [dif_pos (by rw [ByteArray.size_append]; omega), dif_pos h]
  congr 2
  rw [ByteArray.getElem_eq_getElem_data, ByteArray.getElem_eq_getElem_data]
  simp only [ByteArray.data_append]
  rw [Array.getElem_append_left (by exact h)]
theorem bt_right (x y : ByteArray) (h : 0 < y.size) : bt (x ++ y) x.size = bt y 0 := by
  unfold bt
  rw [dif_pos (by rw [ByteArray.size_append]; omega), dif_pos h]
  congr 2
  rw [ByteArray.getElem_eq_getElem_data, ByteArray.getElem_eq_getElem_data]
  simp only [ByteArray.data_append]
  rw [Array.getElem_append_right (by exact Nat.le_refl _)]
  congr 1
  exact Nat.sub_self _
theorem letS_facts : ∀ j : Fin 4, (letS j.val).size = 1 ∧ bt (letS j.val) 0 = 97 + (j.val : Int) := by decide +kernel
theorem short_add {p j : Nat} {x : ByteArray} (hx : shortP p x) (hs : x.size ≤ 100) (hj : j < p) (hp : p ≤ 4) : shortP p (x ++ letS j) := by
  obtain ⟨h1, h2⟩ := letS_facts ⟨j, by omega⟩
  simp only at h1 h2
  refine ⟨by rw [ByteArray.size_append, h1]; omega, fun k hk => ?_⟩
  rw [ByteArray.size_append, h1] at hk
  by_cases e : k < x.size
  · have := hx.2 k e
    unfold inL lt at *
    rw [bt_left x _ k e]; exact this
  · obtain rfl : k = x.size := by omega
    unfold inL lt
    rw [bt_right x _ (by omega), h2]
    omega
theorem lev_short {p : Nat} (hp : p ≤ 4) : ∀ i, i ≤ 4 → ∀ z ∈ lev p i, shortP p z
  | 0, _, z, h => by simp [lev] at h; subst h; exact ⟨Nat.zero_le _, fun j hj => absurd hj (by show ¬ j < 0; omega)⟩
  | i + 1, hi, z, h => by
    unfold lev extL at h
    obtain ⟨x, hx, hz⟩ := List.mem_flatMap.1 h
    obtain ⟨j, hj, rfl⟩ := List.mem_map.1 hz
    rw [List.mem_range] at hj
    exact short_add (lev_short hp i (by omega) x hx) (by have := lev_size p i x hx; omega) hj hp
theorem wds_short {p : Nat} (hp : p ≤ 4) : ∀ i, i ≤ 4 → ∀ z ∈ wds p i, shortP p z
  | 0, _, z, h => lev_short hp 0 (by omega) z h
  | i + 1, hi, z, h => by
    rw [wds, List.mem_append] at h
    rcases h with h | h
    · exact wds_short hp i (by omega) z h
    · exact lev_short hp (i + 1) hi z h
theorem img_size {zs : List ByteArray} (h : small8 zs) (z : ByteArray) : (img zs z).size ≤ 8 * z.size := cc_size8 h z.size
theorem imgs_snoc (zs L : List ByteArray) (z : ByteArray) : imgs zs (L ++ [z]) = imgs zs L ++ [img zs z] := by simp [imgs]
theorem nodup_snoc {L : List ByteArray} {z : ByteArray} (h : L.Nodup) (hz : z ∉ L) : (L ++ [z]).Nodup := by
  rw [List.nodup_append]
  refine ⟨h, by simp, fun a ha b hb => ?_⟩
  rw [List.mem_singleton] at hb
  subst hb
  intro e; subst e; exact hz ha
theorem not_nodup {L R : List ByteArray} {z : ByteArray} (hz : z ∈ L) : ¬ ((L ++ [z]) ++ R).Nodup := by
  intro h
  have := (List.nodup_append.1 h).1
  rw [List.nodup_append] at this
  exact this.2.2 z hz z (by simp) rfl
/-- Whether the images of all words of at most n letters differ. -/
def injP (zs : List ByteArray) (n : Nat) : Prop := (imgs zs (wds zs.length n)).Nodup
end Go.Proofs.Ytilbhingfnjppab

namespace Go.Proofs.Ytilbhingfnjppab
open Go.RowKit
theorem bt_appL (x y : ByteArray) (j : Nat) (h : j < x.size) : bt (x ++ y) j = bt x j := by
  have h2 : j < (x ++ y).size := by rw [ByteArray.size_append]; omega
  unfold bt
  rw [dif_pos h2, dif_pos h]
  congr 2
  simp only [ByteArray.getElem_eq_getElem_data, ByteArray.data_append]
  exact Array.getElem_append_left _
theorem bt_appR (x y : ByteArray) (j : Nat) : bt (x ++ y) (x.size + j) = bt y j := by
  by_cases h : j < y.size
  · have h2 : x.size + j < (x ++ y).size := by rw [ByteArray.size_append]; omega
    unfold bt
    rw [dif_pos h2, dif_pos h]
    congr 2
    simp only [ByteArray.getElem_eq_getElem_data, ByteArray.data_append]
    rw [Array.getElem_append_right (by show x.data.size ≤ _; have : x.data.size = x.size := rfl; omega)]
    congr 1
    show x.size + j - x.size = j
    omega
  · have h2 : ¬ x.size + j < (x ++ y).size := by rw [ByteArray.size_append]; omega
    unfold bt
    rw [dif_neg h2, dif_neg h]
/-- Letters among the first n. -/
def letP (n : Nat) (z : ByteArray) : Prop := ∀ i, i < z.size → inL z i ∧ lt z i < n
theorem letP_app {n : Nat} {x y : ByteArray} (hx : letP n x) (hy : letP n y) : letP n (x ++ y) := by
  intro i hi
  by_cases h : i < x.size
  · have := hx i h
    unfold inL lt at *
    rw [bt_appL x y i h]; exact this
  · obtain ⟨j, rfl⟩ : ∃ j, i = x.size + j := ⟨i - x.size, by omega⟩
    rw [ByteArray.size_append] at hi
    have := hy j (by omega)
    unfold inL lt at *
    rw [bt_appR x y j]; exact this
theorem letP_empty (n : Nat) : letP n ⟨#[]⟩ := fun i hi => by simp [ByteArray.size] at hi
theorem letP_img {zs : List ByteArray} (h : sB zs = true) (j : Nat) : letP zs.length (zs.getD j ByteArray.empty) := by
  by_cases hj : j < zs.length
  · obtain ⟨_, h2, h3⟩ := (s_of h).2 j hj
    exact fun i hi => ⟨h2.2 i hi, h3 i hi⟩
  · rw [List.getD_eq_getElem?_getD, List.getElem?_eq_none (by omega)]
    exact letP_empty _
theorem letP_cc {zs : List ByteArray} (h : sB zs = true) (d : ByteArray) : ∀ k, letP zs.length (cc d zs k)
  | 0 => letP_empty _
  | k + 1 => by rw [cc_succ]; exact letP_app (letP_cc h d k) (letP_img h _)
theorem hiP_let {n : Nat} {z : ByteArray} (h : hiP n z) : letP n z ∧ z.size ≤ 400 := ⟨fun i hi => ⟨h.2.2 i hi, (hi_low h.2).1 h.1 i hi⟩, h.2.1⟩
theorem hiP_of {n : Nat} {z : ByteArray} (h : letP n z) (hs : z.size ≤ 400) : hiP n z := by
  have hw : isWP z := ⟨hs, fun j hj => (h j hj).1⟩
  exact ⟨(hi_low hw).2 (fun i hi => (h i hi).2), hw⟩
/-- The images of a word, again and again, if all are words. -/
noncomputable def itN (zs : List ByteArray) : Nat → ByteArray → Option ByteArray
  | 0, s => some s
  | k + 1, s => if isWB (img zs s) = true then itN zs k (img zs s) else none
theorem itN_yes {zs : List ByteArray} {k : Nat} {s : ByteArray} (h : isWB (img zs s) = true) : itN zs (k + 1) s = itN zs k (img zs s) := by simp [itN, h]
theorem itN_no {zs : List ByteArray} {k : Nat} {s : ByteArray} (h : isWB (img zs s) = false) : itN zs (k + 1) s = none := by simp [itN, h]
noncomputable def oV (o : Option ByteArray) : Value := match o with | some v => .tuple #[.string v, .bool true] | none => .tuple #[.string ⟨#[]⟩, .bool false]
noncomputable def itO (zs : List ByteArray) (s : ByteArray) (K : Int) : Option ByteArray := if (sB zs && hiB zs.length s && inB K 0 20) = true then itN zs K.toNat s else none
theorem small8_sB {zs : List ByteArray} (h : sB zs = true) : small8 zs := fun j => by
  by_cases hj : j < zs.length
  · exact ((s_of h).2 j hj).1.2
  · rw [List.getD_eq_getElem?_getD, List.getElem?_eq_none (by omega)]; exact Nat.zero_le _
theorem some_oV (v : ByteArray) : oV (some v) = .tuple #[.string v, .bool true] := rfl
theorem none_oV : oV none = .tuple #[.string ⟨#[]⟩, .bool false] := rfl
set_option maxRecDepth 20000 in
set_option maxHeartbeats 4000000 in
theorem implIterate_any (x : Option Addr) (n cap : Nat) (zs : List ByteArray) (s : ByteArray) (K : Int) (w : World) (h : IsStrs w x n cap zs) (hn : n ≤ 1048576) (hs : s.size ≤ 9223372036854775807) :
    Calls Try.prog 17 #[.agg #[.slice x n cap], .string s, .int .i64 K] w fun e w' => e = .returned (oV (itO zs s K)) ∧ Below w.heap.size w w' := by
  have hl := h.1
  have hb0 : Below w.heap.size w (w.alloc (.cells #[.slice x n cap] 25)) := (Below.refl _ w).alloc (Nat.le_refl _) _
  have h0 := isStrs_below h (Nat.le_refl _) hb0
  have hO : Hid (itO zs s K = if (sB zs && hiB n s && inB K 0 20) = true then itN zs K.toNat s else none) := by show _ = _; unfold itO; rw [hl]
  cases hS : sB zs
  · have e1 : Hid (itO zs s K = none) := by show _ = _; rw [hO.out, hS]; rfl
    go_enter Try.func17, Try.ntmps17
    go_wp2_with (go_at_call 32; refine (implSubstOk_any _ _ _ _ _ h0 hn).mono ?_; rintro e w2 ⟨rfl, hb2⟩; obtain ⟨hc2, hf2⟩ := bcell hb2; have hl2 := ltW hb2)
    refine bodyPost_ret (v := oV (itO zs s K)) (by rw [e1.out, none_oV]; simp [results, Try.results17, go_sem, *]) rfl ⟨rfl, by (repeat (first | with_reducible exact Below.refl _ _ | assumption | with_reducible refine Qdrew ?_ | with_reducible refine QdrewN ?_ | ((with_reducible refine Qset ?_ ?_); exact (by ((try simp only [World.size_alloc, World.size_setCell, World.size_drew, size_drewN]); (try dsimp only); omega))) | ((with_reducible refine Qalloc ?_ ?_); exact (by ((try simp only [World.size_alloc, World.size_setCell, World.size_drew, size_drewN]); (try dsimp only); omega))) | refine Qtrans (by assumption) (by ((try simp only [World.size_alloc, World.size_setCell, World.size_drew, size_drewN]); (try dsimp only); omega)) ?_))⟩
  · have hHI := fun w => hasImages_any x n cap s w hn hs
    cases hH : hiB n s
    all_goals rw [hH] at hHI
    · have e1 : Hid (itO zs s K = none) := by show _ = _; rw [hO.out, hS, hH]; rfl
      go_enter Try.func17, Try.ntmps17
      go_wp2_with (first | (go_at_call 32; refine (implSubstOk_any _ _ _ _ _ h0 hn).mono ?_; rintro e w2 ⟨rfl, hb2⟩; obtain ⟨hc2, hf2⟩ := bcell hb2; have hl2 := ltW hb2) | (go_at_call 67; refine (hHI w2).mono ?_; rintro e w3 ⟨rfl, hb3⟩; obtain ⟨hc3, hf3⟩ := bcell hb3; have hl3 := ltW hb3))
      refine bodyPost_ret (v := oV (itO zs s K)) (by rw [e1.out, none_oV]; simp [results, Try.results17, go_sem, *]) rfl ⟨rfl, Qtrans hb3 (by have := hb2.size; simp only [World.size_alloc] at this; omega) (Qtrans hb2 (by simp) hb0)⟩
    · cases hK : inB K 0 20
      · have e1 : Hid (itO zs s K = none) := by show _ = _; rw [hO.out, hS, hH, hK]; rfl
        have hI := fun w => within_any K 0 20 w
        rw [hK] at hI
        go_enter Try.func17, Try.ntmps17
        go_wp2_with (first | (go_at_call 32; refine (implSubstOk_any _ _ _ _ _ h0 hn).mono ?_; rintro e w2 ⟨rfl, hb2⟩; obtain ⟨hc2, hf2⟩ := bcell hb2; have hl2 := ltW hb2) | (go_at_call 67; refine (hHI w2).mono ?_; rintro e w3 ⟨rfl, hb3⟩; obtain ⟨hc3, hf3⟩ := bcell hb3; have hl3 := ltW hb3) | (go_at_call 65; refine (hI _).mono ?_; rintro e w1 ⟨rfl, rfl⟩))
        refine bodyPost_ret (v := oV (itO zs s K)) (by rw [e1.out, none_oV]; simp [results, Try.results17, go_sem, *]) rfl ⟨rfl, Qtrans hb3 (by have := hb2.size; simp only [World.size_alloc] at this; omega) (Qtrans hb2 (by simp) hb0)⟩
      · obtain ⟨k0, k20⟩ := inB_true.1 hK
        obtain ⟨N, rfl⟩ : ∃ N : Nat, K = (N : Int) := ⟨K.toNat, by omega⟩
        have hI := fun w => within_any (N : Int) 0 20 w
        rw [hK] at hI
        have e1 : Hid (itO zs s (N : Int) = itN zs N s) := by show _ = _; rw [hO.out, hS, hH, hK]; rfl
        have hp0 := Lib.hid (hiP_let (hiB_of hH))
        have h8 := small8_sB hS
        have hcc := Lib.hid (fun d => (letP_cc hS d d.size))
        rw [hl] at hcc
        go_enter Try.func17, Try.ntmps17
        go_wp2_with (first | (go_at_call 32; refine (implSubstOk_any _ _ _ _ _ h0 hn).mono ?_; rintro e w2 ⟨rfl, hb2⟩; obtain ⟨hc2, hf2⟩ := bcell hb2; have hl2 := ltW hb2) | (go_at_call 67; refine (hHI w2).mono ?_; rintro e w3 ⟨rfl, hb3⟩; obtain ⟨hc3, hf3⟩ := bcell hb3; have hl3 := ltW hb3) | (go_at_call 65; refine (hI _).mono ?_; rintro e w1 ⟨rfl, rfl⟩))
        have hz3 := hb3.size
        have hz2 := hb2.size
        simp only [World.size_alloc] at hz2
        have h2 := isStrs_below (isStrs_below h0 (Nat.le_refl _) hb2) (Nat.le_refl _) hb3
        have b3 : Below (w.heap.size + 1) (w.alloc (.cells #[.slice x n cap] 25)) w3 := Qtrans hb3 hz2 (hb2.mono (by simp))
        go_loopw [1, 23] (fun v i wr => ∃ (j : Nat) (d : ByteArray), j ≤ N ∧ i = .int .i64 j ∧ v = .string d ∧ Hid (itN zs N s = itN zs (N - j) d) ∧ Hid (letP n d ∧ d.size ≤ 400) ∧ Below (w.heap.size + 1) (w.alloc (.cells #[.slice x n cap] 25)) wr) (fun _ i _ => N - (intOf i).toNat)
        case atStart => exact ⟨0, s, by omega, rfl, rfl, Lib.hid rfl, hp0, b3⟩
        case round =>
          clear hp0 h2 b3 hb2 hb3
          obtain ⟨j, d, hj, rfl, rfl, hit, hp, hbel⟩ := hrel
          have hzb := hbel.size
          simp only [World.size_alloc] at hzb
          have hst := isStrs_below h0 (show (w.alloc (.cells #[.slice x n cap] 25)).heap.size ≤ w.heap.size + 1 by simp) hbel
          have hcB : wr.cell? ⟨w.heap.size, 0, none⟩ = some (.slice x n cap) := (hbel.cell (by simp)).trans (by simp [go_sem])
          have hbw : w.heap.size < wr.heap.size := by omega
          by_cases hlt : j < N
          · have hA := apply_any x n cap zs d wr hst ⟨hp.out.2, hp.out.1⟩ h8
            have hsz := cc_size8 (d := d) h8 d.size
            have hd4 := hp.out.2
            have hcd := Lib.hid (hcc.out d)
            obtain ⟨q, hq⟩ : ∃ q, N - j = q + 1 := ⟨N - j - 1, by omega⟩
            have hN1 : Hid (N - (j + 1) = q) := by show _ = _; omega
            have hyes : Hid (isWB (cc d zs d.size) = true → itN zs N s = itN zs q (cc d zs d.size)) := fun e => by rw [hit.out, hq]; exact itN_yes e
            have hno : Hid (isWB (cc d zs d.size) = false → itN zs N s = none) := fun e => by rw [hit.out, hq]; exact itN_no e
            have hW := fun w => isWord_any (cc d zs d.size) w (by omega)
            obtain ⟨v, hv⟩ : ∃ v, cc d zs d.size = v := ⟨_, rfl⟩
            rw [hv] at hA hsz hcd hyes hno hW
            have i1 : (j : Int) < (N : Int) := by omega
            have i8 : IntKind.i64.wrap ((j : Int) + 1) = (j : Int) + 1 := IntWalk.i64_in _ (by omega)
            clear hv hq hit hst
            cases hB : isWB v
            · have e2 : Hid (itO zs s (N : Int) = none) := e1.out.trans (hno.out hB)
              rw [hB] at hW
              go_wp2_with (first | (go_at_call 66; refine hA.mono ?_; rintro e w5 ⟨rfl, hb5⟩) | (go_at_call 62; refine (hW _).mono ?_; rintro e w1 ⟨rfl, rfl⟩))
              refine bodyPost_ret (v := oV (itO zs s (N : Int))) (by rw [e2.out, none_oV]; simp [results, Try.results17, go_sem, *]) rfl ⟨rfl, Qtrans hb5 (by omega) (Qtrans hbel (by omega) hb0)⟩
            · have hwp := (isW_of hB).1
              have hyes' : Hid (itN zs N s = itN zs q v) := hyes.out hB
              rw [hB] at hW
              go_wp2_with (first | (go_at_call 66; refine hA.mono ?_; rintro e w5 ⟨rfl, hb5⟩) | (go_at_call 62; refine (hW _).mono ?_; rintro e w1 ⟨rfl, rfl⟩))
              exact ⟨⟨j + 1, v, by omega, by go_num, rfl, Lib.hid (by rw [hyes'.out, hN1.out]), Lib.hid ⟨hcd.out, hwp⟩, Qtrans hb5 (by omega) hbel⟩, by simp [intOf]; omega⟩
          · obtain rfl : j = N := by omega
            have e2 : Hid (itO zs s (j : Int) = some d) := by show _ = _; rw [e1.out, hit.out, Nat.sub_self]; rfl
            go_wp2_with fail
            refine bodyPost_ret (v := oV (itO zs s (j : Int))) (by rw [e2.out, some_oV]; simp [results, Try.results17, go_sem, *]) rfl ⟨rfl, Qtrans hbel (by omega) hb0⟩
theorem implApply_any (x : Option Addr) (n cap : Nat) (zs : List ByteArray) (s : ByteArray) (w : World) (h : IsStrs w x n cap zs) (hn : n ≤ 1048576) (hs : s.size ≤ 9223372036854775807) :
    Calls Try.prog 9 #[.agg #[.slice x n cap], .string s] w fun e w' => e = .returned (oV (itO zs s 1)) ∧ Below w.heap.size w w' := by
  have hb0 : Below w.heap.size w (w.alloc (.cells #[.slice x n cap] 25)) := (Below.refl _ w).alloc (Nat.le_refl _) _
  have h0 := isStrs_below h (Nat.le_refl _) hb0
  have hC := fun w h => implIterate_any x n cap zs s 1 w h hn hs
  obtain ⟨v, b, hv⟩ : ∃ v b, oV (itO zs s 1) = .tuple #[.string v, .bool b] := by
    cases itO zs s 1
    · exact ⟨_, _, rfl⟩
    · exact ⟨_, _, rfl⟩
  rw [hv] at hC ⊢
  go_enter Try.func9, Try.ntmps9
  go_wp2_with (go_at_call 17; refine (hC _ h0).mono ?_; rintro e w2 ⟨rfl, hb2⟩)
  refine bodyPost_ret (v := .tuple #[.string v, .bool b]) (by simp [results, Try.results9, go_sem, *]) rfl ⟨rfl, by (repeat (first | with_reducible exact Below.refl _ _ | assumption | with_reducible refine Qdrew ?_ | with_reducible refine QdrewN ?_ | ((with_reducible refine Qset ?_ ?_); exact (by ((try simp only [World.size_alloc, World.size_setCell, World.size_drew, size_drewN]); (try dsimp only); omega))) | ((with_reducible refine Qalloc ?_ ?_); exact (by ((try simp only [World.size_alloc, World.size_setCell, World.size_drew, size_drewN]); (try dsimp only); omega))) | refine Qtrans (by assumption) (by ((try simp only [World.size_alloc, World.size_setCell, World.size_drew, size_drewN]); (try dsimp only); omega)) ?_))⟩
end Go.Proofs.Ytilbhingfnjppab
