/- A substitution whose first image grows, and a long word: the walks. -/
import Derived.Test.YtilbhingfnjppabRtB
import Derived.Test.YtilbhingfnjppabDrD
import Derived.Test.YtilbhingfnjppabPPA
set_option linter.unusedSimpArgs false
set_option linter.unusedVariables false
namespace Go.Proofs.Ytilbhingfnjppab
open Go.RowKit
theorem MakeLong_any (x : Option Addr) (cap : Nat) (zs : List ByteArray) (N : Nat) (w : World) (h : IsStrs w x zs.length cap zs) (hS : sB zs = true) (h2 : 2 ≤ (zs.getD 0 ByteArray.empty).size) (hN1 : 1 ≤ N) (hN : N ≤ 100) :
    Calls Try.prog 20 #[.agg #[.slice x zs.length cap], .int .i64 N] w fun e w' => ∃ v : ByteArray, e = .returned (.string v) ∧ v.size = N ∧ letP zs.length v ∧ Below w.heap.size w w' := by
  have hb0 : Below w.heap.size w (w.alloc (.cells #[.slice x zs.length cap] 25)) := (Below.refl _ w).alloc (Nat.le_refl _) _
  have h' := isStrs_below h (Nat.le_refl _) hb0
  have hC := l05Start_any x cap zs N _ h' hS h2 hN1 hN
  clear h h' h2 hS
  go_enter Try.func20, Try.ntmps20
  go_wp2_with (go_at_call 68; refine hC.mono ?_; rintro e w1 ⟨v, rfl, hv, hl, hb1⟩)
  go_ret
  exact ⟨v, rfl, hv, hl, Qtrans hb1 (by simp) hb0⟩
def gim (z : ByteArray) (k : Nat) : ByteArray := (⟨#[97]⟩ : ByteArray) ++ z.extract 0 k
theorem gim_ok {n : Nat} {z : ByteArray} (hn : 1 ≤ n) (h : iOk n z) (k : Nat) (hk : k ≤ 7) (hk1 : 1 ≤ k) (hkz : k ≤ z.size) : iOk n (gim z k) ∧ 2 ≤ (gim z k).size := by
  have hs : (gim z k).size = 1 + k := by
    unfold gim
    rw [ByteArray.size_append, ByteArray.size_extract]
    have : (⟨#[97]⟩ : ByteArray).size = 1 := rfl
    omega
  have hlt : letP n z := fun i hi => ⟨h.2.1.2 i hi, h.2.2 i hi⟩
  have hle : letP n (z.extract 0 k) := fun i hi => by
    have e := bt_ext z 0 k i hi
    rw [Nat.zero_add] at e
    have := hlt i (by rw [ByteArray.size_extract] at hi; omega)
    unfold inL lt at this ⊢
    rw [e]; exact this
  have hla : letP n (⟨#[97]⟩ : ByteArray) := fun i hi => by
    have h1 : (⟨#[97]⟩ : ByteArray).size = 1 := rfl
    have : i = 0 := by omega
    subst this
    have e : bt (⟨#[97]⟩ : ByteArray) 0 = 97 := by decide +kernel
    unfold inL lt
    rw [e]
    omega
  have hl := letP_app hla hle
  exact ⟨⟨⟨by omega, by omega⟩, ⟨by show (gim z k).size ≤ _; omega, fun i hi => (hl i hi).1⟩, fun i hi => (hl i hi).2⟩, by omega⟩
theorem grow_sB {zs : List ByteArray} (h : sB zs = true) (k : Nat) (hk : k ≤ 7) (hk1 : 1 ≤ k) (hkz : k ≤ (zs.getD 0 ByteArray.empty).size) : sB (zs.set 0 (gim (zs.getD 0 ByteArray.empty) k)) = true ∧ 2 ≤ ((zs.set 0 (gim (zs.getD 0 ByteArray.empty) k)).getD 0 ByteArray.empty).size := by
  have hO := s_of h
  have hl : 0 < zs.length := hO.1.1
  have hg := gim_ok hO.1.1 (hO.2 0 hl) k hk hk1 hkz
  refine ⟨sB_yes ⟨by simpa using hO.1, fun j hj => ?_⟩, ?_⟩
  · rw [List.length_set] at hj ⊢
    by_cases hj0 : j = 0
    · subst hj0
      rw [List.getD_eq_getElem?_getD, List.getElem?_set_self hl]
      exact hg.1
    · rw [List.getD_eq_getElem?_getD, List.getElem?_set_ne (by omega), ← List.getD_eq_getElem?_getD]
      exact hO.2 j hj
  · rw [List.getD_eq_getElem?_getD, List.getElem?_set_self hl]
    exact hg.2
theorem news_strs {W : World} {b off n cap : Nat} {zs : List ByteArray} (h : IsStrs W (some ⟨b, off, none⟩) n cap zs) (hl : zs.length = n) : ∀ j u, (sv zs)[j]? = some u → W.cell? ((⟨b, off, none⟩ : Addr).add j) = some u := by
  intro j u hu
  have hj : j < zs.length := by
    by_cases hj : j < zs.length
    · exact hj
    · rw [List.getElem?_eq_none (by simp [sv]; omega)] at hu; cases hu
  obtain ⟨b', off', e, _, hc⟩ := isStrs_cell h (by omega)
  cases e
  rw [sv_at _ _ hj] at hu
  cases hu
  rw [Addr.add_lit]
  exact hc j (by omega)
theorem own_lit1 (w : World) (o : Obj) : ((w.alloc o).alloc (.cells #[] 9)).ownsRow (w.heap.size + 1) 9 1 (.slice (some ⟨w.heap.size + 1, 0, none⟩) 0 0) 0 [] := by
  have := World.ownsRow_lit (base := w.heap.size + 1) (e := 9) (size := 1) (w.alloc o) #[] 0 (by simp) (by decide) rfl
  rwa [World.size_alloc] at this
theorem mg_facts {w w3 : World} {v : Value} {N gg c : Nat} {zs : List ByteArray} (hN : 0 < N) (hl : zs.length = N) (hown : w3.ownsRow (w.heap.size + 1) 9 1 (.slice (some ⟨gg, 0, none⟩) (0 + N) c) (0 + N) ([] ++ sv zs))
    (hg : ((w.alloc (.cells #[v] 25)).alloc (.cells #[] 9)).grownBy w3 (Value.slice (some ⟨w.heap.size + 1, 0, none⟩) 0 0).ownBlock) :
    w3.cell? ⟨w.heap.size, 0, none⟩ = some v ∧ w3.frozen? ⟨w.heap.size, 0, none⟩ = false ∧ gg ≠ w.heap.size ∧ w3.ownsRow (w.heap.size + 1) 9 1 (.slice (some ⟨gg, 0, none⟩) N c) N (sv zs) ∧ w.heap.size < w3.heap.size ∧ w3.cell? ⟨gg, 0, none⟩ = some (.string (zs.getD 0 ByteArray.empty)) ∧ w3.frozen? ⟨gg, 0, none⟩ = false ∧ w.grownBy w3 none := by
  simp only [Nat.zero_add, List.nil_append] at hown
  have hs := hg.size
  simp only [World.size_alloc] at hs
  have hgg := hown.lt gg rfl
  have q1 : ((w.alloc (.cells #[v] 25)).alloc (.cells #[] 9)).cell? ⟨w.heap.size, 0, none⟩ = some v := by rw [calloc (by simp)]; simp [go_sem]
  have q2 : ((w.alloc (.cells #[v] 25)).alloc (.cells #[] 9)).frozen? ⟨w.heap.size, 0, none⟩ = false := by rw [falloc (by simp)]; simp [go_sem]
  refine ⟨(hg.cell_far ⟨w.heap.size, 0, none⟩ (by simp; omega) (by simp [Value.ownBlock])).trans q1, (hg.frozen_far ⟨w.heap.size, 0, none⟩ (by simp; omega) (by simp [Value.ownBlock])).trans q2, by omega, hown, by omega, ?_, hown.frozenAt 0, ⟨hg.os, hg.tape, hg.output, by omega, fun k hk _ => ?_⟩⟩
  · rw [own_cell hown 0 (by omega), sv_at _ _ (by omega)]
  · refine (hg.block k (by simp; omega) (by simp [Value.ownBlock]; omega)).trans ?_
    rw [Below.heap_alloc _ _ k (by simp; omega), Below.heap_alloc _ _ k hk]
set_option maxRecDepth 20000 in
set_option maxHeartbeats 2000000 in
theorem MakeGrowing_any (B : Nat) (x : Option Addr) (n cap m : Nat) (hm : m ≤ 1000) (w : World) (hB : B ≤ w.heap.size) (hr : RB B w x n) :
    Calls Try.prog 19 #[.slice x n cap, .int .i64 m] w fun e w' => ∃ y cy zs, e = .returned (.agg #[.slice y zs.length cy]) ∧ sB zs = true ∧ 2 ≤ (zs.getD 0 ByteArray.empty).size ∧ IsStrs w' y zs.length cy zs ∧ Below w.heap.size w w' := by
  obtain ⟨i0, hi0, hy0, hy1, hy2⟩ := info_parts infoS
  have hbW : Below w.heap.size w (w.alloc (.cells #[.slice none 0 0] 25)) := (Below.refl _ w).alloc (Nat.le_refl _) _
  have hrW : RB w.heap.size (w.alloc (.cells #[.slice none 0 0] 25)) x n := rB_below (rB_mono hr hB) hbW
  have hC1 := l31New_any w.heap.size x n cap m hm _ (by simp) hrW
  clear hr
  go_enter Try.func19, Try.ntmps19
  go_wp2_with (first | (go_at_call 59; refine hC1.mono ?_; rintro e w1 ⟨g, rfl, hg, hc1, hb1⟩; have hz1 := hb1.size; (simp at hg); have hk1 := fun o => hb1.cell (p := ⟨w.heap.size, o, none⟩) (by simp); have hk2 := fun o => hb1.frozen (p := ⟨w.heap.size, o, none⟩) (by simp)) | (go_at_call 58; refine (l03Draw_any (w.heap.size + 1) g x n cap w1 hg (rB_below (rB_mono hrW (by omega)) (hb1.mono (by simp))) hc1).mono ?_; rintro e w2 ⟨y, cy, zs, rfl, hS, hst, hy, hg2⟩; have hz2 := hg2.size; have hb2 := below_of_grown (B := w.heap.size + 1) hg2 (by simp at hz1; omega) hg; have hk3 := fun o => hb2.cell (p := ⟨w.heap.size, o, none⟩) (by simp); have hk4 := fun o => hb2.frozen (p := ⟨w.heap.size, o, none⟩) (by simp); obtain ⟨b, off, rfl, hbl, hcl⟩ := isStrs_cell hst (by have := (s_of hS).1; omega); have hyb := hy b off rfl; have hlz := (s_of hS).1; have hwz : w.heap.size < w2.heap.size := (by simp at hz1; omega)) | (at_builtin; refine wpList_append_lies _ rfl _ _ _ rfl (w2.heap.size + 1) 9 i0 _ 1 16 Try.underlying23 hi0 hy0 hy1 hy2 rfl (by decide) (.slice (some ⟨w2.heap.size + 1, 0, none⟩) 0 0) 0 [] (by rfl) (own_lit1 w2 _) ⟨b, off, none⟩ zs.length cy (sv zs) (by rfl) (by simp [sv]) (news_strs (isStrs_below hst (Nat.le_refl _) (((Below.refl _ w2).alloc (Nat.le_refl _) _).alloc (by simp) _)) rfl) (by intro u hu; obtain ⟨z, _, rfl⟩ := List.mem_map.1 hu; rfl) (by omega) (by unfold maxLen; omega) (by omega) (by simp) (w2.heap.size + 2) (by simp) ?_; intro gg capA w3 hown3 hgrow hatg hltg; obtain ⟨f1, f2, f3, f4, f5, f6, f7, f8⟩ := mg_facts (by omega) rfl hown3 hgrow; have hN0 : (0 : Int) < (zs.length : Int) := (by omega); obtain ⟨z0, hz0⟩ : ∃ z0, zs.getD 0 ByteArray.empty = z0 := ⟨_, rfl⟩; rw [hz0] at f6))
  have hz8 : 1 ≤ z0.size ∧ z0.size ≤ 8 := by rw [← hz0]; exact ((s_of hS).2 0 (by omega)).1
  obtain ⟨k, hk, hk7, hko, hkz⟩ : ∃ k : Nat, min (z0.size : Int) 7 = (k : Int) ∧ k ≤ 7 ∧ 1 ≤ k ∧ k ≤ z0.size := ⟨min z0.size 7, by omega, by omega, by omega, by omega⟩
  have hkz' : (k : Int) ≤ (z0.size : Int) := by omega
  have hrun : ∀ w, (Op.stringOp .add (⟨#[97]⟩ : ByteArray) (z0.extract 0 k)).run Try.prog w = .ok (.string (gim z0 k)) w := fun w => run_string_add_sum w _ _ (by rw [ByteArray.size_extract]; have : (⟨#[97]⟩ : ByteArray).size = 1 := rfl; omega)
  have hggb := (f4.lt gg rfl).1
  have c3 : w3.cell? ⟨w.heap.size, 0, none⟩ = some (.slice none 0 0) := (f8.cell_far _ hwz (by simp)).trans ((hk3 0).trans ((hk1 0).trans (by simp [go_sem])))
  have d3 : w3.frozen? ⟨w.heap.size, 0, none⟩ = false := (f8.frozen_far _ hwz (by simp)).trans ((hk4 0).trans ((hk2 0).trans (by simp [go_sem])))
  have ne1 : w.heap.size ≠ w2.heap.size := by omega
  have ne2 : w.heap.size ≠ gg := by omega
  have hgs := grow_sB hS k hk7 hko (by rw [hz0]; exact hkz)
  rw [hz0] at hgs
  simp only [World.size_alloc] at hz1
  have hbA : Below w.heap.size w w2 := (hbW.trans (hb1.mono (by simp))).trans (hb2.mono (by omega))
  have hbB : Below w.heap.size w w3 := hbA.grown f8 (by omega) (fun k hk => by cases hk)
  go_region
  all_goals go_wp2
  all_goals
    refine bodyPost_ret (v := .agg #[.slice (some ⟨gg, 0, none⟩) zs.length capA]) (by simp [results, Try.results19, go_sem, cset, csame, *]) rfl ⟨some ⟨gg, 0, none⟩, capA, zs.set 0 (gim z0 k), by rw [List.length_set], hgs.1, hgs.2, ?_, ?_⟩
    · have o1 := f4.kept (grown_set w3 w2.heap.size 0 (.slice (some ⟨gg, 0, none⟩) zs.length capA)) (.inr (by simp [Value.ownBlock]; omega))
      have o2 := (o1.stored 0 (.string (gim z0 k))).1
      rw [sv_set] at o2
      have o3 := o2.kept (grown_set _ w.heap.size 0 (.slice (some ⟨gg, 0, none⟩) zs.length capA)) (.inr (by simp [Value.ownBlock]; omega))
      rw [List.length_set]
      exact isStrs_own o3 (fun z hz => by
        obtain ⟨j, hj, rfl⟩ := List.getElem_of_mem hz
        have := ((s_of hgs.1).2 j hj).1.2
        rw [List.getD_eq_getElem?_getD, List.getElem?_eq_getElem hj] at this
        unfold maxLen
        simp at this ⊢
        omega)
    · (repeat (first | with_reducible exact Below.refl _ _ | assumption | with_reducible refine Qdrew ?_ | with_reducible refine QdrewN ?_ | ((with_reducible refine Qset ?_ ?_); exact (by ((try simp only [World.size_alloc, World.size_setCell, World.size_drew, size_drewN]); (try dsimp only); omega))) | ((with_reducible refine Qalloc ?_ ?_); exact (by ((try simp only [World.size_alloc, World.size_setCell, World.size_drew, size_drewN]); (try dsimp only); omega))) | refine Qtrans (by assumption) (by ((try simp only [World.size_alloc, World.size_setCell, World.size_drew, size_drewN]); (try dsimp only); omega)) ?_))
end Go.Proofs.Ytilbhingfnjppab
