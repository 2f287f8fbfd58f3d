/- Chains: the reference's list and the program's have the same first numbers. -/
import Derived.Test.YtfbcbfimhgaicaaChC
set_option linter.unusedSimpArgs false
set_option linter.unusedVariables false
namespace Go.Proofs.Ytfbcbfimhgaicaa
open Go.RowKit
def allS (lo hi : GP) (N : Nat) : List GP := (List.range N).flatMap (fun (t : Nat) => clS lo hi ((t : Int) - 200))
def allI (lo hi : GP) (N : Nat) : List GP := (List.range N).flatMap (fun (t : Nat) => clI lo hi (frm hi + (t : Int)))
def specL (lo hi : GP) : List GP := (allS lo hi 401).foldl gput []
theorem allS_next (lo hi : GP) (N : Nat) : allS lo hi (N + 1) = allS lo hi N ++ clS lo hi ((N : Int) - 200) := by simp [allS, List.range_succ]
theorem allI_next (lo hi : GP) (N : Nat) : allI lo hi (N + 1) = allI lo hi N ++ clI lo hi (frm hi + (N : Int)) := by simp [allI, List.range_succ]
def lexR (x y : GP) : Prop := x.2 < y.2 ∨ (x.2 = y.2 ∧ x.1 < y.1)
theorem pw_cl {N : Nat} (g : Nat → GP) (p : GP → Bool) (h : ∀ i j, i < j → lexR (g i) (g j)) : (((List.range N).map g).filter p).Pairwise lexR := by
  refine List.Pairwise.sublist List.filter_sublist ?_
  rw [List.pairwise_map]
  exact (List.pairwise_lt_range (n := N)).imp (fun {a b} q => h a b q)
theorem clS_pw (lo hi : GP) (b : Int) : (clS lo hi b).Pairwise lexR := pw_cl _ _ (fun i j h => .inr ⟨rfl, by show frst lo b + (i : Int) < frst lo b + (j : Int); omega⟩)
theorem clI_pw (lo hi : GP) (b : Int) : (clI lo hi b).Pairwise lexR := pw_cl _ _ (fun i j h => .inr ⟨rfl, by show low0 lo b + (i : Int) - 1 < low0 lo b + (j : Int) - 1; omega⟩)
theorem allS_mem {lo hi : GP} {N : Nat} {x : GP} : x ∈ allS lo hi N ↔ ∃ t : Nat, t < N ∧ x ∈ clS lo hi ((t : Int) - 200) := by
  unfold allS; rw [List.mem_flatMap]; simp only [List.mem_range]
theorem allI_mem {lo hi : GP} {N : Nat} {x : GP} : x ∈ allI lo hi N ↔ ∃ t : Nat, t < N ∧ x ∈ clI lo hi (frm hi + (t : Int)) := by
  unfold allI; rw [List.mem_flatMap]; simp only [List.mem_range]
theorem allS_pw (lo hi : GP) : ∀ N, (allS lo hi N).Pairwise lexR
  | 0 => List.Pairwise.nil
  | N + 1 => by
    rw [allS_next, List.pairwise_append]
    refine ⟨allS_pw lo hi N, clS_pw _ _ _, fun x hx y hy => ?_⟩
    obtain ⟨t, ht, hxt⟩ := allS_mem.1 hx
    have h1 := (clS_mem.1 hxt).2.1
    have h2 := (clS_mem.1 hy).2.1
    exact .inl (by omega)
theorem allI_pw (lo hi : GP) : ∀ N, (allI lo hi N).Pairwise lexR
  | 0 => List.Pairwise.nil
  | N + 1 => by
    rw [allI_next, List.pairwise_append]
    refine ⟨allI_pw lo hi N, clI_pw _ _ _, fun x hx y hy => ?_⟩
    obtain ⟨t, ht, hxt⟩ := allI_mem.1 hx
    have h1 := (clI_mem.1 hxt).2.1
    have h2 := (clI_mem.1 hy).2.1
    exact .inl (by omega)
def bp (x : GP) : Prop := (-20000 ≤ x.1 ∧ x.1 ≤ 20000) ∧ (-20000 ≤ x.2 ∧ x.2 ≤ 20000)
theorem allS_bp {lo hi : GP} (hw : Win lo hi) {x : GP} (h : x ∈ allS lo hi 401) : bp x := by
  obtain ⟨t, ht, hx⟩ := allS_mem.1 h
  obtain ⟨_, h2, h3, h4⟩ := clS_mem.1 hx
  have hl1 := hw.l1; have hl2 := hw.l2
  obtain ⟨g0, _, _⟩ := flo_lin (a := -lo.1 + ((t : Int) - 200)) (b := -lo.2 - ((t : Int) - 200)) (by omega) (by omega)
  unfold frst at h3 h4
  exact ⟨⟨by omega, by omega⟩, ⟨by omega, by omega⟩⟩
theorem allI_bp {lo hi : GP} (hw : Win lo hi) {x : GP} (h : x ∈ allI lo hi 400) : bp x := by
  obtain ⟨t, ht, hx⟩ := allI_mem.1 h
  obtain ⟨_, h2, h3, h4⟩ := clI_mem.1 hx
  have hl1 := hw.l1; have hl2 := hw.l2
  have hf := frm_b hw
  obtain ⟨g0, _, _⟩ := flo_lin (a := lo.1 - (frm hi + (t : Int))) (b := lo.2 + (frm hi + (t : Int))) (by omega) (by omega)
  unfold low0 at h3 h4
  exact ⟨⟨by omega, by omega⟩, ⟨by omega, by omega⟩⟩
theorem key_ne_of {x y : GP} (hx : bp x) (hy : bp y) (h : lexR x y) : key x ≠ key y := by
  intro e
  obtain ⟨⟨x1, x2⟩, ⟨x3, x4⟩⟩ := hx
  obtain ⟨⟨y1, y2⟩, ⟨y3, y4⟩⟩ := hy
  have := vl_inj (bd_of (by omega) (by omega)) (bd_of (by omega) (by omega)) e
  rcases h with h | h <;> omega
theorem specL_asc {lo hi : GP} (hw : Win lo hi) : ascK (specL lo hi) ∧ ∀ z, z ∈ specL lo hi ↔ z ∈ allS lo hi 401 := by
  obtain ⟨h1, h2⟩ := fold_gput (allS lo hi 401) [] List.Pairwise.nil (by
    rw [List.nil_append]
    exact List.Pairwise.imp_of_mem (fun {a b} ha hb h => key_ne_of (allS_bp hw ha) (allS_bp hw hb) h) (allS_pw lo hi 401))
  exact ⟨h1, fun z => by unfold specL; rw [h2]; simp⟩
theorem allS_iff {lo hi : GP} (hw : Win lo hi) (z : GP) : z ∈ allS lo hi 401 ↔ inC lo hi z = true ∧ -200 ≤ z.2 ∧ z.2 ≤ 200 := by
  rw [allS_mem]
  constructor
  · rintro ⟨t, ht, h⟩
    obtain ⟨h1, h2, _⟩ := clS_mem.1 h
    exact ⟨h1, by omega, by omega⟩
  · rintro ⟨h1, h2, h3⟩
    have := (inC_first hw ⟨by omega, by omega⟩ h1).1
    refine ⟨(z.2 + 200).toNat, by omega, clS_mem.2 ⟨h1, by omega, ?_⟩⟩
    rw [show (((z.2 + 200).toNat : Nat) : Int) - 200 = z.2 by omega]
    exact this
theorem allI_iff {lo hi : GP} (hw : Win lo hi) (z : GP) : z ∈ allI lo hi 400 ↔ inC lo hi z = true ∧ z.2 < frm hi + 400 := by
  have hf := frm_b hw
  rw [allI_mem]
  constructor
  · rintro ⟨t, ht, h⟩
    obtain ⟨h1, h2, _⟩ := clI_mem.1 h
    exact ⟨h1, by omega⟩
  · rintro ⟨h1, h2⟩
    have h0 := (inC_low hw h1).1
    have := (inC_first hw ⟨by omega, by omega⟩ h1).2
    refine ⟨(z.2 - frm hi).toNat, by omega, clI_mem.2 ⟨h1, by omega, ?_⟩⟩
    rw [show frm hi + (((z.2 - frm hi).toNat : Nat) : Int) = z.2 by omega]
    exact this
theorem many {lo hi : GP} (hw : Win lo hi) {L : List GP} (hL : ∀ z, inC lo hi z = true → -180 ≤ z.2 → z.2 ≤ 196 → z ∈ L) : 79 ≤ (L.filter (fun e => decide (e.2 ≤ 196))).length := by
  have h1 : ((List.range 79).map (fun (t : Nat) => ((frst lo (118 + (t : Int)), 118 + (t : Int)) : GP))).Nodup := by
    rw [List.nodup_iff_pairwise_ne, List.pairwise_map]
    refine (List.pairwise_lt_range (n := 79)).imp (fun {a b} q e => ?_)
    have := congrArg Prod.snd e
    simp only at this
    omega
  have := nodup_len h1 (m := L.filter (fun e => decide (e.2 ≤ 196))) (fun x hx => by
    obtain ⟨t, ht, rfl⟩ := List.mem_map.1 hx
    rw [List.mem_range] at ht
    rw [List.mem_filter]
    exact ⟨hL _ (some_at hw (by omega) (by omega)) (by show -180 ≤ 118 + (t : Int); omega) (by show 118 + (t : Int) ≤ 196; omega), by simp; omega⟩)
  simpa using this
/-- The first 60 numbers agree. -/
theorem first_eq {lo hi : GP} (hw : Win lo hi) {M : List GP} (hM : ascK M) (hm : ∀ z, z ∈ M ↔ z ∈ allI lo hi 400) (n : Nat) (hn : n ≤ 60) : (specL lo hi).take n = M.take n ∧ 60 ≤ (specL lo hi).length ∧ 60 ≤ M.length := by
  obtain ⟨hS, hs⟩ := specL_asc hw
  have hf := frm_b hw
  have c1 := many hw (L := specL lo hi) (fun z h1 h2 h3 => (hs z).2 ((allS_iff hw z).2 ⟨h1, by omega, by omega⟩))
  have c2 := many hw (L := M) (fun z h1 h2 h3 => (hm z).2 ((allI_iff hw z).2 ⟨h1, by omega⟩))
  have e1 := take_q hS (fun e => decide (e.2 ≤ 196)) (fun e => decide (e.2 ≤ 198)) n (by omega) (fun e he hp y hy hq => by
    simp only [decide_eq_true_eq, decide_eq_false_iff_not] at hp hq
    exact far_key hw ((allS_iff hw e).1 ((hs e).1 he)).1 ((allS_iff hw y).1 ((hs y).1 hy)).1 hp (by omega))
  have e2 := take_q hM (fun e => decide (e.2 ≤ 196)) (fun e => decide (e.2 ≤ 198)) n (by omega) (fun e he hp y hy hq => by
    simp only [decide_eq_true_eq, decide_eq_false_iff_not] at hp hq
    exact far_key hw ((allI_iff hw e).1 ((hm e).1 he)).1 ((allI_iff hw y).1 ((hm y).1 hy)).1 hp (by omega))
  have hfe : (specL lo hi).filter (fun e => decide (e.2 ≤ 198)) = M.filter (fun e => decide (e.2 ≤ 198)) := by
    refine ascK_eq (List.Pairwise.sublist List.filter_sublist hS) (List.Pairwise.sublist List.filter_sublist hM) (fun z => ?_)
    rw [List.mem_filter, List.mem_filter, hs, hm, allS_iff hw, allI_iff hw]
    simp only [decide_eq_true_eq]
    constructor
    · rintro ⟨⟨h1, h2, h3⟩, h4⟩; exact ⟨⟨h1, by omega⟩, h4⟩
    · rintro ⟨⟨h1, h2⟩, h4⟩
      have := (inC_low hw h1).1
      exact ⟨⟨h1, by omega, by omega⟩, h4⟩
  refine ⟨by rw [e1, e2, hfe], ?_, ?_⟩
  · have := List.length_filter_le (fun e : GP => decide (e.2 ≤ 196)) (specL lo hi); omega
  · have := List.length_filter_le (fun e : GP => decide (e.2 ≤ 196)) M; omega
end Go.Proofs.Ytfbcbfimhgaicaa
