/- The law on return words: the walk. -/
import Derived.Test.YtilbhingfnjppabRtG
import Derived.Test.YtilbhingfnjppabDrD
import Derived.Deep.QuietTactic
import Derived.BigQuiet
set_option linter.unusedSimpArgs false
set_option linter.unusedVariables false
namespace Go.Proofs.Ytilbhingfnjppab
open Go.RowKit
theorem rB_ofR {w : World} {x : Option Addr} {n cap : Nat} {zs : List Int} (h : IsRow .u8 w x n cap zs) : RB w.heap.size w x n := by
  obtain ⟨h1, h2, h3, h4, h5⟩ := h
  unfold maxLen at h3
  refine ⟨by omega, ?_⟩
  rcases h5 with h5 | ⟨b, off, e, hb, hj⟩
  · exact .inl h5
  · refine .inr ⟨b, off, e, hb, fun j q => ?_⟩
    have hm : zs.getD j 0 ∈ zs := by
      rw [List.getD_eq_getElem?_getD, List.getElem?_eq_getElem (by omega)]; exact List.getElem_mem _
    have hw := h4 _ hm
    simp [Lit.wf, IntKind.min, IntKind.max, IntKind.signed, IntKind.bits] at hw
    exact ⟨_, hw.1, hw.2, hj j q⟩
set_option maxRecDepth 20000 in
set_option maxHeartbeats 8000000 in
theorem FnReturns_law (wc : World) (px : Option Addr) (n cap : Nat) (cz : List Int) (hrow : IsRow .u8 wc px n cap cz) (gm : Int) (hgm : wc.cell? ⟨0, 0, none⟩ = some (.int .i64 gm)) :
    Calls Try.prog 4 #[.slice px n cap] wc fun e w' => e = .returned (.bool true) ∧ Below wc.heap.size wc w' := by
  have hr := rB_ofR hrow
  have hn := hr.1
  have hg0 : 0 < wc.heap.size := World.block_lt_of_cell? wc _ hgm
  clear hrow
  by_cases hbig : (1048576 : Int) < (n : Int)
  · clear hgm
    go_enter Try.func4, Try.ntmps4
    go_wp2
    go_ret
    exact ⟨rfl, by (repeat (first | with_reducible exact Below.refl _ _ | assumption | with_reducible refine Qdrew ?_ | with_reducible refine QdrewN ?_ | ((with_reducible refine Qset ?_ ?_); exact (by ((try simp only [World.size_alloc, World.size_setCell, World.size_drew, size_drewN]); (try dsimp only); omega))) | ((with_reducible refine Qalloc ?_ ?_); exact (by ((try simp only [World.size_alloc, World.size_setCell, World.size_drew, size_drewN]); (try dsimp only); omega))) | refine Qtrans (by assumption) (by ((try simp only [World.size_alloc, World.size_setCell, World.size_drew, size_drewN]); (try dsimp only); omega)) ?_))⟩
  have hgmH := Lib.hid hgm
  clear hgm
  go_enter Try.func4, Try.ntmps4
  go_upto_region 4 with (go_at_call 19; refine (MakeGrowing_any wc.heap.size px n cap 0 (by omega) wc (Nat.le_refl _) hr).mono ?_; rintro e w1 ⟨y, cy, zs, rfl, hS, h2, st1, hb1⟩)
  have hz1 := hb1.size
  have h4 := (s_of hS).1
  have b1 : Below wc.heap.size wc (w1.alloc (.cells #[.slice y zs.length cy] 25)) := hb1.alloc hz1 _
  have st1' := isStrs_below st1 (Nat.le_refl _) ((Below.refl _ w1).alloc (Nat.le_refl _) (.cells #[.slice y zs.length cy] 25))
  have kW : (w1.alloc (.cells #[.slice y zs.length cy] 25)).cell? ⟨w1.heap.size, 0, none⟩ = some (.slice y zs.length cy) := by simp [go_sem]
  have hW : w1.heap.size < (w1.alloc (.cells #[.slice y zs.length cy] 25)).heap.size := by simp
  have hcW : wc.heap.size ≤ (w1.alloc (.cells #[.slice y zs.length cy] 25)).heap.size := by simp; omega
  obtain ⟨W, hWe⟩ : ∃ W, w1.alloc (.cells #[.slice y zs.length cy] 25) = W := ⟨_, rfl⟩
  rw [hWe] at b1 st1' kW hW hcW ⊢
  have rW := rB_below hr b1
  clear hWe hb1 st1 hz1
  go_cut [4] from 30 to 33 (fun s4 wr => ∃ s : ByteArray, s4 = .string s ∧ letP zs.length s ∧ 10 ≤ s.size ∧ s.size ≤ 50 ∧ Below W.heap.size W wr)
  case first =>
    have cS : Calls Try.prog 21 #[.slice px n cap, .int .i64 20, .int .i64 10, .int .i64 50] W.drew fun e w' => ∃ v : Int, e = .returned (.int .i64 v) ∧ (10 ≤ v ∧ v ≤ 50) ∧ Below W.drew.heap.size W.drew w' := MakeSize_any wc.heap.size px n cap 20 (by omega) 10 50 (by omega) (by omega) (by omega) W.drew hcW rW
    have stW : IsStrs W.drew y zs.length cy zs := st1'
    go_region_held3 (fun wx => (∀ bk ofs, bk < W.heap.size → wx.cell? ⟨bk, ofs, none⟩ = (W).cell? ⟨bk, ofs, none⟩) ∧ Below (W.heap.size) (W) wx) ((refine stays ?_; ((repeat (first | with_reducible exact Below.refl _ _ | assumption | with_reducible refine Qdrew ?_ | with_reducible refine QdrewN ?_ | ((with_reducible refine Qset ?_ ?_); exact (by ((try simp only [World.size_alloc, World.size_setCell, World.size_drew, size_drewN]); (try dsimp only); omega))) | ((with_reducible refine Qalloc ?_ ?_); exact (by ((try simp only [World.size_alloc, World.size_setCell, World.size_drew, size_drewN]); (try dsimp only); omega))) | refine Qtrans (by assumption) (by ((try simp only [World.size_alloc, World.size_setCell, World.size_drew, size_drewN]); (try dsimp only); omega)) ?_)) <;> (go_split_ands; assumption)))) (first | (go_at_call 21; (with_reducible refine cS.mono ?_); rintro e w6 ⟨v, rfl, ⟨hv1, hv2⟩, hb6⟩; obtain ⟨N, rfl⟩ : ∃ N : Nat, v = (N : Int) := ⟨v.toNat, (by omega)⟩; obtain ⟨hc6, hf6⟩ := bcell hb6; have hl6 := ltW hb6; have hz6 := hb6.size; (try simp only [World.size_drew] at hz6)) | (go_at_call 20; refine (MakeLong_any y cy zs N w6 (isStrs_below stW (Nat.le_refl _) hb6) hS h2 (by omega) (by omega)).mono ?_; rintro e w7 ⟨s, rfl, hss, hsl, hb7⟩; obtain ⟨hc7, hf7⟩ := bcell hb7; have hl7 := ltW hb7; have hz7 := hb7.size))
    all_goals
      go_wp2_with fail
      go_meet
      exact ⟨s, rfl, hsl, by omega, by omega, Qtrans hb7 (by omega) (Qtrans hb6 (by simp) (Qdrew (Below.refl _ W)))⟩
  case rest =>
    rename World => w2
    obtain ⟨s, rfl, hsl, hs1, hs2, hb2⟩ := hcut
    have hz2 := hb2.size
    have b2 : Below wc.heap.size wc w2 := Qtrans hb2 hcW b1
    have r2 := rB_below hr b2
    have n4 := h4.2
    clear hb2 b1 st1' kW rW h2 hS
    go_upto_region 6 with (go_at_call 21; refine (show Calls Try.prog 21 #[.slice px n cap, .int .i64 21, .int .i64 0, .int .i64 5] w2 fun e w' => ∃ v : Int, e = .returned (.int .i64 v) ∧ (0 ≤ v ∧ v ≤ 5) ∧ Below w2.heap.size w2 w' from MakeSize_any wc.heap.size px n cap 21 (by omega) 0 5 (by omega) (by omega) (by omega) w2 (by omega) r2).mono ?_; rintro e w3 ⟨v1, rfl, ⟨hv1, hv2⟩, hb3⟩)
    have hz3 := hb3.size
    have b3 := Qtrans hb3 (by omega) b2
    have r3 := rB_below hr b3
    obtain ⟨i, rfl⟩ : ∃ i : Nat, v1 = (i : Int) := ⟨v1.toNat, by omega⟩
    clear hb3 b2 r2
    have cA2 : Calls Try.prog 21 #[.slice px n cap, .int .i64 22, .int .i64 1, .int .i64 4] w3 fun e w' => ∃ v : Int, e = .returned (.int .i64 v) ∧ (1 ≤ v ∧ v ≤ 4) ∧ Below w3.heap.size w3 w' := MakeSize_any wc.heap.size px n cap 22 (by omega) 1 4 (by omega) (by omega) (by omega) w3 (by omega) r3
    go_upto_region 7 with (go_at_call 21; refine cA2.mono ?_; rintro e w4 ⟨v2, rfl, ⟨hv3, hv4⟩, hb4⟩; obtain ⟨m, rfl⟩ : ∃ m : Nat, v2 = (m : Int) := ⟨v2.toNat, (by omega)⟩; have i1 : IntKind.i64.wrap ((i : Int) + (m : Int)) = ((i + m : Nat) : Int) := (by rw [IntWalk.i64_in _ (by omega)]; omega); have i2 : (i : Int) ≤ ((i + m : Nat) : Int) := (by omega); have i3 : ((i + m : Nat) : Int) ≤ (s.size : Int) := (by omega); have i4 : (0 : Int) ≤ (i : Int) := (by omega))
    have hz4 := hb4.size
    have b4 := Qtrans hb4 (by omega) b3
    clear hb4 b3 r3 cA2
    obtain ⟨f, hf⟩ : ∃ f, s.extract i (i + m) = f := ⟨_, rfl⟩
    rw [hf]
    have hfs : f.size = m := by rw [← hf, ByteArray.size_extract]; omega
    have sf : SF s f zs.length i := ⟨n4, hsl, by omega, by omega, by omega, by omega, by rw [hfs]; exact hf.symm⟩
    have hm1 : 1 ≤ f.size ∧ f.size ≤ 4 := by omega
    clear hf hfs i1 i2 i3
    have cR := fun w => implReturns_any s f w (by omega) (by omega)
    have cP := fun w => implPlaces_any s f w (by omega) (by omega)
    have cL := fun w => implLongest_any s f w (by omega) (by omega)
    rw [sf.P] at cP
    rw [sf.longest] at cL
    have fm : ∀ k, k + 1 < (places s f).length → s.extract ((places s f).getD k 0) ((places s f).getD (k + 1) 0) ∈ dd (R s f) ∧ (s.extract ((places s f).getD k 0) ((places s f).getD (k + 1) 0)).size ≤ mx (R s f) := fun k hk => by
      rw [← sf.atR hk]
      exact ⟨(mem_dd _ _).2 (getD_mem (by rw [sf.lenR]; omega)), sf.le_longest hk⟩
    have fl : ∀ k, k + 1 < (places s f).length → (places s f).getD k 0 < (places s f).getD (k + 1) 0 ∧ (places s f).getD (k + 1) 0 ≤ s.size := fun k hk => ⟨places_lt s f (by omega) hk, by have := places_bd s f (by have := sf.hi; omega) hk; omega⟩
    have fa := fun k hk => allP_next s f (k := k) hk
    have hq1 := sf.ddlen
    have hK1 := sf.len
    have hDs : ∀ z ∈ dd (R s f), z.size ≤ maxLen := dd_small (R_small s f (by omega))
    have hpl : (places s f).length ≤ s.size + 1 := Nat.le_trans (pl_le s f _) (by omega)
    obtain ⟨D, hD⟩ : ∃ D, dd (R s f) = D := ⟨_, rfl⟩
    obtain ⟨L, hL⟩ : ∃ L, places s f = L := ⟨_, rfl⟩
    obtain ⟨M, hM⟩ : ∃ M, mx (R s f) = M := ⟨_, rfl⟩
    rw [hD] at cR fm hq1 hDs
    rw [hL] at cP fm fl hq1 hK1 fa hpl
    rw [hM] at cL fm
    obtain ⟨K, hK⟩ : ∃ K, L.length = K := ⟨_, rfl⟩
    rw [hK] at cP fm fl hq1 hK1 fa hpl
    obtain ⟨q, hq⟩ : ∃ q, D.length = q := ⟨_, rfl⟩
    rw [hq] at cR hq1
    have fmH := Lib.hid fm
    have flH := Lib.hid fl
    have faH := Lib.hid fa
    have hLH := Lib.hid hL
    have hDH := Lib.hid hD
    have hMH := Lib.hid hM
    have sfH := Lib.hid sf
    clear fm fl fa hL hD hM sf
    have hcw : wc.heap.size ≤ w4.heap.size := by omega
    clear hz2 hz3 hz4 hcW hW hsl
    go_upto_region 8 with (go_at_call 22; refine (cR _).mono ?_; rintro e w5 ⟨xR, cR', rfl, oR, hb5⟩)
    have hz5 := hb5.size
    have b5 := Qtrans hb5 hcw b4
    have sR : IsStrs w5 xR q cR' D := by have := rowS_strs oR hDs; rwa [hq] at this
    clear hb5 b4 oR cR
    go_upto_region 9 with (go_at_call 23; refine (cP _).mono ?_; rintro e w6 ⟨xP, cP', rfl, oP, hb6⟩)
    have hz6 := hb6.size
    have b6 := Qtrans hb6 (by omega) b5
    have sR6 := isStrs_below sR (Nat.le_refl _) hb6
    clear hb6 b5 sR cP
    unfold RowN at oP
    rw [hK] at oP
    obtain ⟨gP, rfl⟩ : ∃ g, xP = some ⟨g, 0, none⟩ := by
      rcases oP.2 with ⟨_, h0⟩ | ⟨g, c, cur, e, _⟩
      · omega
      · simp only [Value.slice.injEq] at e
        exact ⟨g, e.1⟩
    have hcP : Hid (∀ j, j < K → w6.cell? ⟨gP, j, none⟩ = some (.int .i64 (L.getD j 0 : Nat))) := fun j hj => by
      rw [own_cell oP j hj, nvl_at _ _ (by omega)]
    have hgP := (oP.lt gP rfl).2
    clear oP
    have e1 : ¬ (K : Int) = 0 := by omega
    have e1b : ((K : Int) == 0) = false := by simp; omega
    have e1c : ¬ K = 0 := by omega
    have e2 : ¬ (M : Int) < 0 := by omega
    have e3 : IntKind.i64.wrap ((K : Int) - 1) = (K : Int) - 1 := IntWalk.i64_in _ (by omega)
    have e4 : ¬ (K : Int) - 1 < (q : Int) := by omega
    go_wp2_with (go_at_call 24; refine (cL _).mono ?_; rintro e w7 ⟨rfl, hb7⟩; obtain ⟨hc7, hf7⟩ := bcell hb7; have hl7 := ltW hb7)
    have hz7 := hb7.size
    have b7 := Qtrans hb7 (by omega) b6
    have sR7 := isStrs_below sR6 (Nat.le_refl _) hb7
    have hcP7 : Hid (∀ j, j < K → w7.cell? ⟨gP, j, none⟩ = some (.int .i64 (L.getD j 0 : Nat))) := fun j hj => (hc7 gP j hgP).trans (hcP.out j hj)
    have hgP7 : gP < w7.heap.size := by omega
    clear hb7 b6 sR6 hc7 hf7 hl7 hcP
    go_loopw [9, 10] (fun al kk wr => ∃ k : Nat, 1 ≤ k ∧ k ≤ K ∧ kk = .int .i64 k ∧ al = .string (allP s f (k - 1)) ∧ Below w7.heap.size w7 wr) (fun _ kk _ => K - (intOf kk).toNat)
    case atStart => exact ⟨1, by omega, by omega, rfl, by rw [Nat.sub_self, allP_zero], by (repeat (first | with_reducible exact Below.refl _ _ | assumption | with_reducible refine Qdrew ?_ | with_reducible refine QdrewN ?_ | ((with_reducible refine Qset ?_ ?_); exact (by ((try simp only [World.size_alloc, World.size_setCell, World.size_drew, size_drewN]); (try dsimp only); omega))) | ((with_reducible refine Qalloc ?_ ?_); exact (by ((try simp only [World.size_alloc, World.size_setCell, World.size_drew, size_drewN]); (try dsimp only); omega))) | refine Qtrans (by assumption) (by ((try simp only [World.size_alloc, World.size_setCell, World.size_drew, size_drewN]); (try dsimp only); omega)) ?_))⟩
    case round =>
      obtain ⟨k, hk1, hk, rfl, rfl, hbw⟩ := hrel
      have hzw := hbw.size
      by_cases hlt : k < K
      · obtain ⟨j, rfl⟩ : ∃ j, k = j + 1 := ⟨k - 1, by omega⟩
        obtain ⟨p1, p2⟩ := flH.out j hlt
        obtain ⟨p3, p4⟩ := fmH.out j hlt
        have p5 := faH.out j hlt
        have c0 := (hbw.cell (p := ⟨gP, j, none⟩) hgP7).trans (hcP7.out j (by omega))
        have c1 := (hbw.cell (p := ⟨gP, j + 1, none⟩) hgP7).trans (hcP7.out (j + 1) hlt)
        rw [Nat.add_sub_cancel]
        obtain ⟨a, ha⟩ : ∃ a, L.getD j 0 = a := ⟨_, rfl⟩
        obtain ⟨b, hb⟩ : ∃ b, L.getD (j + 1) 0 = b := ⟨_, rfl⟩
        rw [ha, hb] at p1 p3 p4 p5
        rw [ha] at c0
        rw [hb] at c1 p2
        obtain ⟨X, hX⟩ : ∃ X, s.extract a b = X := ⟨_, rfl⟩
        rw [hX] at p3 p4 p5
        have p3H := Lib.hid p3
        have hAs : (allP s f j).size ≤ s.size := by unfold allP; rw [ByteArray.size_extract]; omega
        have hXs : X.size ≤ s.size := by rw [← hX, ByteArray.size_extract]; omega
        obtain ⟨A, hA⟩ : ∃ A, allP s f j = A := ⟨_, rfl⟩
        rw [hA] at hAs p5 ⊢
        have p5H := Lib.hid p5
        have run1 : ∀ w, (Op.stringOp .add A X).run Try.prog w = .ok (.string (A ++ X)) w := fun w => run_string_add_sum w _ _ (by omega)
        have i0 : (0 : Int) ≤ (j : Int) := by omega
        have i1 : (j : Int) < (K : Int) := by omega
        have i2 : (j : Int) + 1 < (K : Int) := by omega
        have i3 : (0 : Int) ≤ (j : Int) + 1 := by omega
        have i4 : IntKind.i64.wrap ((j : Int) + 1 - 1) = (j : Int) := by rw [IntWalk.i64_in _ (by omega)]; omega
        have i5 : IntKind.i64.wrap (j : Int) = (j : Int) := IntWalk.i64_in _ (by omega)
        have i6 : IntKind.i64.wrap ((j : Int) + 1 + 1) = (j : Int) + 1 + 1 := IntWalk.i64_in _ (by omega)
        have i7 : ¬ (a : Int) < 0 := by omega
        have i8 : ¬ (b : Int) ≤ (a : Int) := by omega
        have i9 : ¬ (s.size : Int) < (b : Int) := by omega
        have i10 : (a : Int) ≤ (b : Int) := by omega
        have i11 : (b : Int) ≤ (s.size : Int) := by omega
        have i12 : (0 : Int) ≤ (a : Int) := by omega
        have i13 : ¬ (M : Int) < (X.size : Int) := by omega
        clear ha hb p3 p5 hA
        go_wp2_with fail
        go_quiet (fail)
        go_wp2_with fail
        go_quiet (fail)
        go_wp2_with (first | (go_at_call 25; refine (in_any xR q cR' D X _ (isStrs_below sR7 (Nat.le_refl _) (by (repeat (first | with_reducible exact Below.refl _ _ | assumption | with_reducible refine Qdrew ?_ | with_reducible refine QdrewN ?_ | ((with_reducible refine Qset ?_ ?_); exact (by ((try simp only [World.size_alloc, World.size_setCell, World.size_drew, size_drewN]); (try dsimp only); omega))) | ((with_reducible refine Qalloc ?_ ?_); exact (by ((try simp only [World.size_alloc, World.size_setCell, World.size_drew, size_drewN]); (try dsimp only); omega))) | refine Qtrans (by assumption) (by ((try simp only [World.size_alloc, World.size_setCell, World.size_drew, size_drewN]); (try dsimp only); omega)) ?_)))) (by omega) p3H.out).mono ?_; rintro e w8 ⟨rfl, rfl⟩) | (go_at_call 24; refine (cL _).mono ?_; rintro e w9 ⟨rfl, hb9⟩))
        have hz9 := hb9.size
        exact ⟨⟨j + 2, by omega, by omega, by go_num, by rw [show j + 2 - 1 = j + 1 by omega, p5H.out], Qtrans hb9 (by ((try simp only [World.size_alloc, World.size_setCell, World.size_drew, size_drewN]); (try dsimp only); omega)) (by (repeat (first | with_reducible exact Below.refl _ _ | assumption | with_reducible refine Qdrew ?_ | with_reducible refine QdrewN ?_ | ((with_reducible refine Qset ?_ ?_); exact (by ((try simp only [World.size_alloc, World.size_setCell, World.size_drew, size_drewN]); (try dsimp only); omega))) | ((with_reducible refine Qalloc ?_ ?_); exact (by ((try simp only [World.size_alloc, World.size_setCell, World.size_drew, size_drewN]); (try dsimp only); omega))) | refine Qtrans (by assumption) (by ((try simp only [World.size_alloc, World.size_setCell, World.size_drew, size_drewN]); (try dsimp only); omega)) ?_)))⟩, by simp [intOf]; omega⟩
      · obtain rfl : K = k := by omega
        have b10 := Qtrans hbw (by omega) b7
        have sR10 := isStrs_below sR7 (Nat.le_refl _) hbw
        have hder : ∃ d : ByteArray, dvV s f = .tuple #[.string d, .bool (decide ((q : Int) ≤ 4))] ∧ ((q : Int) ≤ 4 → d.size = K - 1 ∧ (0 < d.size → bt d 0 = 97) ∧ fdV d D = .tuple #[.string (allP s f (K - 1)), .bool true]) := by
          have sf := sfH.out
          by_cases h4 : q ≤ 4
          · obtain ⟨d, g1, g2, g3, g4, g5⟩ := sf.derived (by rw [hDH.out, hq]; exact h4)
            rw [hLH.out, hK] at g2 g4
            rw [hDH.out] at g4
            refine ⟨d, by rw [g1, decide_eq_true (show (q : Int) ≤ 4 by omega)], fun _ => ⟨g2, g3, g4⟩⟩
          · refine ⟨⟨#[]⟩, by rw [sf.notDerived (by rw [hDH.out, hq]; exact h4), decide_eq_false (show ¬ (q : Int) ≤ 4 by omega)], fun h => absurd h (by omega)⟩
        obtain ⟨d, hd1, hd2⟩ := hder
        have cD := fun w => implDerived_any s f w (by omega) (by omega)
        rw [hd1] at cD
        have hd2H := Lib.hid hd2
        obtain ⟨A, hA⟩ : ∃ A, allP s f (K - 1) = A := ⟨_, rfl⟩
        rw [hA] at hd2H ⊢
        have i1 : ¬ (K : Int) < (K : Int) := by omega
        clear hd1 hd2 hA sR7 hcP7 b7 hbw
        go_upto_if 136 with (go_at_call 26; refine (cD _).mono ?_; rintro e w11 ⟨rfl, hb11⟩)
        have hz11 := hb11.size
        have b11 := Qtrans hb11 (by omega) b10
        have sR11 := isStrs_below sR10 (Nat.le_refl _) hb11
        clear hb11 b10 sR10 cD
        go_cut [13, 14, 15] from 125 to 167 (fun _ _ _ wq => Below w11.heap.size w11 wq)
        case first =>
          by_cases h4 : (q : Int) ≤ 4
          · obtain ⟨g2, g3, g4⟩ := hd2H.out h4
            have cF := fun w h => implFromDerived_any d xR q cR' D w (by omega) h (by omega)
            rw [g4] at cF
            have hAA : (A.toList == A.toList) = true := by simp
            have j1 : IntKind.i64.wrap ((K : Int) - 1) = (K : Int) - 1 := IntWalk.i64_in _ (by omega)
            have j2 : (d.size : Int) = (K : Int) - 1 := by omega
            by_cases h0 : 0 < d.size
            · have hb0 : ∀ h : 0 < d.size, ((d[0]'h).toNat : Int) = 97 := fun h => by rw [bt_eq d 0 h]; exact g3 h0
              have j3 : (0 : Int) < (d.size : Int) := by omega
              clear g4 hd2H
              go_wp2_with (go_at_call 27; refine (cF _ sR11).mono ?_; rintro e w12 ⟨rfl, hb12⟩)
              go_meet
              exact hb12
            · have j3 : ¬ (0 : Int) < (d.size : Int) := by omega
              clear g4 hd2H
              go_wp2_with (go_at_call 27; refine (cF _ sR11).mono ?_; rintro e w12 ⟨rfl, hb12⟩)
              go_meet
              exact hb12
          · clear hd2H
            go_wp2_with fail
            go_meet
            exact Below.refl _ _
        case rest =>
          rename World => wq
          have hbq := hcut
          have hzq := hbq.size
          have bq := Qtrans hbq (by omega) b11
          have sRq := isStrs_below sR11 (Nat.le_refl _) hbq
          clear hbq b11 sR11 hd2H
          have cFu := fun w => implFull_any s f w (by omega) (by omega)
          rw [hDH.out, hq] at cFu
          have j1 : (q : Int) = (q : Int) := rfl
          go_wp2_with (go_at_call 28; refine (cFu _).mono ?_; rintro e w13 ⟨xF, cF', rfl, oF, hb13⟩)
          have hz13 := hb13.size
          have b13 := Qtrans hb13 (by omega) bq
          have sR13 := isStrs_below sRq (Nat.le_refl _) hb13
          have sF : IsStrs w13 xF q cF' (fu f D q) := rowS_strs' oF (fun z hz => by
            unfold fu at hz
            obtain ⟨y, hy, rfl⟩ := List.mem_map.1 hz
            have h1 := R_le s f y (by rw [hDH.out]; exact List.mem_of_mem_take hy)
            rw [ByteArray.size_append]; unfold maxLen; omega)
          clear hb13 bq sRq oF cFu
          go_loopw [178] (fun kk wr => ∃ k : Nat, k ≤ q ∧ kk = .int .i64 k ∧ Below w13.heap.size w13 wr) (fun kk _ => q - (intOf kk).toNat)
          case atStart => exact ⟨0, by omega, rfl, by (repeat (first | with_reducible exact Below.refl _ _ | assumption | with_reducible refine Qdrew ?_ | with_reducible refine QdrewN ?_ | ((with_reducible refine Qset ?_ ?_); exact (by ((try simp only [World.size_alloc, World.size_setCell, World.size_drew, size_drewN]); (try dsimp only); omega))) | ((with_reducible refine Qalloc ?_ ?_); exact (by ((try simp only [World.size_alloc, World.size_setCell, World.size_drew, size_drewN]); (try dsimp only); omega))) | refine Qtrans (by assumption) (by ((try simp only [World.size_alloc, World.size_setCell, World.size_drew, size_drewN]); (try dsimp only); omega)) ?_))⟩
          case round =>
            obtain ⟨k, hk, rfl, hbw⟩ := hrel
            have hzw := hbw.size
            by_cases hlt : k < q
            · have hmem : D.getD k ByteArray.empty ∈ dd (R s f) := by rw [hDH.out]; exact getD_mem (by omega)
              obtain ⟨j, hj, hx0⟩ := sfH.out.memR hmem
              have hfull := sfH.out.full hj
              rw [← hx0] at hfull
              have h2p := sfH.out.twice hj hfull
              have hbd := places_bd s f (by have := sfH.out.hi; omega) hj
              have hab := places_le s f (show j ≤ j + 1 by omega) hj
              have hpart := has_part (s := s) (a := (places s f).getD j 0) (b := (places s f).getD (j + 1) 0 + f.size) (by omega) hbd
              rw [← hfull] at hpart
              have hxw : isWB (D.getD k ByteArray.empty ++ f) = true := by rw [hfull]; exact let_wd (letP_ext sfH.out.hs _ _) (by rw [ByteArray.size_extract]; omega)
              have hsw : isWB s = true := let_wd sfH.out.hs (by omega)
              have hxs : (D.getD k ByteArray.empty ++ f).size ≤ 400 := (isW_of hxw).1
              have hfk : (fu f D q).getD k ByteArray.empty = D.getD k ByteArray.empty ++ f := by
                unfold fu
                rw [List.getD_eq_getElem?_getD, List.getElem?_map, List.getElem?_take_of_lt hlt, List.getElem?_eq_getElem (by omega), List.getD_eq_getElem?_getD, List.getElem?_eq_getElem (by omega)]; rfl
              obtain ⟨bR, oR, hxR, hbR, hcR⟩ := isStrs_cell sR13 (by omega)
              obtain ⟨bF, oF, hxF, hbF, hcF⟩ := isStrs_cell sF (by omega)
              subst hxR hxF
              have r1 := (hbw.cell (p := ⟨bR, oR + k, none⟩) hbR).trans (hcR k hlt)
              have r2 := (hbw.cell (p := ⟨bF, oF + k, none⟩) hbF).trans (hcF k hlt)
              rw [hfk] at r2
              have hgw : wr.cell? ⟨0, 0, none⟩ = some (.int .i64 gm) := (hbw.cell (p := ⟨0, 0, none⟩) (by show 0 < _; omega)).trans ((b13.cell (p := ⟨0, 0, none⟩) hg0).trans hgmH.out)
              have cI := isFactor_any s (D.getD k ByteArray.empty ++ f) gm wr hsw hxw hpart hgw
              have cX := fun w => implPlaces_any (D.getD k ByteArray.empty ++ f) f w (by omega) (by omega)
              rw [h2p] at cX
              obtain ⟨x0, hx0e⟩ : ∃ x0, D.getD k ByteArray.empty = x0 := ⟨_, rfl⟩
              rw [hx0e] at r1 r2 cI cX hxs
              obtain ⟨x, hxe⟩ : ∃ x, x0 ++ f = x := ⟨_, rfl⟩
              have run1 : ∀ w, (Op.stringOp .add x0 f).run Try.prog w = .ok (.string x) w := fun w => by rw [← hxe]; exact run_string_add_sum w _ _ (by rw [ByteArray.size_append] at hxs; omega)
              rw [hxe] at r2 cI cX
              have hxx : (x.toList == x.toList) = true := by simp
              have i0 : (0 : Int) ≤ (k : Int) := by omega
              have i2 : (k : Int) < (q : Int) := by omega
              have i6 : IntKind.i64.wrap ((k : Int) + 1) = (k : Int) + 1 := IntWalk.i64_in _ (by omega)
              clear hmem hx0 hfull h2p hbd hab hpart hxw hsw hxs hfk hcR hcF hx0e hxe hgw
              go_wp2_with (first | (go_at_call 29; refine cI.mono ?_; rintro e w14 ⟨rfl, rfl⟩) | (go_at_call 23; refine (cX _).mono ?_; rintro e w15 ⟨xx, cc', rfl, _, hb15⟩))
              have hz15 := hb15.size
              exact ⟨⟨k + 1, by omega, by go_num, Qtrans hb15 (by omega) hbw⟩, by simp [intOf]; omega⟩
            · obtain rfl : q = k := by omega
              have b16 := Qtrans hbw (by omega) b13
              have sR16 := isStrs_below sR13 (Nat.le_refl _) hbw
              have cS := fun w => implRS_any s f w (by omega) (by omega)
              have hrd : rdB s f = true → rd s f = D ∧ sB D = true := fun h => by
                unfold rdB at h
                unfold rd
                rw [if_pos h, hDH.out]
                rw [hDH.out] at h
                exact ⟨rfl, h⟩
              have hi : ¬ (q : Int) < (q : Int) := by omega
              clear sF sR13 b13 hbw
              obtain ⟨rb, hrb⟩ : ∃ b, rdB s f = b := ⟨_, rfl⟩
              obtain ⟨rD, hrD⟩ : ∃ l, rd s f = l := ⟨_, rfl⟩
              obtain ⟨r, hr0⟩ : ∃ r, rD.length = r := ⟨_, rfl⟩
              rw [hrb, hrD, hr0] at cS
              rw [hrb, hrD] at hrd
              have hrdH := Lib.hid hrd
              have hr0H := Lib.hid hr0
              clear hrb hrD hrd hr0
              go_upto_region 38 with (go_at_call 30; refine (cS _).mono ?_; rintro e w17 ⟨xS, cS', rfl, oS, hb17⟩)
              have hz17 := hb17.size
              have b17 := Qtrans hb17 (by omega) b16
              have sR17 := isStrs_below sR16 (Nat.le_refl _) hb17
              clear hb17 cS b16 sR16
              have k18 : (w17.alloc (.cells #[.slice xS r cS'] 25)).cell? ⟨w17.heap.size, 0, none⟩ = some (.slice xS r cS') := by simp [go_sem]
              have hb18 : Below w17.heap.size w17 (w17.alloc (.cells #[.slice xS r cS'] 25)) := (Below.refl _ w17).alloc (Nat.le_refl _) _
              have sR18 := isStrs_below sR17 (Nat.le_refl _) hb18
              have hS18 : rb = true → r = q ∧ sB D = true ∧ IsStrs (w17.alloc (.cells #[.slice xS r cS'] 25)) xS q cS' D := fun e => by
                obtain ⟨e1, e2⟩ := hrdH.out e
                have e3 := hr0H.out
                rw [e1, hq] at e3
                subst e3
                rw [e1] at oS
                exact ⟨rfl, e2, isStrs_below (rowS_strs' oS hDs) (Nat.le_refl _) hb18⟩
              have hS18H := Lib.hid hS18
              have l18 : w17.heap.size < (w17.alloc (.cells #[.slice xS r cS'] 25)).heap.size := by simp
              obtain ⟨w18, hw18⟩ : ∃ W, w17.alloc (.cells #[.slice xS r cS'] 25) = W := ⟨_, rfl⟩
              rw [hw18] at k18 hb18 sR18 hS18H l18 ⊢
              have hz18 := hb18.size
              have b18 := Qtrans hb18 (by omega) b17
              clear hS18 hb18 sR17 b17 oS hw18
              go_cut [223] from 211 to 223 (fun v wq => v = .bool false ∧ Below w18.heap.size w18 wq)
              case first =>
                cases rb
                · clear hS18H
                  go_wp2_with fail
                  go_meet
                  exact ⟨rfl, Below.refl _ _⟩
                · obtain ⟨e1, e2, e3⟩ := hS18H.out rfl
                  subst e1
                  have cE := equal_any xS xR r cS' cR' D w18 e3 sR18 (by omega)
                  have cO := implSubstOk_any xS r cS' D w18 e3 (by omega)
                  rw [e2] at cO
                  clear hS18H e2 e3 sR18
                  go_wp2_with (first | (go_at_call 31; refine cE.mono ?_; rintro e w19 ⟨rfl, rfl⟩) | (go_at_call 32; refine cO.mono ?_; rintro e w20 ⟨rfl, hb20⟩))
                  go_meet
                  exact ⟨rfl, hb20⟩
              case rest =>
                rename World => w19
                obtain ⟨rfl, hb19⟩ := hcut
                have hz19 := hb19.size
                have b19 := Qtrans hb19 (by omega) b18
                have cC := fun w => implCR_any s 2 w (by omega)
                have cG := fun w => implFacs_any s 2 w (by omega)
                have hmm := facsL_len s 2
                have hgs := facsL_size s 2
                have hcl : (crL s 2).length = (facsL s 2).length := crk_len _ _ _ (Nat.le_refl _)
                have hck : ∀ k, k < (facsL s 2).length → (crL s 2).getD k 0 = ((dd (R s ((facsL s 2).getD k ByteArray.empty))).length : Int) := fun k hk => by
                  unfold crL crk
                  rw [List.take_length, List.getD_eq_getElem?_getD, List.getElem?_map, List.getD_eq_getElem?_getD, List.getElem?_eq_getElem hk]; rfl
                rw [hcl] at cC
                obtain ⟨Cc, hCc⟩ : ∃ l, crL s 2 = l := ⟨_, rfl⟩
                obtain ⟨G, hG⟩ : ∃ l, facsL s 2 = l := ⟨_, rfl⟩
                rw [hCc, hG] at cC
                rw [hCc] at hcl
                rw [hCc, hG] at hck
                rw [hG] at cG hmm hgs hcl
                obtain ⟨mm, hmmE⟩ : ∃ k, G.length = k := ⟨_, rfl⟩
                rw [hmmE] at cC cG hmm hck hcl
                have hckH := Lib.hid hck
                have hclH := Lib.hid hcl
                have hmmH := Lib.hid hmmE
                clear hb19 b18 hCc hG hck hcl hmmE sR18 hS18H k18
                go_wp2_with (first | (go_at_call 33; refine (cC _).mono ?_; rintro e w20 ⟨xC, cC', rfl, oC, hb20⟩) | (go_at_call 34; refine (cG _).mono ?_; rintro e w21 ⟨xG, cG', rfl, oG, hb21⟩))
                have hz20 := hb20.size
                have hz21 := hb21.size
                have b21 := Qtrans hb21 (by omega) (Qtrans hb20 (by omega) b19)
                have sG : IsStrs w21 xG mm cG' G := by
                  exact rowS_strs' oG (fun z hz => by have := hgs z hz; unfold maxLen; omega)
                have kC : Hid (∀ k, k < mm → ∃ g, xC = some ⟨g, 0, none⟩ ∧ g < w21.heap.size ∧ w21.cell? ⟨g, k, none⟩ = some (.int .i64 (Cc.getD k 0))) := fun k hk => by
                  obtain ⟨g, rfl⟩ : ∃ g, xC = some ⟨g, 0, none⟩ := by
                    rcases oC.2 with ⟨_, h0⟩ | ⟨g, c, cur, e, _⟩
                    · omega
                    · simp only [Value.slice.injEq] at e
                      exact ⟨g, e.1⟩
                  have hlt := (oC.lt g rfl).2
                  refine ⟨g, rfl, by omega, ?_⟩
                  rw [(hb21.cell (p := ⟨g, k, none⟩) hlt), own_cell oC k hk]
                  unfold iv
                  rw [List.getElem?_map, List.getD_eq_getElem?_getD, List.getElem?_eq_getElem (by rw [hclH.out]; exact hk)]; rfl
                clear hb20 hb21 b19 oC oG
                go_loopw [235] (fun kk wr => ∃ k : Nat, k ≤ mm ∧ kk = .int .i64 k ∧ Below w21.heap.size w21 wr) (fun kk _ => mm - (intOf kk).toNat)
                case atStart => exact ⟨0, by omega, rfl, by (repeat (first | with_reducible exact Below.refl _ _ | assumption | with_reducible refine Qdrew ?_ | with_reducible refine QdrewN ?_ | ((with_reducible refine Qset ?_ ?_); exact (by ((try simp only [World.size_alloc, World.size_setCell, World.size_drew, size_drewN]); (try dsimp only); omega))) | ((with_reducible refine Qalloc ?_ ?_); exact (by ((try simp only [World.size_alloc, World.size_setCell, World.size_drew, size_drewN]); (try dsimp only); omega))) | refine Qtrans (by assumption) (by ((try simp only [World.size_alloc, World.size_setCell, World.size_drew, size_drewN]); (try dsimp only); omega)) ?_))⟩
                case round =>
                  obtain ⟨k, hk, rfl, hbw3⟩ := hrel
                  have hzw3 := hbw3.size
                  by_cases hlt3 : k < mm
                  · obtain ⟨gC, rfl, hgC, hcC⟩ := kC.out k hlt3
                    obtain ⟨bG, oG, rfl, hbG, hcG⟩ := isStrs_cell sG (by omega)
                    have r1 := (hbw3.cell (p := ⟨gC, k, none⟩) hgC).trans hcC
                    have r2 := (hbw3.cell (p := ⟨bG, oG + k, none⟩) hbG).trans (hcG k hlt3)
                    rw [hckH.out k hlt3] at r1
                    have hzs : (G.getD k ByteArray.empty).size ≤ s.size := hgs _ (getD_mem (by rw [hmmH.out]; exact hlt3))
                    obtain ⟨z, hz⟩ : ∃ z, G.getD k ByteArray.empty = z := ⟨_, rfl⟩
                    rw [hz] at r1 r2 hzs
                    have cW := fun w => implReturns_any s z w (by omega) (by omega)
                    obtain ⟨dn, hdn⟩ : ∃ d, (dd (R s z)).length = d := ⟨_, rfl⟩
                    rw [hdn] at r1 cW
                    have hgCw : gC < wr.heap.size := by omega
                    have j0 : (0 : Int) ≤ (k : Int) := by omega
                    have j1 : (k : Int) < (mm : Int) := by omega
                    have j2 : IntKind.i64.wrap ((k : Int) + 1) = (k : Int) + 1 := IntWalk.i64_in _ (by omega)
                    clear hcC hcG hz hdn sG kC
                    go_wp2_with fail
                    go_region_held3 (fun wx => (∀ bk ofs, bk < wr.heap.size → wx.cell? ⟨bk, ofs, none⟩ = (wr).cell? ⟨bk, ofs, none⟩) ∧ Below (wr.heap.size) (wr) wx) ((refine stays ?_; ((repeat (first | with_reducible exact Below.refl _ _ | assumption | with_reducible refine Qdrew ?_ | with_reducible refine QdrewN ?_ | ((with_reducible refine Qset ?_ ?_); exact (by ((try simp only [World.size_alloc, World.size_setCell, World.size_drew, size_drewN]); (try dsimp only); omega))) | ((with_reducible refine Qalloc ?_ ?_); exact (by ((try simp only [World.size_alloc, World.size_setCell, World.size_drew, size_drewN]); (try dsimp only); omega))) | refine Qtrans (by assumption) (by ((try simp only [World.size_alloc, World.size_setCell, World.size_drew, size_drewN]); (try dsimp only); omega)) ?_)) <;> (go_split_ands; assumption)))) (first | (go_at_call 22; with_reducible refine (cW _).mono ?_; rintro e w22 ⟨xx, cc', rfl, _, hb22⟩; obtain ⟨hc22, hf22⟩ := bcell hb22; have hl22 := ltW hb22; have hz22 := hb22.size; (try simp only [World.size_drew] at hz22)))
                    go_wp2_with fail
                    exact ⟨⟨k + 1, by omega, by go_num, Qtrans hb22 (by simp; omega) (Qdrew hbw3)⟩, by simp [intOf]; omega⟩
                  · obtain rfl : mm = k := by omega
                    have j4 : ¬ (mm : Int) < (mm : Int) := by omega
                    go_wp2_with fail
                    go_ret
                    exact ⟨rfl, Qtrans hbw3 (by omega) b21⟩
end Go.Proofs.Ytilbhingfnjppab
