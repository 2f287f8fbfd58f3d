/- The law on substitutions: the walk. -/
import Derived.Test.YtilbhingfnjppaaDoorSbP
import Derived.Test.YtilbhingfnjppaaDoorDrD
import Derived.Deep.QuietTactic
set_option linter.unusedSimpArgs false
set_option linter.unusedVariables false
namespace Go.Proofs.YtilbhingfnjppaaDoor
open Go.RowKit
set_option maxRecDepth 20000 in
set_option maxHeartbeats 1000000 in
theorem Thue_any (gm : Int) (w : World) (hgm : w.cell? ⟨0, 0, none⟩ = some (.int .i64 gm)) :
    Calls Tryd.prog 21 #[.string ⟨#[116, 104, 117, 101]⟩] w fun e w' => ∃ x cap, e = .returned (.tuple #[.agg #[.slice x 2 cap], .bool true]) ∧ IsStrs w' x 2 cap TH ∧ Below w.heap.size w w' := by
  have hg0 : 0 < w.heap.size := World.block_lt_of_cell? w _ hgm
  have hb0 : Below w.heap.size w (w.alloc (.cells #[.slice none 0 0] 27)) := (Below.refl _ w).alloc (Nat.le_refl _) _
  have hgm' := (hb0.cell (p := ⟨0, 0, none⟩) hg0).trans hgm
  have n44 := no44 sOk_TH
  have hP : Calls Tryd.prog 15 #[.string ⟨#[97, 98, 44, 98, 97]⟩] (w.alloc (.cells #[.slice none 0 0] 27)) fun e w' => ∃ x cap, e = .returned (.tuple #[.agg #[.slice x 2 cap], .bool true]) ∧ w'.ownsRow (w.alloc (.cells #[.slice none 0 0] 27)).heap.size 9 1 (.slice x 2 cap) 2 (sv TH) ∧ IsStrs w' x 2 cap TH ∧ Below (w.alloc (.cells #[.slice none 0 0] 27)).heap.size (w.alloc (.cells #[.slice none 0 0] 27)) w' :=
    ParseSubst_any ttext TH gm _ hgm' (by decide) (by rw [← jn_TH]; exact split_jn TH (by simp [TH]) n44) (by rw [← jn_TH]; exact count_jn (by simp [TH]) n44) sOk_TH
  have hf1 : ((⟨#[116, 104, 117, 101]⟩ : ByteArray).toList == (⟨#[102, 105, 98, 111, 110, 97, 99, 99, 105]⟩ : ByteArray).toList) = false := by rw [ByteArray.toList_eq, ByteArray.toList_eq]; decide
  have hf2 : ((⟨#[116, 104, 117, 101]⟩ : ByteArray).toList == (⟨#[116, 104, 117, 101]⟩ : ByteArray).toList) = true := by simp
  clear hgm hgm' n44
  go_enter Tryd.func21, Tryd.ntmps21
  go_wp2_with (go_at_call 15; refine hP.mono ?_; rintro e w1 ⟨x, cap, rfl, ho, hst, hb1⟩; obtain ⟨hc1, hf1⟩ := bcell hb1; have hl1 := ltW hb1)
  have hz1 := hb1.size
  simp only [World.size_alloc] at hz1
  have o3 := ownsRow_setCell_below (a := ⟨w.heap.size, 0, none⟩) ho (by simp) (.slice x 2 cap)
  have hsm : ∀ z ∈ TH, z.size ≤ maxLen := fun z hz => by
    have : z = ⟨#[97, 98]⟩ ∨ z = ⟨#[98, 97]⟩ := by simpa [TH] using hz
    rcases this with rfl | rfl <;> decide
  have s3 : IsStrs (w1.setCell ⟨w.heap.size, 0, none⟩ (.slice x 2 cap)) x 2 cap TH := isStrs_ownAny o3 rfl hsm
  refine bodyPost_ret (v := .tuple #[.agg #[.slice x 2 cap], .bool true]) (by simp [results, Tryd.results21, go_sem, csame, cset, *]) rfl ⟨x, cap, rfl, s3, by (repeat (first | with_reducible exact Below.refl _ _ | assumption | with_reducible refine Qdrew ?_ | with_reducible refine QdrewN ?_ | ((with_reducible refine Qset ?_ ?_); exact (by ((try simp only [World.size_alloc, World.size_setCell, World.size_drew, size_drewN]); (try dsimp only); omega))) | ((with_reducible refine Qalloc ?_ ?_); exact (by ((try simp only [World.size_alloc, World.size_setCell, World.size_drew, size_drewN]); (try dsimp only); omega))) | refine Qtrans (by assumption) (by ((try simp only [World.size_alloc, World.size_setCell, World.size_drew, size_drewN]); (try dsimp only); omega)) ?_))⟩
theorem rB_ofR {w : World} {x : Option Addr} {n cap : Nat} {zs : List Int} (h : IsRow .u8 w x n cap zs) : RB w.heap.size w x n := by
  obtain ⟨h1, h2, h3, h4, h5⟩ := h
  unfold maxLen at h3
  refine ⟨by omega, ?_⟩
  rcases h5 with h5 | ⟨b, off, e, hb, hj⟩
  · exact .inl h5
  · refine .inr ⟨b, off, e, hb, fun j q => ?_⟩
    have hm : zs.getD j 0 ∈ zs := by
      rw [List.getD_eq_getElem?_getD, List.getElem?_eq_getElem (by omega)]; exact List.getElem_mem _
    have hw := h4 _ hm
    simp [Lit.wf, IntKind.min, IntKind.max, IntKind.signed, IntKind.bits] at hw
    exact ⟨_, hw.1, hw.2, hj j q⟩
set_option maxRecDepth 20000 in
set_option maxHeartbeats 8000000 in
theorem FnSubsts_law (wc : World) (px : Option Addr) (n cap : Nat) (cz : List Int) (hrow : IsRow .u8 wc px n cap cz) (gm : Int) (hgm : wc.cell? ⟨0, 0, none⟩ = some (.int .i64 gm)) :
    Calls Tryd.prog 4 #[.slice px n cap] wc fun e w' => e = .returned (.bool true) ∧ Below wc.heap.size wc w' := by
  have hr := rB_ofR hrow
  have hn := hr.1
  have hg0 : 0 < wc.heap.size := World.block_lt_of_cell? wc _ hgm
  clear hrow
  by_cases hbig : (1048576 : Int) < (n : Int)
  · clear hgm
    go_enter Tryd.func4, Tryd.ntmps4
    go_wp2
    go_ret
    exact ⟨rfl, by (repeat (first | with_reducible exact Below.refl _ _ | assumption | with_reducible refine Qdrew ?_ | with_reducible refine QdrewN ?_ | ((with_reducible refine Qset ?_ ?_); exact (by ((try simp only [World.size_alloc, World.size_setCell, World.size_drew, size_drewN]); (try dsimp only); omega))) | ((with_reducible refine Qalloc ?_ ?_); exact (by ((try simp only [World.size_alloc, World.size_setCell, World.size_drew, size_drewN]); (try dsimp only); omega))) | refine Qtrans (by assumption) (by ((try simp only [World.size_alloc, World.size_setCell, World.size_drew, size_drewN]); (try dsimp only); omega)) ?_))⟩
  have hgmH := Lib.hid hgm
  have hrH := Lib.hid hr
  clear hgm
  go_enter Tryd.func4, Tryd.ntmps4
  go_upto_region 4 with (go_at_call 9; refine (MakeSubst_any wc.heap.size px n cap 0 (by omega) wc (Nat.le_refl _) hr).mono ?_; rintro e w1 ⟨y, cy, zs, rfl, hS, st1, _, hb1⟩)
  have hz1 := hb1.size
  have h4 := (s_of hS).1
  have bW : Below wc.heap.size wc (w1.alloc (.cells #[.slice y zs.length cy] 27)) := hb1.alloc hz1 _
  have st := isStrs_below st1 (Nat.le_refl _) ((Below.refl _ w1).alloc (Nat.le_refl _) (.cells #[.slice y zs.length cy] 27))
  have kW : (w1.alloc (.cells #[.slice y zs.length cy] 27)).cell? ⟨w1.heap.size, 0, none⟩ = some (.slice y zs.length cy) := by simp [go_sem]
  have hW : w1.heap.size < (w1.alloc (.cells #[.slice y zs.length cy] 27)).heap.size := by simp
  obtain ⟨W, hWe⟩ : ∃ W, w1.alloc (.cells #[.slice y zs.length cy] 27) = W := ⟨_, rfl⟩
  rw [hWe] at bW st kW hW ⊢
  have zW := bW.size
  have hbw : Below W.heap.size W W := Below.refl _ W
  have hzw : W.heap.size ≤ W.heap.size := Nat.le_refl _
  obtain ⟨b0, hb0e⟩ : ∃ b, w1.heap.size = b := ⟨_, rfl⟩
  rw [hb0e] at kW hW ⊢
  have cMO : ∀ (m : Nat), m ≤ 1000 → ∀ w, Below W.heap.size W w → Calls Tryd.prog 10 #[.slice px n cap, .int .i64 m, .agg #[.slice y zs.length cy], .int .i64 6] w fun e w' => ∃ v : ByteArray, e = .returned (.string v) ∧ v.size ≤ 6 ∧ letP zs.length v ∧ Below w.heap.size w w' := fun m hm w hb => by
    have hb2 := Qtrans hb zW bW
    refine (MakeOver_any wc.heap.size px n cap m hm y zs.length cy (by omega) (by omega) w hb2.size (rB_below hrH.out hb2)).mono fun e w' h => ?_
    obtain ⟨l, h1, h2, h3, h5⟩ := h
    exact ⟨_, h1, by show l.toArray.size ≤ 6; simpa using h2, letP_of h4.2 h3, h5⟩
  have cM30 := cMO 30 (by omega)
  have cM50 := cMO 50 (by omega)
  clear cMO st1 hb1 hWe hr hz1 hb0e
  go_upto_region 5 with (go_at_call 10; refine (cM30 _ hbw).mono ?_; rintro e wq ⟨v, rfl, hvs, hvl, hbq⟩; have hbw := Qtrans hbq hzw hbw; have hzw := hbw.size; obtain ⟨hcq, hfq⟩ := bcell hbw; have hlq := ltW hbw)
  go_upto_region 6 with (go_at_call 10; refine (cM50 _ hbw).mono ?_; rintro e wr ⟨x, rfl, hxs, hxl, hbr⟩; have hbw := Qtrans hbr hzw hbw; have hzw := hbw.size; obtain ⟨hcq, hfq⟩ := bcell hbw; have hlq := ltW hbw)
  obtain ⟨N, hN⟩ : ∃ N, zs.length = N := ⟨_, rfl⟩
  have cA : ∀ (d : ByteArray), letP N d → d.size ≤ 48 → ∀ w, Below W.heap.size W w → Calls Tryd.prog 11 #[.agg #[.slice y N cy], .string d] w fun e w' => e = .returned (.tuple #[.string (img zs d), .bool true]) ∧ Below w.heap.size w w' := fun d hd hds w hb => by
    have := implApply_any y N cy zs d w (isStrs_below (by rw [← hN]; exact st) (Nat.le_refl _) hb) (by omega) (by omega)
    rwa [itO_one hS (by rw [hN]; exact hd) hds, some_oV] at this
  rw [hN] at st kW h4 hvl hxl ⊢
  have hNH := Lib.hid hN
  have e1 := img_app zs v x
  have sv1 := img_sz hS v
  have sx1 := img_sz hS x
  have lv1 := img_let hS v
  rw [hN] at lv1
  have cAv := cA v hvl (by omega)
  have cAx := cA x hxl (by omega)
  have svx : (v ++ x).size = v.size + x.size := ByteArray.size_append
  have cAvx := cA (v ++ x) (letP_app hvl hxl) (by omega)
  have run1 : ∀ w, (Op.stringOp .add v x).run Tryd.prog w = .ok (.string (v ++ x)) w := fun w => run_string_add_sum w _ _ (by omega)
  have run2 : ∀ w, (Op.stringOp .add (img zs v) (img zs x)).run Tryd.prog w = .ok (.string (img zs (v ++ x))) w := fun w => by rw [e1]; exact run_string_add_sum w _ _ (by omega)
  have hturn := img_turn zs v
  have hcomp := img_comp (zs := zs) (v := v) (by rw [hN]; exact hvl)
  rw [hN] at hturn hcomp
  have i2 := itO_two hS (v := v) (by rw [hN]; exact hvl) hvs
  have i0 := itO_zero hS (v := v) (by rw [hN]; exact hvl) hvs
  have hcode := fun (h : cdB zs = true) => cpV_code hS h (v := v) (by rw [hN]; exact hvl) hvs
  have huni := fun (h : 0 < un zs) => img_uni h (v := v) (by rw [hN]; exact hvl)
  have i2H := Lib.hid i2
  have i0H := Lib.hid i0
  have hcodeH := Lib.hid hcode
  have huniH := Lib.hid huni
  have hturnH := Lib.hid hturn
  have hcompH := Lib.hid hcomp
  have hvlH := Lib.hid hvl
  have hxlH := Lib.hid hxl
  have cAH := Lib.hid cA
  have hSH := Lib.hid hS
  clear e1 hturn hcomp i2 i0 hcode huni hxl cM30 cM50 hN
  obtain ⟨vx, hvx⟩ : ∃ z, v ++ x = z := ⟨_, rfl⟩
  rw [hvx] at cAvx run1 run2
  obtain ⟨avx, havx⟩ : ∃ z, img zs vx = z := ⟨_, rfl⟩
  rw [havx] at cAvx run2
  obtain ⟨av, hav⟩ : ∃ z, img zs v = z := ⟨_, rfl⟩
  rw [hav] at cAv run2 lv1 sv1 i2H hcodeH huniH hturnH hcompH
  obtain ⟨ax, hax⟩ : ∃ z, img zs x = z := ⟨_, rfl⟩
  rw [hax] at cAx run2 sx1
  have hxx : (avx.toList == avx.toList) = true := by simp
  have lv1H := Lib.hid lv1
  clear hvx havx hax cA lv1 hvl hS
  go_upto_region 11 with (first | (go_at_call 11; (with_reducible refine (cAv _ hbw).mono ?_); rintro e wq ⟨rfl, hbq⟩; have hbw := Qtrans hbq hzw hbw; have hzw := hbw.size; obtain ⟨hcq, hfq⟩ := bcell hbw; have hlq := ltW hbw) | (go_at_call 11; (with_reducible refine (cAx _ hbw).mono ?_); rintro e wq ⟨rfl, hbq⟩; have hbw := Qtrans hbq hzw hbw; have hzw := hbw.size; obtain ⟨hcq, hfq⟩ := bcell hbw; have hlq := ltW hbw) | (go_at_call 11; (with_reducible refine (cAvx _ hbw).mono ?_); rintro e wq ⟨rfl, hbq⟩; have hbw := Qtrans hbq hzw hbw; have hzw := hbw.size; obtain ⟨hcq, hfq⟩ := bcell hbw; have hlq := ltW hbw))
  clear cAx cAvx run1 run2 hxx
  -- turned
  have cT := fun w h => TurnSubst_any y N cy zs w h hSH.out
  go_upto_region 12 with (go_at_call 12; refine (cT _ (isStrs_below st (Nat.le_refl _) hbw)).mono ?_; rintro e wq ⟨y2, cy2, rfl, st2, hbq⟩; have hbw := Qtrans hbq hzw hbw; have hzw := hbw.size)
  have hA2 := hbw.alloc hzw (.cells #[.slice y2 N cy2] 27)
  have hL2 : Below wq.heap.size wq (wq.alloc (.cells #[.slice y2 N cy2] 27)) := (Below.refl _ wq).alloc (Nat.le_refl _) _
  have stS := isStrs_below st (Nat.le_refl _) hA2
  have stT := isStrs_below st2 (Nat.le_refl _) hL2
  have k0 := (hA2.cell (p := ⟨b0, 0, none⟩) hW).trans kW
  have k2 : (wq.alloc (.cells #[.slice y2 N cy2] 27)).cell? ⟨wq.heap.size, 0, none⟩ = some (.slice y2 N cy2) := by simp [go_sem]
  have l2 : wq.heap.size < (wq.alloc (.cells #[.slice y2 N cy2] 27)).heap.size := by simp
  have l0 : b0 < (wq.alloc (.cells #[.slice y2 N cy2] 27)).heap.size := by simp; omega
  have bT := Qtrans hA2 zW bW
  obtain ⟨W2, hWe⟩ : ∃ W2, wq.alloc (.cells #[.slice y2 N cy2] 27) = W2 := ⟨_, rfl⟩
  rw [hWe] at stS stT k0 k2 l2 l0 bT ⊢
  obtain ⟨b2, hb2e⟩ : ∃ b, wq.heap.size = b := ⟨_, rfl⟩
  rw [hb2e] at k2 l2 ⊢
  clear hA2 hL2 st st2 kW hW bW hWe hb2e hbw hzw hbq zW cAv cT
  have zT := bT.size
  -- the turned word
  have cF := flip_any v W2.drew (by omega)
  have hST : sB (rvs zs N) = true := by have := sB_rvs hSH.out; rwa [hNH.out] at this
  have hrl : (rvs zs N).length = N := rvs_len (by rw [hNH.out]; exact Nat.le_refl _)
  have lvr : letP N (rev v) := letP_rev h4.2 hvlH.out
  have svr := rev_size v
  have cAt : ∀ w, Below W2.heap.size W2 w → Calls Tryd.prog 11 #[.agg #[.slice y2 N cy2], .string (rev v)] w fun e w' => e = .returned (.tuple #[.string (rev av), .bool true]) ∧ Below w.heap.size w w' := fun w hb => by
    have := implApply_any y2 N cy2 (rvs zs N) (rev v) w (isStrs_below stT (Nat.le_refl _) hb) (by omega) (by omega)
    rwa [itO_one hST (by rw [hrl]; exact lvr) (by omega), some_oV, hturnH.out] at this
  have cFa := fun w => flip_any av w (by omega)
  obtain ⟨vr, hvr⟩ : ∃ z, rev v = z := ⟨_, rfl⟩
  rw [hvr] at cF cAt
  obtain ⟨ar, har⟩ : ∃ z, rev av = z := ⟨_, rfl⟩
  rw [har] at cAt cFa
  have lvrH := Lib.hid lvr
  have hSTH := Lib.hid hST
  have hrlH := Lib.hid hrl
  clear lvr hvr har hST hrl
  go_region_held3 (fun wx => (∀ bk ofs, bk < W2.heap.size → wx.cell? ⟨bk, ofs, none⟩ = (W2).cell? ⟨bk, ofs, none⟩) ∧ Below (W2.heap.size) (W2) wx) ((refine stays ?_; ((repeat (first | with_reducible exact Below.refl _ _ | assumption | with_reducible refine Qdrew ?_ | with_reducible refine QdrewN ?_ | ((with_reducible refine Qset ?_ ?_); exact (by ((try simp only [World.size_alloc, World.size_setCell, World.size_drew, size_drewN]); (try dsimp only); omega))) | ((with_reducible refine Qalloc ?_ ?_); exact (by ((try simp only [World.size_alloc, World.size_setCell, World.size_drew, size_drewN]); (try dsimp only); omega))) | refine Qtrans (by assumption) (by ((try simp only [World.size_alloc, World.size_setCell, World.size_drew, size_drewN]); (try dsimp only); omega)) ?_)) <;> (go_split_ands; assumption)))) (first | (go_at_call 13; (with_reducible refine cF.mono ?_); rintro e w6 ⟨rfl, hb6⟩; obtain ⟨hc6, hf6⟩ := bcell hb6; have hl6 := ltW hb6; have hz6 := hb6.size; (try simp only [World.size_drew] at hz6); have hb6' : Below W2.heap.size W2 w6 := Qtrans hb6 (by simp) (Qdrew (Below.refl _ W2))) | (go_at_call 11; (with_reducible refine (cAt _ hb6').mono ?_); rintro e w7 ⟨rfl, hb7⟩; obtain ⟨hc7, hf7⟩ := bcell hb7; have hl7 := ltW hb7; have hz7 := hb7.size))
  have hbw := Qtrans hb7 (by omega) hb6'
  have hzw := hbw.size
  obtain ⟨hcq, hfq⟩ := bcell hbw
  have hlq := ltW hbw
  have k2w := (hbw.cell (p := ⟨b2, 0, none⟩) l2).trans k2
  clear cF cAt hb6 hb7 hc6 hf6 hl6 hc7 hf7 hl7 hb6'
  have cT2 := fun w h => TurnSubst_any y2 N cy2 (rvs zs N) w h hSTH.out
  have hrr : rvs (rvs zs N) N = zs := by have := rvs_rvs zs; rwa [hNH.out] at this
  rw [hrr] at cT2
  go_upto_region 14 with (go_at_call 12; refine (cT2 _ (isStrs_below stT (Nat.le_refl _) hbw)).mono ?_; rintro e wq ⟨y3, cy3, rfl, st3, hbq⟩; have hbw := Qtrans hbq hzw hbw; have hzw := hbw.size)
  have hA := hbw.alloc hzw (.cells #[.slice y3 N cy3] 27)
  have hL : Below wq.heap.size wq (wq.alloc (.cells #[.slice y3 N cy3] 27)) := (Below.refl _ wq).alloc (Nat.le_refl _) _
  have stS' := isStrs_below stS (Nat.le_refl _) hA
  have stU' := isStrs_below st3 (Nat.le_refl _) hL
  have k0' := (hA.cell (p := ⟨b0, 0, none⟩) l0).trans k0
  have l0' : b0 < (wq.alloc (.cells #[.slice y3 N cy3] 27)).heap.size := by simp; omega
  have kb3 : (wq.alloc (.cells #[.slice y3 N cy3] 27)).cell? ⟨wq.heap.size, 0, none⟩ = some (.slice y3 N cy3) := by simp [go_sem]
  have lb3 : wq.heap.size < (wq.alloc (.cells #[.slice y3 N cy3] 27)).heap.size := by simp
  have bT3 := Qtrans hA zT bT
  obtain ⟨W3, hWe⟩ : ∃ V, (wq.alloc (.cells #[.slice y3 N cy3] 27)) = V := ⟨_, rfl⟩
  rw [hWe] at stS' stU' k0' l0' kb3 lb3 bT3 ⊢
  obtain ⟨b3, hbe⟩ : ∃ b, wq.heap.size = b := ⟨_, rfl⟩
  rw [hbe] at kb3 lb3 ⊢
  clear hA hL stS stT st3 k0 k2 l2 l0 hWe hbe hbw hzw hbq cT2 hrr k2w bT zT hcq hfq hlq
  have zT3 := bT3.size
  have hbw : Below W3.heap.size W3 W3 := Below.refl _ W3
  have hzw : W3.heap.size ≤ W3.heap.size := Nat.le_refl _
  have cFm : ∀ w, Below W3.heap.size W3 w → Calls Tryd.prog 14 #[.agg #[.slice y N cy]] w fun e w' => e = .returned (.string (jn zs)) ∧ Below w.heap.size w w' := fun w hb => FormatSubst_any y N cy zs w (isStrs_below stS' (Nat.le_refl _) hb) hSH.out
  have cFu : ∀ w, Below W3.heap.size W3 w → Calls Tryd.prog 14 #[.agg #[.slice y3 N cy3]] w fun e w' => e = .returned (.string (jn zs)) ∧ Below w.heap.size w w' := fun w hb => FormatSubst_any y3 N cy3 zs w (isStrs_below stU' (Nat.le_refl _) hb) hSH.out
  have n44 := no44 hSH.out
  have hne : zs ≠ [] := fun e => by have := hNH.out; rw [e] at this; simp at this; omega
  have hsp := split_jn zs hne n44
  have hct := count_jn hne n44
  obtain ⟨f, hf⟩ : ∃ f, jn zs = f := ⟨_, rfl⟩
  have hfs : f.size ≤ 1000 := by rw [← hf]; exact jn_small hSH.out
  have hf'H := Lib.hid hf
  rw [hf] at cFm cFu hsp hct
  have hff : (f.toList == f.toList) = true := by simp
  have har2 : (ar.toList == ar.toList) = true := by simp
  clear n44 hne hf
  go_upto_region 17 with (first | (go_at_call 14; (with_reducible refine (cFm _ hbw).mono ?_); rintro e wq ⟨rfl, hbq⟩; have hbw := Qtrans hbq hzw hbw; have hzw := hbw.size; obtain ⟨hcq, hfq⟩ := bcell hbw; have hlq := ltW hbw) | (go_at_call 14; (with_reducible refine (cFu _ hbw).mono ?_); rintro e wq ⟨rfl, hbq⟩; have hbw := Qtrans hbq hzw hbw; have hzw := hbw.size; obtain ⟨hcq, hfq⟩ := bcell hbw; have hlq := ltW hbw) | (go_at_call 13; (with_reducible refine (cFa _).mono ?_); rintro e wq ⟨rfl, hbq⟩; have hbw := Qtrans hbq hzw hbw; have hzw := hbw.size; obtain ⟨hcq, hfq⟩ := bcell hbw; have hlq := ltW hbw))
  have cP : ∀ w, Below W3.heap.size W3 w → Calls Tryd.prog 15 #[.string f] w fun e w' => ∃ x cap, e = .returned (.tuple #[.agg #[.slice x N cap], .bool true]) ∧ IsStrs w' x N cap zs ∧ Below w.heap.size w w' := fun w hb => by
    have hT := Qtrans hb zT3 bT3
    have := ParseSubst_any f zs gm w ((hT.cell (p := ⟨0, 0, none⟩) hg0).trans hgmH.out) hfs hsp hct hSH.out
    rw [hNH.out] at this
    exact this.mono fun e w' h => by
      obtain ⟨x, c, h1, _, h3, h5⟩ := h
      exact ⟨x, c, h1, h3, h5⟩
  have hspH := Lib.hid hsp
  clear hsp hct har2 cFa cFu
  go_upto_region 18 with (go_at_call 15; refine (cP _ hbw).mono ?_; rintro e wq ⟨y4, cy4, rfl, st4, hbq⟩; have hbw := Qtrans hbq hzw hbw; have hzw := hbw.size)
  have hA := hbw.alloc hzw (.cells #[.slice y4 N cy4] 27)
  have hL : Below wq.heap.size wq (wq.alloc (.cells #[.slice y4 N cy4] 27)) := (Below.refl _ wq).alloc (Nat.le_refl _) _
  have stS4 := isStrs_below stS' (Nat.le_refl _) hA
  have stP := isStrs_below st4 (Nat.le_refl _) hL
  have k04 := (hA.cell (p := ⟨b0, 0, none⟩) l0').trans k0'
  have l04 : b0 < (wq.alloc (.cells #[.slice y4 N cy4] 27)).heap.size := by simp; omega
  have kb4 : (wq.alloc (.cells #[.slice y4 N cy4] 27)).cell? ⟨wq.heap.size, 0, none⟩ = some (.slice y4 N cy4) := by simp [go_sem]
  have lb4 : wq.heap.size < (wq.alloc (.cells #[.slice y4 N cy4] 27)).heap.size := by simp
  have bT4 := Qtrans hA zT3 bT3
  obtain ⟨W4, hWe⟩ : ∃ V, (wq.alloc (.cells #[.slice y4 N cy4] 27)) = V := ⟨_, rfl⟩
  rw [hWe] at stS4 stP k04 l04 kb4 lb4 bT4 ⊢
  obtain ⟨b4, hbe⟩ : ∃ b, wq.heap.size = b := ⟨_, rfl⟩
  rw [hbe] at kb4 lb4 ⊢
  clear hA hL stS' stU' st4 k0' l0' kb3 lb3 hWe hbe hbw hzw hbq cP cFm bT3 zT3 hcq hfq hlq
  have zT4 := bT4.size
  have hbw : Below W4.heap.size W4 W4 := Below.refl _ W4
  have hzw : W4.heap.size ≤ W4.heap.size := Nat.le_refl _
  have cC := fun w h => ComposeSubst_any y y N cy cy zs zs w h hSH.out h hSH.out
  obtain ⟨qb, hqb⟩ : ∃ b, sB (cps zs zs N) = b := ⟨_, rfl⟩
  rw [hqb] at cC
  have hqbH := Lib.hid hqb
  clear hqb
  go_upto_region 19 with (go_at_call 16; refine (cC _ (isStrs_below stS4 (Nat.le_refl _) hbw)).mono ?_; rintro e wq ⟨y5, r5, cy5, rfl, st5, hbq⟩; have hbw := Qtrans hbq hzw hbw; have hzw := hbw.size)
  have hA := hbw.alloc hzw (.cells #[.slice y5 r5 cy5] 27)
  have hL : Below wq.heap.size wq (wq.alloc (.cells #[.slice y5 r5 cy5] 27)) := (Below.refl _ wq).alloc (Nat.le_refl _) _
  have stS5 := isStrs_below stS4 (Nat.le_refl _) hA
  have stP5 := isStrs_below stP (Nat.le_refl _) hA
  have k05 := (hA.cell (p := ⟨b0, 0, none⟩) l04).trans k04
  have l05 : b0 < (wq.alloc (.cells #[.slice y5 r5 cy5] 27)).heap.size := by simp; omega
  have k45 := (hA.cell (p := ⟨b4, 0, none⟩) lb4).trans kb4
  have l45 : b4 < (wq.alloc (.cells #[.slice y5 r5 cy5] 27)).heap.size := by simp; omega
  have kb5 : (wq.alloc (.cells #[.slice y5 r5 cy5] 27)).cell? ⟨wq.heap.size, 0, none⟩ = some (.slice y5 r5 cy5) := by simp [go_sem]
  have lb5 : wq.heap.size < (wq.alloc (.cells #[.slice y5 r5 cy5] 27)).heap.size := by simp
  have bT5 := Qtrans hA zT4 bT4
  have stQ : qb = true → r5 = N ∧ IsStrs (wq.alloc (.cells #[.slice y5 r5 cy5] 27)) y5 N cy5 (cps zs zs N) := fun e => ⟨(st5 e).1, isStrs_below (st5 e).2 (Nat.le_refl _) hL⟩
  obtain ⟨W5, hWe⟩ : ∃ V, (wq.alloc (.cells #[.slice y5 r5 cy5] 27)) = V := ⟨_, rfl⟩
  rw [hWe] at stQ stS5 stP5 k05 l05 k45 l45 kb5 lb5 bT5 ⊢
  obtain ⟨b5, hbe⟩ : ∃ b, wq.heap.size = b := ⟨_, rfl⟩
  rw [hbe] at kb5 lb5 ⊢
  have stQH := Lib.hid stQ
  clear hA hL stS4 stP st5 stQ k04 l04 kb4 lb4 hWe hbe hbw hzw hbq cC bT4 zT4
  have zT5 := bT5.size
  have hbw : Below W5.heap.size W5 W5 := Below.refl _ W5
  have hzw : W5.heap.size ≤ W5.heap.size := Nat.le_refl _
  obtain ⟨e2, he2⟩ : ∃ z, img zs av = z := ⟨_, rfl⟩
  rw [he2] at i2H hcompH
  have cI2 : ∀ w, Below W5.heap.size W5 w → Calls Tryd.prog 17 #[.agg #[.slice y N cy], .string v, .int .i64 2] w fun e w' => e = .returned (.tuple #[.string e2, .bool true]) ∧ Below w.heap.size w w' := fun w hb => by
    have := implIterate_any y N cy zs v 2 w (isStrs_below stS5 (Nat.le_refl _) hb) (by omega) (by omega)
    rwa [i2H.out, some_oV] at this
  have cFp : ∀ w, Below W5.heap.size W5 w → Calls Tryd.prog 14 #[.agg #[.slice y4 N cy4]] w fun e w' => e = .returned (.string f) ∧ Below w.heap.size w w' := fun w hb => by
    have := FormatSubst_any y4 N cy4 zs w (isStrs_below stP5 (Nat.le_refl _) hb) hSH.out
    rwa [hf'H.out] at this
  clear he2
  go_upto_if 150 with (first | (go_at_call 17; (with_reducible refine (cI2 _ hbw).mono ?_); rintro e wq ⟨rfl, hbq⟩; have hbw := Qtrans hbq hzw hbw; have hzw := hbw.size; obtain ⟨hcq, hfq⟩ := bcell hbw; have hlq := ltW hbw) | (go_at_call 14; (with_reducible refine (cFp _ hbw).mono ?_); rintro e wq ⟨rfl, hbq⟩; have hbw := Qtrans hbq hzw hbw; have hzw := hbw.size; obtain ⟨hcq, hfq⟩ := bcell hbw; have hlq := ltW hbw))
  have hbwH := Lib.hid hbw
  have k5w := (hbw.cell (p := ⟨b5, 0, none⟩) lb5).trans kb5
  have l5w : b5 < wq.heap.size := by omega
  clear cI2 cFp
  go_cut [25, 26] from 150 to 163 (fun _ _ wr => Below W5.heap.size W5 wr)
  case first =>
    cases qb
    · go_wp2_with fail
      go_meet
      exact hbwH.out
    · obtain ⟨rfl, stQ⟩ := stQH.out rfl
      have hcl : (cps zs zs r5).length = r5 := cps_len (by rw [hNH.out]; exact Nat.le_refl _)
      have cQ : Calls Tryd.prog 11 #[.agg #[.slice y5 r5 cy5], .string v] wq fun e w' => e = .returned (.tuple #[.string e2, .bool true]) ∧ Below wq.heap.size wq w' := by
        have := implApply_any y5 r5 cy5 (cps zs zs r5) v wq (isStrs_below stQ (Nat.le_refl _) hbw) (by omega) (by omega)
        rwa [itO_one hqbH.out (by rw [hcl]; exact hvlH.out) (by omega), some_oV, hcompH.out] at this
      have hee : (e2.toList == e2.toList) = true := by simp
      go_wp2_with (go_at_call 11; refine cQ.mono ?_; rintro e w7 ⟨rfl, hb7⟩)
      go_meet
      exact Qtrans hb7 hzw hbwH.out
  case rest =>
    rename World => w8
    have hbw := hcut
    have hzw := hbw.size
    obtain ⟨hcq, hfq⟩ := bcell hbw
    have hlq := ltW hbw
    have cI0 : ∀ w, Below W5.heap.size W5 w → Calls Tryd.prog 17 #[.agg #[.slice y N cy], .string v, .int .i64 0] w fun e w' => e = .returned (.tuple #[.string v, .bool true]) ∧ Below w.heap.size w w' := fun w hb => by
      have := implIterate_any y N cy zs v 0 w (isStrs_below stS5 (Nat.le_refl _) hb) (by omega) (by omega)
      rwa [i0H.out, some_oV] at this
    have cU : ∀ w, Below W5.heap.size W5 w → Calls Tryd.prog 18 #[.agg #[.slice y N cy]] w fun e w' => e = .returned (.int .i64 (un zs : Nat)) ∧ Below w.heap.size w w' := fun w hb => IsUniform_any y N cy zs w (isStrs_below stS5 (Nat.le_refl _) hb) hSH.out
    have hU8 := un_le hSH.out
    have cIC : ∀ w, Below W5.heap.size W5 w → Calls Tryd.prog 19 #[.agg #[.slice y N cy]] w fun e w' => e = .returned (.bool (cdB zs)) ∧ Below w.heap.size w w' := fun w hb => IsCode_any y N cy zs w (isStrs_below stS5 (Nat.le_refl _) hb) hSH.out
    have cCP : ∀ w, Below W5.heap.size W5 w → Calls Tryd.prog 20 #[.agg #[.slice y N cy], .string av] w fun e w' => e = .returned (.int .i64 (cpV zs av)) ∧ Below w.heap.size w w' := fun w hb => implCount_any y N cy zs av w (isStrs_below stS5 (Nat.le_refl _) hb) (by omega) (by omega)
    obtain ⟨U, hU⟩ : ∃ u, un zs = u := ⟨_, rfl⟩
    rw [hU] at cU hU8 huniH
    obtain ⟨C, hC⟩ : ∃ u, cdB zs = u := ⟨_, rfl⟩
    rw [hC] at cIC hcodeH
    obtain ⟨CP, hCP⟩ : ∃ u, cpV zs av = u := ⟨_, rfl⟩
    rw [hCP] at cCP hcodeH
    have hvv : (v.toList == v.toList) = true := by simp
    clear hU hC hCP hcut
    go_upto_region 28 with (first | (go_at_call 17; (with_reducible refine (cI0 _ hbw).mono ?_); rintro e wq ⟨rfl, hbq⟩; have hbw := Qtrans hbq hzw hbw; have hzw := hbw.size; obtain ⟨hcq, hfq⟩ := bcell hbw; have hlq := ltW hbw) | (go_at_call 18; (with_reducible refine (cU _ hbw).mono ?_); rintro e wq ⟨rfl, hbq⟩; have hbw := Qtrans hbq hzw hbw; have hzw := hbw.size; obtain ⟨hcq, hfq⟩ := bcell hbw; have hlq := ltW hbw))
    have hbwH := Lib.hid hbw
    clear cI0 cU
    go_cut [195] from 172 to 195 (fun t wr => t = .bool false ∧ Below W5.heap.size W5 wr)
    case first =>
      by_cases hU0 : U = 0
      · subst hU0
        go_wp2_with fail
        go_meet
        exact ⟨rfl, hbwH.out⟩
      · have g1 : (0 : Int) < (U : Int) := by omega
        have g2 := huniH.out (by omega)
        have g3 : IntKind.i64.wrap ((U : Int) * (v.size : Int)) = (av.size : Int) := by
          rw [g2, ← Int.natCast_mul, IntWalk.i64_in _ (by
            have : U * v.size ≤ 8 * 6 := Nat.mul_le_mul hU8 hvs
            omega)]
        have g4 : ¬ (U : Int) < 0 := by omega
        clear g2 hU0
        go_wp2_with fail
        go_meet
        exact ⟨rfl, hbwH.out⟩
    case rest =>
      rename World => w9
      clear hbw hzw hcq hfq hlq hbwH
      obtain ⟨rfl, hbw⟩ := hcut
      have hzw := hbw.size
      obtain ⟨hcq, hfq⟩ := bcell hbw
      have hlq := ltW hbw
      go_upto_region 30 with fail
      have hbwH := Lib.hid hbw
      go_cut [203] from 196 to 203 (fun t wr => t = .bool false ∧ Below W5.heap.size W5 wr)
      case first =>
        cases C
        · go_wp2_with (go_at_call 19; (with_reducible refine (cIC _ hbw).mono ?_); rintro e wq ⟨rfl, hbq⟩; have hbw := Qtrans hbq hzw hbw; have hzw := hbw.size; obtain ⟨hcq, hfq⟩ := bcell hbw; have hlq := ltW hbw)
          go_meet
          exact ⟨rfl, hbw⟩
        · have hcp := hcodeH.out rfl
          subst hcp
          go_wp2_with (first | (go_at_call 19; (with_reducible refine (cIC _ hbw).mono ?_); rintro e wq ⟨rfl, hbq⟩; have hbw := Qtrans hbq hzw hbw; have hzw := hbw.size; obtain ⟨hcq, hfq⟩ := bcell hbw; have hlq := ltW hbw) | (go_at_call 20; (with_reducible refine (cCP _ hbw).mono ?_); rintro e wq ⟨rfl, hbq⟩; have hbw := Qtrans hbq hzw hbw; have hzw := hbw.size; obtain ⟨hcq, hfq⟩ := bcell hbw; have hlq := ltW hbw))
          go_meet
          exact ⟨rfl, hbw⟩
      case rest =>
        rename World => w10
        clear hbw hzw hcq hfq hlq hbwH cIC cCP
        obtain ⟨rfl, hbw⟩ := hcut
        have hzw := hbw.size
        go_upto_region 33 with (go_at_call 21; refine (Thue_any gm _ (((Qtrans hbw zT5 bT5).cell (p := ⟨0, 0, none⟩) hg0).trans hgmH.out)).mono ?_; rintro e wq ⟨y6, cy6, rfl, st6, hbq⟩; have hbw := Qtrans hbq hzw hbw; have hzw := hbw.size)
        have hA := hbw.alloc hzw (.cells #[.slice y6 2 cy6] 27)
        have hL : Below wq.heap.size wq (wq.alloc (.cells #[.slice y6 2 cy6] 27)) := (Below.refl _ wq).alloc (Nat.le_refl _) _
        have stH := isStrs_below st6 (Nat.le_refl _) hL
        have kb6 : (wq.alloc (.cells #[.slice y6 2 cy6] 27)).cell? ⟨wq.heap.size, 0, none⟩ = some (.slice y6 2 cy6) := by simp [go_sem]
        have lb6 : wq.heap.size < (wq.alloc (.cells #[.slice y6 2 cy6] 27)).heap.size := by simp
        have bT6 := Qtrans hA zT5 bT5
        obtain ⟨W6, hWe⟩ : ∃ V, (wq.alloc (.cells #[.slice y6 2 cy6] 27)) = V := ⟨_, rfl⟩
        rw [hWe] at stH kb6 lb6 bT6 ⊢
        obtain ⟨b6, hbe⟩ : ∃ b, wq.heap.size = b := ⟨_, rfl⟩
        rw [hbe] at kb6 lb6 ⊢
        clear hA hL st6 hWe hbe hbw hzw hbq bT5 zT5
        have zT6 := bT6.size
        have hbw : Below W6.heap.size W6 W6 := Below.refl _ W6
        have hzw : W6.heap.size ≤ W6.heap.size := Nat.le_refl _
        have cF6 : ∀ w, Below W6.heap.size W6 w → Calls Tryd.prog 14 #[.agg #[.slice y6 2 cy6]] w fun e w' => e = .returned (.string ⟨#[97, 98, 44, 98, 97]⟩) ∧ Below w.heap.size w w' := fun w hb => by
          have := FormatSubst_any y6 2 cy6 TH w (isStrs_below stH (Nat.le_refl _) hb) sOk_TH
          rwa [jn_TH] at this
        have cC6 : ∀ w, Below W6.heap.size W6 w → Calls Tryd.prog 19 #[.agg #[.slice y6 2 cy6]] w fun e w' => e = .returned (.bool true) ∧ Below w.heap.size w w' := fun w hb => by
          have := IsCode_any y6 2 cy6 TH w (isStrs_below stH (Nat.le_refl _) hb) sOk_TH
          rwa [cdB_TH] at this
        have cU6 : ∀ w, Below W6.heap.size W6 w → Calls Tryd.prog 18 #[.agg #[.slice y6 2 cy6]] w fun e w' => e = .returned (.int .i64 2) ∧ Below w.heap.size w w' := fun w hb => by
          have := IsUniform_any y6 2 cy6 TH w (isStrs_below stH (Nat.le_refl _) hb) sOk_TH
          rw [un_TH] at this; exact this
        have htt : ((⟨#[97, 98, 44, 98, 97]⟩ : ByteArray).toList == (⟨#[97, 98, 44, 98, 97]⟩ : ByteArray).toList) = true := by simp
        go_wp2_with (first | (go_at_call 14; (with_reducible refine (cF6 _ hbw).mono ?_); rintro e wq ⟨rfl, hbq⟩; have hbw := Qtrans hbq hzw hbw; have hzw := hbw.size; obtain ⟨hcq, hfq⟩ := bcell hbw; have hlq := ltW hbw) | (go_at_call 19; (with_reducible refine (cC6 _ hbw).mono ?_); rintro e wq ⟨rfl, hbq⟩; have hbw := Qtrans hbq hzw hbw; have hzw := hbw.size; obtain ⟨hcq, hfq⟩ := bcell hbw; have hlq := ltW hbw) | (go_at_call 18; (with_reducible refine (cU6 _ hbw).mono ?_); rintro e wq ⟨rfl, hbq⟩; have hbw := Qtrans hbq hzw hbw; have hzw := hbw.size; obtain ⟨hcq, hfq⟩ := bcell hbw; have hlq := ltW hbw))
        go_ret
        exact ⟨rfl, Qtrans hbw zT6 bT6⟩
end Go.Proofs.YtilbhingfnjppaaDoor
