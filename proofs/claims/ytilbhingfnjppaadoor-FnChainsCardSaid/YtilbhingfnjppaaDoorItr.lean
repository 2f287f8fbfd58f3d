/- Substitutions applied, once and again: the walks. -/
import Derived.Test.YtilbhingfnjppaaDoorApl
import Derived.Test.YtilbhingfnjppaaDoorInjP
import Derived.Test.YtilbhingfnjppaaDoorMGold
import Derived.Test.YtilbhingfnjppaaDoorSubst
set_option linter.unusedSimpArgs false
set_option linter.unusedVariables false
namespace Go.Proofs.YtilbhingfnjppaaDoor
open Go.RowKit
theorem bt_appL (x y : ByteArray) (j : Nat) (h : j < x.size) : bt (x ++ y) j = bt x j := by
  have h2 : j < (x ++ y).size := by rw [ByteArray.size_append]; omega
  unfold bt
  rw [dif_pos h2, dif_pos h]
  congr 2
  simp only [ByteArray.getElem_eq_getElem_data, ByteArray.data_append]
  exact Array.getElem_append_left _
theorem bt_appR (x y : ByteArray) (j : Nat) : bt (x ++ y) (x.size + j) = bt y j := by
  by_cases h : j < y.size
  · have h2 : x.size + j < (x ++ y).size := by rw [ByteArray.size_append]; omega
    unfold bt
    rw [dif_pos h2, dif_pos h]
    congr 2
    simp only [ByteArray.getElem_eq_getElem_data, ByteArray.data_append]
    rw [Array.getElem_append_right (by show x.data.size ≤ _; have : x.data.size = x.size := rfl; omega)]
    congr 1
    show x.size + j - x.size = j
    omega
  · have h2 : ¬ x.size + j < (x ++ y).size := by rw [ByteArray.size_append]; omega
    unfold bt
    rw [dif_neg h2, dif_neg h]
/-- Letters among the first n. -/
def letP (n : Nat) (z : ByteArray) : Prop := ∀ i, i < z.size → inL z i ∧ lt z i < n
theorem letP_app {n : Nat} {x y : ByteArray} (hx : letP n x) (hy : letP n y) : letP n (x ++ y) := by
  intro i hi
  by_cases h : i < x.size
  · have := hx i h
    unfold inL lt at *
    rw [bt_appL x y i h]; exact this
  · obtain ⟨j, rfl⟩ : ∃ j, i = x.size + j := ⟨i - x.size, by omega⟩
    rw [ByteArray.size_append] at hi
    have := hy j (by omega)
    unfold inL lt at *
    rw [bt_appR x y j]; exact this
theorem letP_empty (n : Nat) : letP n ⟨#[]⟩ := fun i hi => by simp [ByteArray.size] at hi
theorem letP_img {zs : List ByteArray} (h : sB zs = true) (j : Nat) : letP zs.length (zs.getD j ByteArray.empty) := by
  by_cases hj : j < zs.length
  · obtain ⟨_, h2, h3⟩ := (s_of h).2 j hj
    exact fun i hi => ⟨h2.2 i hi, h3 i hi⟩
  · rw [List.getD_eq_getElem?_getD, List.getElem?_eq_none (by omega)]
    exact letP_empty _
theorem letP_cc {zs : List ByteArray} (h : sB zs = true) (d : ByteArray) : ∀ k, letP zs.length (cc d zs k)
  | 0 => letP_empty _
  | k + 1 => by rw [cc_succ]; exact letP_app (letP_cc h d k) (letP_img h _)
theorem hiP_let {n : Nat} {z : ByteArray} (h : hiP n z) : letP n z ∧ z.size ≤ 400 := ⟨fun i hi => ⟨h.2.2 i hi, (hi_low h.2).1 h.1 i hi⟩, h.2.1⟩
theorem hiP_of {n : Nat} {z : ByteArray} (h : letP n z) (hs : z.size ≤ 400) : hiP n z := by
  have hw : isWP z := ⟨hs, fun j hj => (h j hj).1⟩
  exact ⟨(hi_low hw).2 (fun i hi => (h i hi).2), hw⟩
/-- The images of a word, again and again, if all are words. -/
noncomputable def itN (zs : List ByteArray) : Nat → ByteArray → Option ByteArray
  | 0, s => some s
  | k + 1, s => if isWB (img zs s) = true then itN zs k (img zs s) else none
theorem itN_yes {zs : List ByteArray} {k : Nat} {s : ByteArray} (h : isWB (img zs s) = true) : itN zs (k + 1) s = itN zs k (img zs s) := by simp [itN, h]
theorem itN_no {zs : List ByteArray} {k : Nat} {s : ByteArray} (h : isWB (img zs s) = false) : itN zs (k + 1) s = none := by simp [itN, h]
noncomputable def oV (o : Option ByteArray) : Value := match o with | some v => .tuple #[.string v, .bool true] | none => .tuple #[.string ⟨#[]⟩, .bool false]
noncomputable def itO (zs : List ByteArray) (s : ByteArray) (K : Int) : Option ByteArray := if (sB zs && hiB zs.length s && inB K 0 20) = true then itN zs K.toNat s else none
theorem small8_sB {zs : List ByteArray} (h : sB zs = true) : small8 zs := fun j => by
  by_cases hj : j < zs.length
  · exact ((s_of h).2 j hj).1.2
  · rw [List.getD_eq_getElem?_getD, List.getElem?_eq_none (by omega)]; exact Nat.zero_le _
theorem some_oV (v : ByteArray) : oV (some v) = .tuple #[.string v, .bool true] := rfl
theorem none_oV : oV none = .tuple #[.string ⟨#[]⟩, .bool false] := rfl
set_option maxRecDepth 20000 in
set_option maxHeartbeats 4000000 in
theorem implIterate_any (x : Option Addr) (n cap : Nat) (zs : List ByteArray) (s : ByteArray) (K : Int) (w : World) (h : IsStrs w x n cap zs) (hn : n ≤ 1048576) (hs : s.size ≤ 9223372036854775807) :
    Calls Tryd.prog 17 #[.agg #[.slice x n cap], .string s, .int .i64 K] w fun e w' => e = .returned (oV (itO zs s K)) ∧ Below w.heap.size w w' := by
  have hl := h.1
  have hb0 : Below w.heap.size w (w.alloc (.cells #[.slice x n cap] 27)) := (Below.refl _ w).alloc (Nat.le_refl _) _
  have h0 := isStrs_below h (Nat.le_refl _) hb0
  have hO : Hid (itO zs s K = if (sB zs && hiB n s && inB K 0 20) = true then itN zs K.toNat s else none) := by show _ = _; unfold itO; rw [hl]
  cases hS : sB zs
  · have e1 : Hid (itO zs s K = none) := by show _ = _; rw [hO.out, hS]; rfl
    go_enter Tryd.func17, Tryd.ntmps17
    go_wp2_with (go_at_call 57; refine (implSubstOk_any _ _ _ _ _ h0 hn).mono ?_; rintro e w2 ⟨rfl, hb2⟩; obtain ⟨hc2, hf2⟩ := bcell hb2; have hl2 := ltW hb2)
    refine bodyPost_ret (v := oV (itO zs s K)) (by rw [e1.out, none_oV]; simp [results, Tryd.results17, go_sem, *]) rfl ⟨rfl, by (repeat (first | with_reducible exact Below.refl _ _ | assumption | with_reducible refine Qdrew ?_ | with_reducible refine QdrewN ?_ | ((with_reducible refine Qset ?_ ?_); exact (by ((try simp only [World.size_alloc, World.size_setCell, World.size_drew, size_drewN]); (try dsimp only); omega))) | ((with_reducible refine Qalloc ?_ ?_); exact (by ((try simp only [World.size_alloc, World.size_setCell, World.size_drew, size_drewN]); (try dsimp only); omega))) | refine Qtrans (by assumption) (by ((try simp only [World.size_alloc, World.size_setCell, World.size_drew, size_drewN]); (try dsimp only); omega)) ?_))⟩
  · have hHI := fun w => hasImages_any x n cap s w hn hs
    cases hH : hiB n s
    all_goals rw [hH] at hHI
    · have e1 : Hid (itO zs s K = none) := by show _ = _; rw [hO.out, hS, hH]; rfl
      go_enter Tryd.func17, Tryd.ntmps17
      go_wp2_with (first | (go_at_call 57; refine (implSubstOk_any _ _ _ _ _ h0 hn).mono ?_; rintro e w2 ⟨rfl, hb2⟩; obtain ⟨hc2, hf2⟩ := bcell hb2; have hl2 := ltW hb2) | (go_at_call 62; refine (hHI w2).mono ?_; rintro e w3 ⟨rfl, hb3⟩; obtain ⟨hc3, hf3⟩ := bcell hb3; have hl3 := ltW hb3))
      refine bodyPost_ret (v := oV (itO zs s K)) (by rw [e1.out, none_oV]; simp [results, Tryd.results17, go_sem, *]) rfl ⟨rfl, Qtrans hb3 (by have := hb2.size; simp only [World.size_alloc] at this; omega) (Qtrans hb2 (by simp) hb0)⟩
    · cases hK : inB K 0 20
      · have e1 : Hid (itO zs s K = none) := by show _ = _; rw [hO.out, hS, hH, hK]; rfl
        have hI := fun w => within_any K 0 20 w
        rw [hK] at hI
        go_enter Tryd.func17, Tryd.ntmps17
        go_wp2_with (first | (go_at_call 57; refine (implSubstOk_any _ _ _ _ _ h0 hn).mono ?_; rintro e w2 ⟨rfl, hb2⟩; obtain ⟨hc2, hf2⟩ := bcell hb2; have hl2 := ltW hb2) | (go_at_call 62; refine (hHI w2).mono ?_; rintro e w3 ⟨rfl, hb3⟩; obtain ⟨hc3, hf3⟩ := bcell hb3; have hl3 := ltW hb3) | (go_at_call 50; refine (hI _).mono ?_; rintro e w1 ⟨rfl, rfl⟩))
        refine bodyPost_ret (v := oV (itO zs s K)) (by rw [e1.out, none_oV]; simp [results, Tryd.results17, go_sem, *]) rfl ⟨rfl, Qtrans hb3 (by have := hb2.size; simp only [World.size_alloc] at this; omega) (Qtrans hb2 (by simp) hb0)⟩
      · obtain ⟨k0, k20⟩ := inB_true.1 hK
        obtain ⟨N, rfl⟩ : ∃ N : Nat, K = (N : Int) := ⟨K.toNat, by omega⟩
        have hI := fun w => within_any (N : Int) 0 20 w
        rw [hK] at hI
        have e1 : Hid (itO zs s (N : Int) = itN zs N s) := by show _ = _; rw [hO.out, hS, hH, hK]; rfl
        have hp0 := Lib.hid (hiP_let (hiB_of hH))
        have h8 := small8_sB hS
        have hcc := Lib.hid (fun d => (letP_cc hS d d.size))
        rw [hl] at hcc
        go_enter Tryd.func17, Tryd.ntmps17
        go_wp2_with (first | (go_at_call 57; refine (implSubstOk_any _ _ _ _ _ h0 hn).mono ?_; rintro e w2 ⟨rfl, hb2⟩; obtain ⟨hc2, hf2⟩ := bcell hb2; have hl2 := ltW hb2) | (go_at_call 62; refine (hHI w2).mono ?_; rintro e w3 ⟨rfl, hb3⟩; obtain ⟨hc3, hf3⟩ := bcell hb3; have hl3 := ltW hb3) | (go_at_call 50; refine (hI _).mono ?_; rintro e w1 ⟨rfl, rfl⟩))
        have hz3 := hb3.size
        have hz2 := hb2.size
        simp only [World.size_alloc] at hz2
        have h2 := isStrs_below (isStrs_below h0 (Nat.le_refl _) hb2) (Nat.le_refl _) hb3
        have b3 : Below (w.heap.size + 1) (w.alloc (.cells #[.slice x n cap] 27)) w3 := Qtrans hb3 hz2 (hb2.mono (by simp))
        go_loopw [1, 23] (fun v i wr => ∃ (j : Nat) (d : ByteArray), j ≤ N ∧ i = .int .i64 j ∧ v = .string d ∧ Hid (itN zs N s = itN zs (N - j) d) ∧ Hid (letP n d ∧ d.size ≤ 400) ∧ Below (w.heap.size + 1) (w.alloc (.cells #[.slice x n cap] 27)) wr) (fun _ i _ => N - (intOf i).toNat)
        case atStart => exact ⟨0, s, by omega, rfl, rfl, Lib.hid rfl, hp0, b3⟩
        case round =>
          clear hp0 h2 b3 hb2 hb3
          obtain ⟨j, d, hj, rfl, rfl, hit, hp, hbel⟩ := hrel
          have hzb := hbel.size
          simp only [World.size_alloc] at hzb
          have hst := isStrs_below h0 (show (w.alloc (.cells #[.slice x n cap] 27)).heap.size ≤ w.heap.size + 1 by simp) hbel
          have hcB : wr.cell? ⟨w.heap.size, 0, none⟩ = some (.slice x n cap) := (hbel.cell (by simp)).trans (by simp [go_sem])
          have hbw : w.heap.size < wr.heap.size := by omega
          by_cases hlt : j < N
          · have hA := apply_any x n cap zs d wr hst ⟨hp.out.2, hp.out.1⟩ h8
            have hsz := cc_size8 (d := d) h8 d.size
            have hd4 := hp.out.2
            have hcd := Lib.hid (hcc.out d)
            obtain ⟨q, hq⟩ : ∃ q, N - j = q + 1 := ⟨N - j - 1, by omega⟩
            have hN1 : Hid (N - (j + 1) = q) := by show _ = _; omega
            have hyes : Hid (isWB (cc d zs d.size) = true → itN zs N s = itN zs q (cc d zs d.size)) := fun e => by rw [hit.out, hq]; exact itN_yes e
            have hno : Hid (isWB (cc d zs d.size) = false → itN zs N s = none) := fun e => by rw [hit.out, hq]; exact itN_no e
            have hW := fun w => isWord_any (cc d zs d.size) w (by omega)
            obtain ⟨v, hv⟩ : ∃ v, cc d zs d.size = v := ⟨_, rfl⟩
            rw [hv] at hA hsz hcd hyes hno hW
            have i1 : (j : Int) < (N : Int) := by omega
            have i8 : IntKind.i64.wrap ((j : Int) + 1) = (j : Int) + 1 := IntWalk.i64_in _ (by omega)
            clear hv hq hit hst
            cases hB : isWB v
            · have e2 : Hid (itO zs s (N : Int) = none) := e1.out.trans (hno.out hB)
              rw [hB] at hW
              go_wp2_with (first | (go_at_call 61; refine hA.mono ?_; rintro e w5 ⟨rfl, hb5⟩) | (go_at_call 63; refine (hW _).mono ?_; rintro e w1 ⟨rfl, rfl⟩))
              refine bodyPost_ret (v := oV (itO zs s (N : Int))) (by rw [e2.out, none_oV]; simp [results, Tryd.results17, go_sem, *]) rfl ⟨rfl, Qtrans hb5 (by omega) (Qtrans hbel (by omega) hb0)⟩
            · have hwp := (isW_of hB).1
              have hyes' : Hid (itN zs N s = itN zs q v) := hyes.out hB
              rw [hB] at hW
              go_wp2_with (first | (go_at_call 61; refine hA.mono ?_; rintro e w5 ⟨rfl, hb5⟩) | (go_at_call 63; refine (hW _).mono ?_; rintro e w1 ⟨rfl, rfl⟩))
              exact ⟨⟨j + 1, v, by omega, by go_num, rfl, Lib.hid (by rw [hyes'.out, hN1.out]), Lib.hid ⟨hcd.out, hwp⟩, Qtrans hb5 (by omega) hbel⟩, by simp [intOf]; omega⟩
          · obtain rfl : j = N := by omega
            have e2 : Hid (itO zs s (j : Int) = some d) := by show _ = _; rw [e1.out, hit.out, Nat.sub_self]; rfl
            go_wp2_with fail
            refine bodyPost_ret (v := oV (itO zs s (j : Int))) (by rw [e2.out, some_oV]; simp [results, Tryd.results17, go_sem, *]) rfl ⟨rfl, Qtrans hbel (by omega) hb0⟩
theorem implApply_any (x : Option Addr) (n cap : Nat) (zs : List ByteArray) (s : ByteArray) (w : World) (h : IsStrs w x n cap zs) (hn : n ≤ 1048576) (hs : s.size ≤ 9223372036854775807) :
    Calls Tryd.prog 11 #[.agg #[.slice x n cap], .string s] w fun e w' => e = .returned (oV (itO zs s 1)) ∧ Below w.heap.size w w' := by
  have hb0 : Below w.heap.size w (w.alloc (.cells #[.slice x n cap] 27)) := (Below.refl _ w).alloc (Nat.le_refl _) _
  have h0 := isStrs_below h (Nat.le_refl _) hb0
  have hC := fun w h => implIterate_any x n cap zs s 1 w h hn hs
  obtain ⟨v, b, hv⟩ : ∃ v b, oV (itO zs s 1) = .tuple #[.string v, .bool b] := by
    cases itO zs s 1
    · exact ⟨_, _, rfl⟩
    · exact ⟨_, _, rfl⟩
  rw [hv] at hC ⊢
  go_enter Tryd.func11, Tryd.ntmps11
  go_wp2_with (go_at_call 17; refine (hC _ h0).mono ?_; rintro e w2 ⟨rfl, hb2⟩)
  refine bodyPost_ret (v := .tuple #[.string v, .bool b]) (by simp [results, Tryd.results11, go_sem, *]) rfl ⟨rfl, by (repeat (first | with_reducible exact Below.refl _ _ | assumption | with_reducible refine Qdrew ?_ | with_reducible refine QdrewN ?_ | ((with_reducible refine Qset ?_ ?_); exact (by ((try simp only [World.size_alloc, World.size_setCell, World.size_drew, size_drewN]); (try dsimp only); omega))) | ((with_reducible refine Qalloc ?_ ?_); exact (by ((try simp only [World.size_alloc, World.size_setCell, World.size_drew, size_drewN]); (try dsimp only); omega))) | refine Qtrans (by assumption) (by ((try simp only [World.size_alloc, World.size_setCell, World.size_drew, size_drewN]); (try dsimp only); omega)) ?_))⟩
end Go.Proofs.YtilbhingfnjppaaDoor
