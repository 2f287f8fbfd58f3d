/- The law on parents: the walk. -/
import Derived.Test.YtilbhingfnjppabPlD
import Derived.Test.YtilbhingfnjppabDrD
import Derived.Laws.Cover1
import Derived.Deep.QuietTactic
import Derived.BigQuiet
set_option linter.unusedSimpArgs false
set_option linter.unusedVariables false
namespace Go.Proofs.Ytilbhingfnjppab
open Go.RowKit
theorem rB_of {w : World} {x : Option Addr} {n cap : Nat} {zs : List Int} (h : IsRow .u8 w x n cap zs) : RB w.heap.size w x n := by
  obtain ⟨h1, h2, h3, h4, h5⟩ := h
  unfold maxLen at h3
  refine ⟨by omega, ?_⟩
  rcases h5 with h5 | ⟨b, off, e, hb, hj⟩
  · exact .inl h5
  · refine .inr ⟨b, off, e, hb, fun j q => ?_⟩
    have hm : zs.getD j 0 ∈ zs := by
      rw [List.getD_eq_getElem?_getD, List.getElem?_eq_getElem (by omega)]; exact List.getElem_mem _
    have hw := h4 _ hm
    simp [Lit.wf, IntKind.min, IntKind.max, IntKind.signed, IntKind.bits] at hw
    exact ⟨_, hw.1, hw.2, hj j q⟩
theorem leq_lx : ∀ {x y : List Nat}, (∀ k ∈ x, k < 4) → (∀ k ∈ y, k < 4) → lx x y → (Op.bytesLess (x.map (fun k => 97 + UInt8.ofNat k)) (y.map (fun k => 97 + UInt8.ofNat k)) || x.map (fun k => 97 + UInt8.ofNat k) == y.map (fun k => 97 + UInt8.ofNat k)) = true
  | [], [], _, _, _ => rfl
  | [], b :: y, _, _, _ => rfl
  | a :: x, [], _, _, h => by cases h
  | a :: x, b :: y, hx, hy, h => by
    have ha := hx a (by simp)
    have hb := hy b (by simp)
    obtain ⟨q1, q2⟩ := u8_lt ha hb
    rw [List.map_cons, List.map_cons, Op.bytesLess]
    rcases h with h | ⟨rfl, h2⟩
    · simp [q1.2 h]
    · have ih := leq_lx (x := x) (y := y) (fun k hk => hx k (by simp [hk])) (fun k hk => hy k (by simp [hk])) h2
      rw [Bool.or_eq_true] at ih ⊢
      rcases ih with ih | ih
      · left; simp [ih]
      · right; simpa using ih
set_option maxRecDepth 20000 in
set_option maxHeartbeats 1000000 in
theorem has_any (g n cap : Nat) (L : List Int) (v : Int) (w : World) (hl : L.length = n) (hn : n ≤ 1000000) (hc : ∀ j, j < n → w.cell? ⟨g, j, none⟩ = some (.int .i64 (L.getD j 0))) (hm : v ∈ L) :
    Calls Try.prog 14 #[.slice (some ⟨g, 0, none⟩) n cap, .int .i64 v] w fun e w' => e = .returned (.bool true) ∧ w = w' := by
  have hc' := Lib.hid hc
  have hm' := Lib.hid hm
  have hl' := Lib.hid hl
  clear hc hm hl
  go_enter Try.func14, Try.ntmps14
  go_wp2_with fail
  go_loopw [9] (fun i wr => ∃ k : Nat, k ≤ n ∧ i = .int .i64 k ∧ Hid (∀ j, j < k → L.getD j 0 ≠ v) ∧ w = wr) (fun i _ => n - (intOf i).toNat)
  case atStart => exact ⟨0, by omega, rfl, Lib.hid (fun _ h => absurd h (by omega)), by first | rfl | trivial⟩
  case round =>
    obtain ⟨k, hk, rfl, hne, rfl⟩ := hrel
    by_cases hlt : k < n
    · have hck := hc'.out k hlt
      have hne1 : Hid (L.getD k 0 ≠ v → ∀ j, j < k + 1 → L.getD j 0 ≠ v) := fun h j hj => by
        by_cases e : j = k
        · subst e; exact h
        · exact hne.out j (by omega)
      obtain ⟨z, hz⟩ : ∃ z, L.getD k 0 = z := ⟨_, rfl⟩
      rw [hz] at hck hne1
      have i1 : (k : Int) < (n : Int) := by omega
      have i0 : (0 : Int) ≤ (k : Int) := by omega
      have i8 : IntKind.i64.wrap ((k : Int) + 1) = (k : Int) + 1 := IntWalk.i64_in _ (by omega)
      clear hz
      by_cases hzv : z = v
      · go_wp2_with fail
        go_ret
        exact ⟨rfl, rfl⟩
      · have hne2 := Lib.hid (hne1.out hzv)
        go_wp2_with fail
        exact ⟨⟨k + 1, by omega, by go_num, hne2, by first | rfl | trivial⟩, by simp [intOf]; omega⟩
    · obtain rfl : k = n := by omega
      obtain ⟨j, hj, e⟩ := List.getElem_of_mem hm'.out
      have := hne.out j (by rw [← hl'.out]; exact hj)
      rw [List.getD_eq_getElem?_getD, List.getElem?_eq_getElem hj] at this
      exact (this e).elim
set_option maxRecDepth 20000 in
set_option maxHeartbeats 8000000 in
theorem FnParents_law (wc : World) (px : Option Addr) (n cap : Nat) (cz : List Int) (hrow : IsRow .u8 wc px n cap cz) :
    Calls Try.prog 3 #[.slice px n cap] wc fun e w' => e = .returned (.bool true) ∧ Below wc.heap.size wc w' := by
  have hr := rB_of hrow
  have hn := hr.1
  clear hrow
  by_cases hbig : (1048576 : Int) < (n : Int)
  · go_enter Try.func3, Try.ntmps3
    go_wp2
    go_ret
    exact ⟨rfl, by (repeat (first | with_reducible exact Below.refl _ _ | assumption | with_reducible refine Qdrew ?_ | with_reducible refine QdrewN ?_ | ((with_reducible refine Qset ?_ ?_); exact (by ((try simp only [World.size_alloc, World.size_setCell, World.size_drew, size_drewN]); (try dsimp only); omega))) | ((with_reducible refine Qalloc ?_ ?_); exact (by ((try simp only [World.size_alloc, World.size_setCell, World.size_drew, size_drewN]); (try dsimp only); omega))) | refine Qtrans (by assumption) (by ((try simp only [World.size_alloc, World.size_setCell, World.size_drew, size_drewN]); (try dsimp only); omega)) ?_))⟩
  go_enter Try.func3, Try.ntmps3
  go_wp2_with (go_at_call 7; refine (MakeSubst_any wc.heap.size px n cap 0 (by omega) wc (Nat.le_refl _) hr).mono ?_; rintro e w1 ⟨y, cy, zs, rfl, hS, st1, _, hb1⟩; obtain ⟨hc1, hf1⟩ := bcell hb1; have hl1 := ltW hb1)
  have hz1 := hb1.size
  (try simp only [World.size_alloc] at hz1)
  have h4 := (s_of hS).1
  have b1 : Below wc.heap.size wc (w1.alloc (.cells #[.slice y zs.length cy] 25)) := hb1.alloc hz1 _
  have st1' := isStrs_below st1 (Nat.le_refl _) ((Below.refl _ w1).alloc (Nat.le_refl _) (.cells #[.slice y zs.length cy] 25))
  go_wp2_with (go_at_call 8; refine (MakeOver_any wc.heap.size px n cap 30 (by omega) y zs.length cy (by omega) (by omega) (w1.alloc (.cells #[.slice y zs.length cy] 25)) (by simp; omega) (rB_below hr b1)).mono ?_; rintro e w2 ⟨l, rfl, hl6, hlb, hb2⟩; obtain ⟨hc2, hf2⟩ := bcell hb2; have hl2 := ltW hb2)
  have hz2 := hb2.size
  (try simp only [World.size_alloc] at hz2)
  have st2 := isStrs_below st1' (Nat.le_refl _) hb2
  have k2 : w2.cell? ⟨w1.heap.size, 0, none⟩ = some (.slice y zs.length cy) := (hc2 _ 0 (by simp)).trans (by simp [go_sem])
  have b2 : Below wc.heap.size wc w2 := Qtrans hb2 (by simp; omega) b1
  have hs2 : w1.heap.size < w2.heap.size := by omega
  /- the word, and what its images make -/
  obtain ⟨d, hd⟩ : ∃ d, (⟨l.toArray⟩ : ByteArray) = d := ⟨_, rfl⟩
  have hdl : letP zs.length d := by
    rw [← hd]
    intro j hj
    have := bt_of_list (k := (zs.length : Int)) (fun b hb => by have := hlb b hb; omega) j hj
    unfold inL lt
    omega
  have hd6 : d.size ≤ 6 := by rw [← hd]; simpa [ByteArray.size] using hl6
  rw [hd]
  clear hd hlb hl6 hb1 hb2 hc1 hf1 hl1 hc2 hf2 hl2 b1 st1 st1' hr
  have h8 := small8_sB hS
  obtain ⟨s, hs⟩ : ∃ s, img zs d = s := ⟨_, rfl⟩
  have hs48 : s.size ≤ 48 := by rw [← hs]; have := img_size h8 d; omega
  have hsl : letP zs.length s := by rw [← hs]; exact letP_cc hS d d.size
  have hsW : isWB s = true := let_word hsl (by omega)
  have hwhole := whole_of hdl hs
  have hW0 := Wy_some hS (Nat.zero_le _) hwhole
  obtain ⟨P, hP⟩ : ∃ P, (⟨(par s zs).toArray⟩ : ByteArray) = P := ⟨_, rfl⟩
  obtain ⟨pl1, pl2, pl3⟩ := par_let hS hW0
  have pl4 : P.size ≤ s.size := by
    rw [← hP]
    have e : (⟨(par s zs).toArray⟩ : ByteArray).size = (par s zs).length := by show (par s zs).toArray.size = _; exact List.size_toArray
    omega
  rw [hP] at pl1 pl2
  have eD : itO zs d 1 = some s := by rw [← hs]; exact itO_one hS hdl (by omega) (by rw [hs]; omega)
  have eP : itO zs P 1 = some s := by rw [← pl2]; exact itO_one hS pl1 (by omega) (by rw [pl2]; omega)
  have cD := fun w h => implApply_any y zs.length cy zs d w h (by omega) (by omega)
  have cP := fun w h => implApply_any y zs.length cy zs P w h (by omega) (by omega)
  rw [eD, some_oV] at cD
  rw [eP, some_oV] at cP
  have hne0 : ¬ (wys s zs).getD 0 0 = 0 := by have : 0 < (wys s zs).getD 0 0 := hW0; omega
  have ePf : pofV zs s = .tuple #[.string P, .bool true] := by unfold pofV; rw [hS, hsW, ← hP]; exact pa_yes hne0
  have cF := fun w h => implParent_any y zs.length cy zs s w h (by omega) (by omega)
  rw [ePf] at cF
  have cC := fun w h => implCount_any y zs.length cy zs s w h (by omega) (by omega)
  obtain ⟨W, hW⟩ : ∃ W, Wy zs s 0 = W := ⟨_, rfl⟩
  have eC : cpV zs s = W := by unfold cpV pk; rw [hS, hsW, ← hW]; rfl
  rw [eC] at cC
  have hW1 : 1 ≤ W := by omega
  have hWm := (Wy_low zs s 0).2
  rw [hW] at hWm
  have hle : (!Op.bytesLess P.toList d.toList && !(P.toList == d.toList)) = false := by
    obtain ⟨ks, q1, q2, q3⟩ := par_is hS hW0
    have hx := q3 (lts d) hwhole
    have hk4 : ∀ k ∈ ks, k < 4 := fun k hk => by have := prt_lt q2 k hk; omega
    have hd4 : ∀ k ∈ lts d, k < 4 := fun k hk => by have := lts_lt hdl k hk; omega
    have e : (Op.bytesLess P.toList d.toList || P.toList == d.toList) = true := by
      rw [← hP, q1, ← wd_lts hdl, ByteArray.toList_eq, ByteArray.toList_eq]
      have := leq_lx hk4 hd4 hx
      simpa [wd] using this
    rw [← Bool.not_or, e]; rfl
  have hPd : W = 1 → P = d := fun e => by
    obtain ⟨ks, q1, q2, q3⟩ := par_is hS hW0
    have := Wy_one hS (Nat.zero_le _) (by rw [hW, e]) q2 hwhole
    rw [← hP, q1, this, wd_lts hdl]
  have hMk : mB zs = true → W = 1 := fun e => by
    rw [← hW]
    unfold mB at e
    rw [Bool.and_eq_true] at e
    exact mark_count hS e.2 hW0
  have cM := fun w h => implMarked_any y zs.length cy zs w h (by omega)
  go_wp2_with (go_at_call 9; refine (cD _ st2).mono ?_; rintro e w3 ⟨rfl, hb3⟩; obtain ⟨hc3, hf3⟩ := bcell hb3; have hl3 := ltW hb3)
  have hz3 := hb3.size
  (try simp only [World.size_alloc] at hz3)
  have st3 := isStrs_below st2 (Nat.le_refl _) hb3
  have k3 := (hc3 _ 0 hs2).trans k2
  have hs3 : w1.heap.size < w3.heap.size := by omega
  have b3 := Qtrans hb3 (by omega) b2
  clear hc3 hf3 hl3 st2 k2 b2 cD
  go_wp2_with (go_at_call 10; refine (cF _ st3).mono ?_; rintro e w4 ⟨rfl, hb4⟩; obtain ⟨hc4, hf4⟩ := bcell hb4; have hl4 := ltW hb4)
  have hz4 := hb4.size
  (try simp only [World.size_alloc] at hz4)
  have st4 := isStrs_below st3 (Nat.le_refl _) hb4
  have k4 := (hc4 _ 0 hs3).trans k3
  have hs4 : w1.heap.size < w4.heap.size := by omega
  have b4 := Qtrans hb4 (by omega) b3
  clear hc4 hf4 hl4 st3 k3 b3 cF
  go_wp2_with (go_at_call 11; refine (cC _ st4).mono ?_; rintro e w5 ⟨rfl, hb5⟩; obtain ⟨hc5, hf5⟩ := bcell hb5; have hl5 := ltW hb5)
  have hz5 := hb5.size
  (try simp only [World.size_alloc] at hz5)
  have st5 := isStrs_below st4 (Nat.le_refl _) hb5
  have k5 := (hc5 _ 0 hs4).trans k4
  have hs5 : w1.heap.size < w5.heap.size := by omega
  have b5 := Qtrans hb5 (by omega) b4
  clear hc5 hf5 hl5 st4 k4 b4 cC
  go_upto_region 9 with (go_at_call 9; refine (cP _ st5).mono ?_; rintro e w6 ⟨rfl, hb6⟩; obtain ⟨hc6, hf6⟩ := bcell hb6; have hl6 := ltW hb6)
  have hz6 := hb6.size
  (try simp only [World.size_alloc] at hz6)
  have st6 := isStrs_below st5 (Nat.le_refl _) hb6
  have k6 := (hc6 _ 0 hs5).trans k5
  have hs6 : w1.heap.size < w6.heap.size := by omega
  have b6 := Qtrans hb6 (by omega) b5
  clear hc6 hf6 hl6 st5 k5 b5 cP hb3 hb4 hb5 hb6
  go_cut [98] from 53 to 98 (fun s98 w7 => s98 = .bool false ∧ Below w6.heap.size w6 w7)
  case first =>
    have hlt1 : ¬ W < 1 := by omega
    have hss : (s.toList == s.toList) = true := by simp
    have hdd : (d.toList == d.toList) = true := by simp
    have cM6 := cM _ st6
    by_cases hW1' : W = 1
    · have hPd' := hPd hW1'
      subst hW1' hPd'
      clear hMk hPd cM
      cases hmB : mB zs
      all_goals
        rw [hmB] at cM6
        go_wp2_with (go_at_call 12; refine cM6.mono ?_; rintro e w7 ⟨rfl, hb7⟩)
        go_meet
        exact ⟨rfl, hb7⟩
    · have hmB : mB zs = false := by
        cases q : mB zs
        · rfl
        · exact (hW1' (hMk q)).elim
      rw [hmB] at cM6
      clear hMk hPd cM
      go_wp2_with (go_at_call 12; refine cM6.mono ?_; rintro e w7 ⟨rfl, hb7⟩)
      go_meet
      exact ⟨rfl, hb7⟩
  case rest =>
    rename World => w7
    obtain ⟨rfl, hb7⟩ := hcut
    obtain ⟨hc7, hf7⟩ := bcell hb7
    have hz7 := hb7.size
    have st7 := isStrs_below st6 (Nat.le_refl _) hb7
    have k7 := (hc7 _ 0 hs6).trans k6
    have hs7 : w1.heap.size < w7.heap.size := by omega
    have b7 := Qtrans hb7 (by omega) b6
    clear hc7 hf7 st6 k6 b6 hMk hle cM hb7
    have hkk : (sB zs && isWB s) = true := by rw [hS, hsW]; rfl
    have hCut := implCuts_ok y zs.length cy zs s w7 st7 (by omega) hkk hne0
    have hin := fun j hj => cuts_has hS hdl hs j hj
    have hge := cuts_ge hS hdl hs
    have hone := fun h => cuts_one hS hdl hs h
    obtain ⟨C, hC⟩ : ∃ C, (cs s zs (s.size + 1)).2 = C := ⟨_, rfl⟩
    have hClen : C.length ≤ s.size + 1 := by rw [← hC]; exact (cs_len s zs (s.size + 1)).2
    rw [hC] at hCut hin hge hone
    rw [hW] at hone
    clear hC
    obtain ⟨m, hm⟩ : ∃ m, C.length = m := ⟨_, rfl⟩
    rw [hm] at hCut hge hone hClen
    go_wp2_with (go_at_call 13; refine (hCut).mono ?_; rintro e w8 ⟨gC, cC, rfl, oC, hb8⟩; obtain ⟨hc8, hf8⟩ := bcell hb8; have hl8 := ltW hb8)
    have hz8 := hb8.size
    (try simp only [World.size_alloc] at hz8)
    have st8 := isStrs_below st7 (Nat.le_refl _) hb8
    have k8 := (hc8 _ 0 hs7).trans k7
    have hs8 : w1.heap.size < w8.heap.size := by omega
    have b8 := Qtrans hb8 (by omega) b7
    clear hc8 hf8 hl8 st7 k7 b7 hCut hb8
    obtain ⟨bS, oS, hyS, hbS, hcS⟩ := isStrs_cell st8 (by omega)
    subst hyS
    have hcC : Hid (∀ j, j < m → w8.cell? ⟨gC, j, none⟩ = some (.int .i64 (C.getD j 0))) := fun j hj => by
      rw [own_cell oC j hj, iv_at _ _ (by omega)]
    have hbd : ∀ j (h : j < d.size), ((d[j]'h).toNat : Int) = bt d j := fun j h => bt_eq d j h
    have hinH := Lib.hid hin
    have hcSH := Lib.hid hcS
    have hdlH := Lib.hid hdl
    clear hcS hin oC
    go_loopw [13, 14] (fun at' i wr => ∃ j nq : Nat, j ≤ d.size + 1 ∧ i = .int .i64 j ∧ at' = .int .i64 (cut zs d (min j d.size) : Nat) ∧ wr = w8.drewN nq) (fun _ i _ => d.size + 1 - (intOf i).toNat)
    case atStart => exact ⟨0, 0, by omega, rfl, by rw [Nat.zero_min]; rfl, rfl⟩
    case round =>
      obtain ⟨j, nq, hj, rfl, rfl, rfl⟩ := hrel
      by_cases hle : j ≤ d.size
      · have hmin : min j d.size = j := by omega
        have hmem := hinH.out j hle
        have hH := fun w h => has_any gC m cC C ((cut zs d j : Nat) : Int) w hm (by omega) h hmem
        have hHw := hH (w8.drewN nq) hcC.out
        have i1 : (j : Int) ≤ (d.size : Int) := by omega
        have i0 : (0 : Int) ≤ (j : Int) := by omega
        have i8 : IntKind.i64.wrap ((j : Int) + 1) = (j : Int) + 1 := IntWalk.i64_in _ (by omega)
        rw [hmin]
        by_cases hlt : j < d.size
        · obtain ⟨q1, q2⟩ := hdlH.out j hlt
          obtain ⟨he, hl3⟩ := lt_eq q1
          have hcj := hcSH.out (lt d j) q2
          have hnx : Hid ((cut zs d (min (j + 1) d.size) : Nat) = cut zs d j + (zs.getD (lt d j) ByteArray.empty).size) := by
            show _ = _
            rw [show min (j + 1) d.size = j + 1 by omega]
            unfold cut
            rw [cc_succ, ByteArray.size_append]
          have hcb : cut zs d j ≤ s.size := cut_le hdlH.out hs j hle
          have hzb := h8 (lt d j)
          obtain ⟨q, hq⟩ : ∃ q, lt d j = q := ⟨_, rfl⟩
          rw [hq] at he hl3 q2 hcj hnx hzb
          obtain ⟨z, hz⟩ : ∃ z, zs.getD q ByteArray.empty = z := ⟨_, rfl⟩
          rw [hz] at hcj hnx hzb
          obtain ⟨A, hA⟩ : ∃ A, cut zs d j = A := ⟨_, rfl⟩
          rw [hA] at hnx hHw hcb
          rw [hA]
          have hu : IntKind.u8.wrap ((q : Int) + 97 - 97) = (q : Int) := by rw [show (q : Int) + 97 - 97 = (q : Int) by omega]; exact u8_small q (by omega)
          have j1 : (j : Int) < (d.size : Int) := by omega
          have j2 : (q : Int) < (zs.length : Int) := by omega
          have j3 : (0 : Int) ≤ (q : Int) := by omega
          have i7 : IntKind.i64.wrap ((A : Int) + (z.size : Int)) = ((A + z.size : Nat) : Int) := by rw [IntWalk.i64_in _ (by omega)]; omega
          clear hq hz hA hmem hH hinH hmin q1 hge hone
          go_wp2_with ((go_at_call 14; refine (hHw).mono ?_; rintro e w1 ⟨rfl, rfl⟩))
          go_quiet (fail)
          go_wp2
          exact ⟨⟨j + 1, _, by omega, by go_num, by rw [hnx.out]; go_num, rfl⟩, by simp [intOf]; omega⟩
        · obtain rfl : j = d.size := by omega
          have hnx : Hid (cut zs d (min (d.size + 1) d.size) = cut zs d d.size) := by show _ = _; rw [show min (d.size + 1) d.size = d.size by omega]
          go_wp2_with ((go_at_call 14; refine (hHw).mono ?_; rintro e w1 ⟨rfl, rfl⟩))
          exact ⟨⟨d.size + 1, nq, by omega, by go_num, by rw [hnx.out], rfl⟩, by simp [intOf]⟩
      · obtain rfl : j = d.size + 1 := by omega
        have st9 : IsStrs (w8.drewN nq) (some ⟨bS, oS, none⟩) zs.length cy zs := st8
        have k9 : (w8.drewN nq).cell? ⟨w1.heap.size, 0, none⟩ = some (.slice (some ⟨bS, oS, none⟩) zs.length cy) := k8
        have b9 : Below wc.heap.size wc (w8.drewN nq) := QdrewN b8
        have hs9 : w1.heap.size < (w8.drewN nq).heap.size := hs8
        obtain ⟨w9, hw9⟩ : ∃ w9, w8.drewN nq = w9 := ⟨_, rfl⟩
        rw [hw9] at st9 k9 b9 hs9 ⊢
        clear hw9 st8 k8 b8 hs8 hcC hbd hinH hcSH hbS
        have i1 : ¬ ((d.size + 1 : Nat) : Int) ≤ (d.size : Int) := by omega
        obtain ⟨E14, hE14⟩ : ∃ E : Int, ((d.size + 1 : Nat) : Int) = E := ⟨_, rfl⟩
        obtain ⟨E13, hE13⟩ : ∃ E : Int, ((cut zs d (min (d.size + 1) d.size) : Nat) : Int) = E := ⟨_, rfl⟩
        rw [hE13, hE14]
        rw [hE14] at i1
        clear hE13 hE14
        go_upto_region 20 with fail
        have hge1 : ¬ (m : Int) < (d.size : Int) + 1 := by omega
        have cI : Calls Try.prog 15 #[.agg #[.slice (some ⟨bS, oS, none⟩) zs.length cy], .int .i64 2] w9 fun e w' => e = .returned (.bool (injB zs 2)) ∧ Below w9.heap.size w9 w' := implInj_ok _ zs.length cy 2 zs w9 st9 (by omega) hS (by omega)
        have hInj : injB zs 2 = true → d.size ≤ 2 → P.size ≤ 2 → P = d := fun h1 h2 h3 => inj_two hS h1 pl1 hdl h3 h2 (by rw [pl2, hs])
        have i9 : IntKind.i64.wrap ((d.size : Int) + 1) = (d.size : Int) + 1 := IntWalk.i64_in _ (by omega)
        go_cut [163] from 127 to 163 (fun s163 w10 => s163 = .bool false ∧ Below w9.heap.size w9 w10)
        case first =>
          by_cases hW1' : W = 1
          · have hPd' := hPd hW1'
            have hm1 := hone hW1'
            subst hW1' hPd'
            have hm2 : (m : Int) = (P.size : Int) + 1 := by omega
            have hPP : (P.toList == P.toList) = true := by simp
            clear hPd hone hInj hm1
            cases hiB : injB zs 2
            all_goals
              rw [hiB] at cI
              by_cases hd2 : (P.size : Int) ≤ 2
              all_goals
                go_wp2_with (go_at_call 15; refine cI.mono ?_; rintro e w10 ⟨rfl, hb10⟩)
                go_meet
                exact ⟨rfl, hb10⟩
          · clear hPd hone
            cases hiB : injB zs 2
            · rw [hiB] at cI
              go_wp2_with (go_at_call 15; refine cI.mono ?_; rintro e w10 ⟨rfl, hb10⟩)
              go_meet
              exact ⟨rfl, hb10⟩
            · have hI2 := hInj hiB
              rw [hiB] at cI
              by_cases hd2 : d.size ≤ 2
              · have hd2' : (d.size : Int) ≤ 2 := by omega
                by_cases hp2 : P.size ≤ 2
                · have hp2' : (P.size : Int) ≤ 2 := by omega
                  have hPd' := hI2 hd2 hp2
                  subst hPd'
                  have hPP : (P.toList == P.toList) = true := by simp
                  clear hI2 hInj
                  go_wp2_with (go_at_call 15; refine cI.mono ?_; rintro e w10 ⟨rfl, hb10⟩)
                  go_meet
                  exact ⟨rfl, hb10⟩
                · have hp2' : ¬ (P.size : Int) ≤ 2 := by omega
                  clear hI2 hInj
                  go_wp2_with (go_at_call 15; refine cI.mono ?_; rintro e w10 ⟨rfl, hb10⟩)
                  go_meet
                  exact ⟨rfl, hb10⟩
              · have hd2' : ¬ (d.size : Int) ≤ 2 := by omega
                clear hI2 hInj
                go_wp2_with (go_at_call 15; refine cI.mono ?_; rintro e w10 ⟨rfl, hb10⟩)
                go_meet
                exact ⟨rfl, hb10⟩
        case rest =>
          rename World => w10
          obtain ⟨rfl, hb10⟩ := hcut
          obtain ⟨hc10, hf10⟩ := bcell hb10
          have hz10 := hb10.size
          have st10 := isStrs_below st9 (Nat.le_refl _) hb10
          have k10 := (hc10 _ 0 hs9).trans k9
          have hs10 : w1.heap.size < w10.heap.size := by omega
          have b10 := Qtrans hb10 (by omega) b9
          clear hc10 hf10 st9 k9 b9 cI hInj hPd hone hb10
          /- ancestors -/
          obtain ⟨al1, al2, q, al3, al4⟩ := anc_is hS (s.size + 1) s 0 hsl (by omega)
          have eA : anV zs s = .tuple #[.string (anc zs (s.size + 1) s 0).1, .int .i64 ((anc zs (s.size + 1) s 0).2 : Nat)] := by unfold anV; rw [hkk]; rfl
          have cA := fun w h => implAnc_any (some ⟨bS, oS, none⟩) zs.length cy zs s w h (by omega) (by omega)
          rw [eA] at cA
          have al5 := fun hq => itO_is hS al1 (by omega) hq al4
          rw [al3, Nat.zero_add] at cA
          obtain ⟨a, ha⟩ : ∃ a, (anc zs (s.size + 1) s 0).1 = a := ⟨_, rfl⟩
          rw [ha] at cA al2 al5
          clear al1 al3 al4 ha eA
          have hq0 : ¬ (q : Int) < 0 := by omega
          have hal : ¬ (s.size : Int) < (a.size : Int) := by omega
          have hq20 : ∀ w h, Calls Try.prog 17 #[.agg #[.slice (some ⟨bS, oS, none⟩) zs.length cy], .string a, .int .i64 (min (q : Int) 20)] w fun e w' => ∃ (v : ByteArray) (b : Bool), e = .returned (.tuple #[.string v, .bool b]) ∧ (q ≤ 20 → v = s ∧ b = true) ∧ Below w.heap.size w w' := fun w h => by
            refine (implIterate_any (some ⟨bS, oS, none⟩) zs.length cy zs a _ w h (by omega) (by omega)).mono fun e w' ⟨h1, h2⟩ => ?_
            by_cases hq : q ≤ 20
            · have e1 : (min (q : Int) 20) = (q : Int) := by omega
              rw [e1, al5 hq, some_oV] at h1
              exact ⟨s, true, h1, fun _ => ⟨rfl, rfl⟩, h2⟩
            · cases hO : itO zs a (min (q : Int) 20) with
              | none => rw [hO, none_oV] at h1; exact ⟨_, _, h1, fun h => absurd h hq, h2⟩
              | some v => rw [hO, some_oV] at h1; exact ⟨_, _, h1, fun h => absurd h hq, h2⟩
          go_wp2_with (go_at_call 16; refine (cA _ st10).mono ?_; rintro e w11 ⟨rfl, hb11⟩; obtain ⟨hc11, hf11⟩ := bcell hb11; have hl11 := ltW hb11)
          have hz11 := hb11.size
          (try simp only [World.size_alloc] at hz11)
          have st11 := isStrs_below st10 (Nat.le_refl _) hb11
          have k11 := (hc11 _ 0 hs10).trans k10
          have hs11 : w1.heap.size < w11.heap.size := by omega
          have b11 := Qtrans hb11 (by omega) b10
          clear hc11 hf11 hl11 st10 k10 b10 cA hb11
          go_upto_region 26 with (go_at_call 17; refine (hq20 _ st11).mono ?_; rintro e w12 ⟨v, bb, rfl, hvb, hb12⟩; obtain ⟨hc12, hf12⟩ := bcell hb12; have hl12 := ltW hb12)
          have hz12 := hb12.size
          (try simp only [World.size_alloc] at hz12)
          have st12 := isStrs_below st11 (Nat.le_refl _) hb12
          have k12 := (hc12 _ 0 hs11).trans k11
          have hs12 : w1.heap.size < w12.heap.size := by omega
          have b12 := Qtrans hb12 (by omega) b11
          clear hc12 hf12 hl12 st11 k11 b11 hq20 al5 hb12
          go_cut [197] from 187 to 197 (fun s197 wq => s197 = .bool false ∧ Below w12.heap.size w12 wq)
          case first =>
            by_cases hq : q ≤ 20
            · obtain ⟨hv, hbb⟩ := hvb hq
              subst hbb
              have hss : (v.toList == s.toList) = true := by rw [hv]; simp
              have hq' : (q : Int) ≤ 20 := by omega
              clear hvb hv
              go_wp2_with fail
              go_meet
              exact ⟨rfl, by (repeat (first | with_reducible exact Below.refl _ _ | assumption | with_reducible refine Qdrew ?_ | with_reducible refine QdrewN ?_ | ((with_reducible refine Qset ?_ ?_); exact (by ((try simp only [World.size_alloc, World.size_setCell, World.size_drew, size_drewN]); (try dsimp only); omega))) | ((with_reducible refine Qalloc ?_ ?_); exact (by ((try simp only [World.size_alloc, World.size_setCell, World.size_drew, size_drewN]); (try dsimp only); omega))) | refine Qtrans (by assumption) (by ((try simp only [World.size_alloc, World.size_setCell, World.size_drew, size_drewN]); (try dsimp only); omega)) ?_))⟩
            · have hq' : ¬ (q : Int) ≤ 20 := by omega
              clear hvb
              go_wp2_with fail
              go_meet
              exact ⟨rfl, by (repeat (first | with_reducible exact Below.refl _ _ | assumption | with_reducible refine Qdrew ?_ | with_reducible refine QdrewN ?_ | ((with_reducible refine Qset ?_ ?_); exact (by ((try simp only [World.size_alloc, World.size_setCell, World.size_drew, size_drewN]); (try dsimp only); omega))) | ((with_reducible refine Qalloc ?_ ?_); exact (by ((try simp only [World.size_alloc, World.size_setCell, World.size_drew, size_drewN]); (try dsimp only); omega))) | refine Qtrans (by assumption) (by ((try simp only [World.size_alloc, World.size_setCell, World.size_drew, size_drewN]); (try dsimp only); omega)) ?_))⟩
          case rest =>
            rename World => wq
            obtain ⟨rfl, hbq⟩ := hcut
            obtain ⟨hcq, hfq⟩ := bcell hbq
            have hzq := hbq.size
            have stq := isStrs_below st12 (Nat.le_refl _) hbq
            have kq := (hcq _ 0 hs12).trans k12
            have hsq : w1.heap.size < wq.heap.size := by omega
            have bq := Qtrans hbq (by omega) b12
            clear hvb hcq hfq st12 k12 b12 hbq
            obtain ⟨R, hR⟩ := ppr_first hS hW0
            have hrows := fun l hl => prs_fit hS (show s.size ≤ 400 by omega) (most := mx zs) (pM zs s) l hl
            have hML : (ppr zs s).length ≤ s.size + 1 := Nat.le_trans (prs_len zs s (mx zs) (pM zs s)) (by unfold pM; omega)
            have cPP := fun w h => implPart_any (some ⟨bS, oS, none⟩) zs.length cy zs s w h (by omega) hS hsW
            rw [hP] at hR
            have hrows : ∀ l ∈ ppr zs s, rowFit zs s l := hrows
            obtain ⟨L, hL⟩ : ∃ L, ppr zs s = L := ⟨_, rfl⟩
            rw [hL] at hR hrows hML cPP
            have hfirst : L.getD 0 [] = [⟨#[]⟩, P, ⟨#[]⟩] := by rw [hR]; rfl
            have hL1 : 1 ≤ L.length := by rw [hR]; simp
            clear hR hL
            obtain ⟨m3, hm3⟩ : ∃ m3, L.length = m3 := ⟨_, rfl⟩
            rw [hm3] at hML cPP hL1
            have hL1' : ¬ (m3 : Int) < 1 := by omega
            go_wp2_with (go_at_call 18; refine (cPP _ stq).mono ?_; rintro e w13 ⟨gL, cL, rfl, oL, hb13⟩; obtain ⟨hc13, hf13⟩ := bcell hb13; have hl13 := ltW hb13)
            have hz13 := hb13.size
            (try simp only [World.size_alloc] at hz13)
            have st13 := isStrs_below stq (Nat.le_refl _) hb13
            have k13 := (hc13 _ 0 hsq).trans kq
            have hs13 : w1.heap.size < w13.heap.size := by omega
            have b13 := Qtrans hb13 (by omega) bq
            clear hc13 hf13 hl13 stq kq bq cPP hb13
            obtain ⟨V, f, hVl, ho, hrow, hinc⟩ := oL
            have hcL : Hid (∀ j, j < m3 → w13.cell? ⟨gL, j, none⟩ = some (.slice (some ⟨f j, 0, none⟩) 3 3)) := fun j hj => by
              rw [own_cell ho j hj]; exact (hrow j hj).1
            have hcR : Hid (∀ j, j < m3 → f j < w13.heap.size ∧ ∀ i, i < 3 → w13.cell? ⟨f j, i, none⟩ = some (.string ((L.getD j []).getD i ByteArray.empty))) := fun j hj => by
              obtain ⟨q1, q2, q3, q4⟩ := hrow j hj
              refine ⟨(q3.lt _ rfl).2, fun i hi => ?_⟩
              rw [own_cell q3 i hi, sv_at _ _ (by omega)]
            have hgL := (ho.lt gL rfl).2
            have hfit : Hid (∀ j, j < m3 → rowFit zs s (L.getD j [])) := fun j hj => by
              refine hrows _ ?_
              rw [List.getD_eq_getElem?_getD, List.getElem?_eq_getElem (by omega)]; exact List.getElem_mem _
            have hfirstH := Lib.hid hfirst
            clear hrow hinc ho hrows hfirst
            go_loopw [206] (fun ii wr => ∃ k : Nat, k ≤ m3 ∧ ii = .int .i64 k ∧ Below w13.heap.size w13 wr) (fun ii _ => m3 - (intOf ii).toNat)
            case atStart => exact ⟨0, by omega, rfl, by (repeat (first | with_reducible exact Below.refl _ _ | assumption | with_reducible refine Qdrew ?_ | with_reducible refine QdrewN ?_ | ((with_reducible refine Qset ?_ ?_); exact (by ((try simp only [World.size_alloc, World.size_setCell, World.size_drew, size_drewN]); (try dsimp only); omega))) | ((with_reducible refine Qalloc ?_ ?_); exact (by ((try simp only [World.size_alloc, World.size_setCell, World.size_drew, size_drewN]); (try dsimp only); omega))) | refine Qtrans (by assumption) (by ((try simp only [World.size_alloc, World.size_setCell, World.size_drew, size_drewN]); (try dsimp only); omega)) ?_))⟩
            case round =>
              obtain ⟨k, hk, rfl, hbw⟩ := hrel
              have hzw := hbw.size
              by_cases hlt : k < m3
              · obtain ⟨hF, hcF⟩ := hcR.out k hlt
                have hcV := hcL.out k hlt
                obtain ⟨xa, xb, xc, xm, e1, e2, e3, e4, e5, e6⟩ := hfit.out k hlt
                have hf0 : Hid (k = 0 → xa = ⟨#[]⟩ ∧ xb = P ∧ xc = ⟨#[]⟩) := fun q0 => by
                  subst q0
                  rw [hfirstH.out] at e1
                  simp only [List.cons.injEq, and_true] at e1
                  exact ⟨e1.1.symm, e1.2.1.symm, e1.2.2.symm⟩
                rw [e1] at hcF
                obtain ⟨F, hFe⟩ : ∃ F, f k = F := ⟨_, rfl⟩
                rw [hFe] at hcF hcV hF
                have r0 : wr.cell? ⟨F, 0, none⟩ = some (.string xa) := (hbw.cell (by show F < _; omega)).trans (hcF 0 (by omega))
                have r1 : wr.cell? ⟨F, 1, none⟩ = some (.string xb) := (hbw.cell (by show F < _; omega)).trans (hcF 1 (by omega))
                have r2 : wr.cell? ⟨F, 2, none⟩ = some (.string xc) := (hbw.cell (by show F < _; omega)).trans (hcF 2 (by omega))
                have rV : wr.cell? ⟨gL, k, none⟩ = some (.slice (some ⟨F, 0, none⟩) 3 3) := (hbw.cell (by show gL < _; omega)).trans hcV
                have rS : wr.cell? ⟨w1.heap.size, 0, none⟩ = some (.slice (some ⟨bS, oS, none⟩) zs.length cy) := (hbw.cell (by show w1.heap.size < _; omega)).trans k13
                have stw : IsStrs wr.drew (some ⟨bS, oS, none⟩) zs.length cy zs := isStrs_below st13 (Nat.le_refl _) (Qdrew hbw)
                have eX : itO zs xb 1 = some xm := by rw [← e4]; exact itO_one hS e3 (by omega) (by rw [e4]; omega)
                have cX := implApply_any (some ⟨bS, oS, none⟩) zs.length cy zs xb wr.drew stw (by omega) (by omega)
                rw [eX, some_oV] at cX
                have hsz : xa.size + xm.size + xc.size = s.size := by rw [← e6]; simp only [ByteArray.size_append]
                have run1 : ∀ w, (Op.stringOp .add xa xm).run Try.prog w = .ok (.string (xa ++ xm)) w := fun w => run_string_add_sum w _ _ (by omega)
                have run2 : ∀ w, (Op.stringOp .add (xa ++ xm) xc).run Try.prog w = .ok (.string ((xa ++ xm) ++ xc)) w := fun w => run_string_add_sum w _ _ (by rw [ByteArray.size_append]; omega)
                rw [e6] at run2
                have i0 : (0 : Int) ≤ (k : Int) := by omega
                have i1 : (k : Int) < (m3 : Int) := by omega
                have i8 : IntKind.i64.wrap ((k : Int) + 1) = (k : Int) + 1 := IntWalk.i64_in _ (by omega)
                have hFw : F < wr.heap.size := by omega
                have hgw : gL < wr.heap.size := by omega
                have hSw : w1.heap.size < wr.heap.size := by omega
                clear hcF hFe hcV e1 e2 e3 e4 e5 e6 hF eX stw hcR hcL hfit hfirstH
                go_wp2_with fail
                go_region_held3 (fun wx => (∀ bk ofs, bk < wr.heap.size → wx.cell? ⟨bk, ofs, none⟩ = (wr).cell? ⟨bk, ofs, none⟩) ∧ Below (wr.heap.size) (wr) wx) ((refine stays ?_; ((repeat (first | with_reducible exact Below.refl _ _ | assumption | with_reducible refine Qdrew ?_ | with_reducible refine QdrewN ?_ | ((with_reducible refine Qset ?_ ?_); exact (by ((try simp only [World.size_alloc, World.size_setCell, World.size_drew, size_drewN]); (try dsimp only); omega))) | ((with_reducible refine Qalloc ?_ ?_); exact (by ((try simp only [World.size_alloc, World.size_setCell, World.size_drew, size_drewN]); (try dsimp only); omega))) | refine Qtrans (by assumption) (by ((try simp only [World.size_alloc, World.size_setCell, World.size_drew, size_drewN]); (try dsimp only); omega)) ?_)) <;> (go_split_ands; assumption)))) (first | (go_at_call 9; with_reducible refine cX.mono ?_; rintro e w6 ⟨rfl, hb6⟩; obtain ⟨hc6, hf6⟩ := bcell hb6; have hl6 := ltW hb6; have hz6 := hb6.size; (try simp only [World.size_drew] at hz6)))
                all_goals
                  have t0 : w6.cell? ⟨F, 0, none⟩ = some (.string xa) := (hc6 _ 0 hFw).trans r0
                  have t1 : w6.cell? ⟨F, 1, none⟩ = some (.string xb) := (hc6 _ 1 hFw).trans r1
                  have t2 : w6.cell? ⟨F, 2, none⟩ = some (.string xc) := (hc6 _ 2 hFw).trans r2
                  have hFw6 : F < w6.heap.size := by omega
                  have hb7 : Below w13.heap.size w13 w6 := Qtrans hb6 (by simp; omega) (Qdrew hbw)
                  have hsE : (s.toList == s.toList) = true := by simp
                  clear hc6 hf6 hl6 hbw hb6 rV rS cX t0 t1 t2
                  by_cases hk0 : k = 0
                  · obtain ⟨g1, g2, g3⟩ := hf0.out hk0
                    have u1 : xa.toList = [] := by rw [g1]; simp
                    have u2 : xb.toList = P.toList := by rw [g2]
                    have u3 : xc.toList = [] := by rw [g3]; simp
                    have hk1 : (k : Int) = 0 := by omega
                    clear hf0 g1 g2 g3
                    go_wp2_with fail
                    go_quiet (fail)
                    go_wp2
                    exact ⟨⟨1, by omega, by go_num, QdrewN hb7⟩, by simp [intOf]; omega⟩
                  · have hk1 : ¬ (k : Int) = 0 := by omega
                    clear hf0
                    go_wp2_with fail
                    go_quiet (fail)
                    go_wp2
                    exact ⟨⟨k + 1, by omega, by go_num, QdrewN hb7⟩, by simp [intOf]; omega⟩
              · obtain rfl : k = m3 := by omega
                go_wp2
                go_ret
                exact ⟨rfl, Qtrans hbw (by omega) b13⟩
end Go.Proofs.Ytilbhingfnjppab
