/- The law on numerals: the walk. -/
import Derived.Test.YtilbhingfnjppaaDoorFibB
import Derived.Test.YtilbhingfnjppaaDoorSumsG
import Derived.Test.YtilbhingfnjppaaDoorDrC
set_option linter.unusedSimpArgs false
set_option linter.unusedVariables false
namespace Go.Proofs.YtilbhingfnjppaaDoor
open Go.RowKit
theorem rB_ofR {w : World} {x : Option Addr} {n cap : Nat} {zs : List Int} (h : IsRow .u8 w x n cap zs) : RB w.heap.size w x n := by
  obtain ⟨h1, h2, h3, h4, h5⟩ := h
  unfold maxLen at h3
  refine ⟨by omega, ?_⟩
  rcases h5 with h5 | ⟨b, off, e, hb, hj⟩
  · exact .inl h5
  · refine .inr ⟨b, off, e, hb, fun j q => ?_⟩
    have hm : zs.getD j 0 ∈ zs := by
      rw [List.getD_eq_getElem?_getD, List.getElem?_eq_getElem (by omega)]; exact List.getElem_mem _
    have hw := h4 _ hm
    simp [Lit.wf, IntKind.min, IntKind.max, IntKind.signed, IntKind.bits] at hw
    exact ⟨_, hw.1, hw.2, hj j q⟩
set_option maxRecDepth 20000 in
set_option maxHeartbeats 1000000 in
theorem MakeNum_any (B : Nat) (x : Option Addr) (n cap : Nat) (m : Nat) (hm : m ≤ 1000) (w : World) (hB : B ≤ w.heap.size) (hr : RB B w x n) :
    Calls Tryd.prog 37 #[.slice x n cap, .int .i64 m] w fun e w' => ∃ v : Nat, e = .returned (.int .i64 v) ∧ v ≤ 65535 ∧ Below w.heap.size w w' := by
  go_enter Tryd.func37, Tryd.ntmps37
  go_upto_region 2 with (go_at_call 54; refine (l31New_any B x n cap m hm w hB hr).mono ?_; rintro e w1 ⟨g, rfl, hg, hc1, hb1⟩)
  have hz1 := hb1.size
  have hr1 := rB_below hr (hb1.mono hB)
  have c1 := l01Byte_any B g x n cap w1 (by omega) hr1 hc1
  have c2 : ∀ w2, w1.grownBy w2 (some g) → Cur w2 g x n cap → Calls Tryd.prog 83 #[.pointer (some ⟨g, 0, none⟩)] w2 fun e w' => ∃ v : Int, e = .returned (.int .i64 v) ∧ (0 ≤ v ∧ v ≤ 255) ∧ Cur w' g x n cap ∧ w2.grownBy w' (some g) := fun w2 hg2 hc2 => l01Byte_any B g x n cap w2 (by omega) (rB_grown hr1 hg2 (by omega) (by omega)) hc2
  go_wp2_with (first | (go_at_call 83; (with_reducible refine c1.mono ?_); rintro e w2 ⟨v1, rfl, ⟨a1, a2⟩, hc2, hg2⟩; have i1 : IntKind.i64.wrap (v1 * 256) = v1 * 256 := IntWalk.i64_in _ (by omega)) | (go_at_call 83; (with_reducible refine (c2 _ hg2 hc2).mono ?_); rintro e w3 ⟨v2, rfl, ⟨a3, a4⟩, hc3, hg3⟩; have i2 : IntKind.i64.wrap (v1 * 256 + v2) = v1 * 256 + v2 := IntWalk.i64_in _ (by omega)))
  go_ret
  obtain ⟨v, hv⟩ : ∃ v : Nat, v1 * 256 + v2 = (v : Int) := ⟨(v1 * 256 + v2).toNat, by omega⟩
  exact ⟨v, ret_int hv, by omega, hb1.grown (hg2.trans hg3) hz1 (fun k hk => by cases hk; exact hg)⟩
theorem num0 : num 0 = ⟨#[]⟩ := by
  have : gr 60 0 [] = [] := by decide +kernel
  unfold num; rw [this]
theorem dg0 : dg 0 = 0 := by
  have hi : inB 0 0 1000000000000 = true := inB_true.2 (by omega)
  unfold dg
  rw [if_pos hi, num0]; rfl
theorem wv_wt (k : Nat) (h : k ≤ 59) : wv (k : Int) = wt k := by
  have hi : inB (k : Int) 0 59 = true := inB_true.2 (by omega)
  unfold wv
  rw [if_pos hi, Int.toNat_natCast]
theorem nv_sh0 : nv (shiftS 0) = -1 := by
  have e : gr 60 0 [] = [] := by decide +kernel
  have hn : nokB (shiftS 0) = false := nokB_false (fun h => by
    have h2 := h.2.1
    unfold shiftS at h2
    rw [e] at h2
    have := h2 (by decide)
    exact absurd this (by decide))
  unfold nv
  rw [hn]; rfl
/-- The last digit, told three ways. -/
theorem last_of {k : Nat} (h0 : 0 < k) (h : k ≤ 65535) : ∃ q, (num (k : Int)).size = q + 1 ∧ ((gr 60 (k : Int) []).getLast? = some 49 ↔ bt (num (k : Int)) q = 49) ∧ (bt (num (k : Int)) q = 48 ∨ bt (num (k : Int)) q = 49) := by
  have h60 : (k : Int) < wt 60 := by rw [wt60]; omega
  obtain ⟨hp, _⟩ := num_first (n := (k : Int)) (by omega) h60
  have hs : (num (k : Int)).size = (gr 60 (k : Int) []).length := by unfold num; simp [ByteArray.size]
  refine ⟨(num (k : Int)).size - 1, by omega, ?_, ?_⟩
  · have hq : (num (k : Int)).size - 1 < (gr 60 (k : Int) []).length := by omega
    unfold num
    rw [show (⟨(gr 60 (k : Int) []).toArray⟩ : ByteArray).size = (gr 60 (k : Int) []).length by simp [ByteArray.size]]
    rw [bt49L _ _ (by omega), List.getLast?_eq_getElem?, List.getElem?_eq_getElem (by omega), Option.some.injEq]
  · have := (nok_num (n := (k : Int)) (by omega) (by omega)).2.2 ((num (k : Int)).size - 1) (by omega)
    exact this.1
theorem en_last {k q : Nat} (h0 : 0 < k) (h : k ≤ 65535) (hq : (num (k : Int)).size = q + 1) : (bt (num (k : Int)) q = 49 → en (k : Int) = 0) ∧ (bt (num (k : Int)) q = 48 → 1 ≤ en (k : Int)) := by
  have hi : inB (k : Int) 1 1000000000000 = true := inB_true.2 (by omega)
  constructor
  · intro hb
    unfold en
    rw [if_pos hi, hq, tzr_no (by rw [hb]; decide)]; rfl
  · intro hb
    unfold en
    rw [if_pos hi, hq, tzr_yes hb]; omega
theorem step12 {A B : Int} (h1 : 1 ≤ A - B) (h2 : A - B ≤ 2) : IntKind.i64.wrap (A - B) = A - B ∧ ¬ A - B < 1 ∧ ¬ 2 < A - B :=
  ⟨IntWalk.i64_in _ (by omega), by omega, by omega⟩
set_option maxRecDepth 20000 in
set_option maxHeartbeats 8000000 in
theorem FnSums_law (wc : World) (px : Option Addr) (n cap : Nat) (cz : List Int) (hrow : IsRow .u8 wc px n cap cz) (gm : Int) (hgm : wc.cell? ⟨0, 0, none⟩ = some (.int .i64 gm)) :
    Calls Tryd.prog 6 #[.slice px n cap] wc fun e w' => e = .returned (.bool true) ∧ Below wc.heap.size wc w' := by
  have hr := rB_ofR hrow
  have hn := hr.1
  have hg0 : 0 < wc.heap.size := World.block_lt_of_cell? wc _ hgm
  clear hrow
  by_cases hbig : (1048576 : Int) < (n : Int)
  · clear hgm
    go_enter Tryd.func6, Tryd.ntmps6
    go_wp2
    go_ret
    exact ⟨rfl, by (repeat (first | with_reducible exact Below.refl _ _ | assumption | with_reducible refine Qdrew ?_ | with_reducible refine QdrewN ?_ | ((with_reducible refine Qset ?_ ?_); exact (by ((try simp only [World.size_alloc, World.size_setCell, World.size_drew, size_drewN]); (try dsimp only); omega))) | ((with_reducible refine Qalloc ?_ ?_); exact (by ((try simp only [World.size_alloc, World.size_setCell, World.size_drew, size_drewN]); (try dsimp only); omega))) | refine Qtrans (by assumption) (by ((try simp only [World.size_alloc, World.size_setCell, World.size_drew, size_drewN]); (try dsimp only); omega)) ?_))⟩
  have hgmH := Lib.hid hgm
  clear hgm
  go_enter Tryd.func6, Tryd.ntmps6
  go_upto_region 4 with (go_at_call 37; refine (MakeNum_any wc.heap.size px n cap 0 (by omega) wc (Nat.le_refl _) hr).mono ?_; rintro e w1 ⟨N, rfl, hN, hbw⟩)
  have hzw := hbw.size
  have nm_num : ∀ m : Int, 0 ≤ m → m ≤ 1000000000000 → nm (inB m 0 1000000000000) m = num m := fun m h1 h2 => by rw [inB_true.2 ⟨h1, h2⟩]; rfl
  have cA : ∀ w, Calls Tryd.prog 38 #[.int .i64 N] w fun e w' => e = .returned (.string (num N)) ∧ Below w.heap.size w w' := fun w => by
    have := implNumeralOf_any (N : Int) w; rwa [nm_num _ (by omega) (by omega)] at this
  have cB : ∀ w, Calls Tryd.prog 38 #[.int .i64 ((N : Int) + 1)] w fun e w' => e = .returned (.string (num ((N : Int) + 1))) ∧ Below w.heap.size w w' := fun w => by
    have := implNumeralOf_any ((N : Int) + 1) w; rwa [nm_num _ (by omega) (by omega)] at this
  have s60 := num_size (N : Int)
  have s61 := num_size ((N : Int) + 1)
  have cOk : ∀ w, Calls Tryd.prog 39 #[.string (num N)] w fun e w' => e = .returned (.bool true) ∧ Below w.heap.size w w' := fun w => by
    have := implNumeralOk_b (num N) w (by omega); rwa [nokB_true (nok_num (by omega) (by omega))] at this
  have cN : ∀ w, Calls Tryd.prog 40 #[.string (num N)] w fun e w' => e = .returned (.int .i64 N) ∧ Below w.heap.size w w' := fun w => by
    have := implNumberOf_any (num N) w (by omega); rwa [nv_num (by omega) (by omega)] at this
  have cX : ∀ w, Calls Tryd.prog 41 #[.string (num N)] w fun e w' => e = .returned (.string (num ((N : Int) + 1))) ∧ Below w.heap.size w w' := fun w => by
    have := implNext_any (num N) w (by omega); rwa [nxt_num (by omega) (by omega)] at this
  have cN1 : ∀ w, Calls Tryd.prog 40 #[.string (num ((N : Int) + 1))] w fun e w' => e = .returned (.int .i64 ((N : Int) + 1)) ∧ Below w.heap.size w w' := fun w => by
    have := implNumberOf_any (num ((N : Int) + 1)) w (by omega); rwa [nv_num (by omega) (by omega)] at this
  have hdg : dg (N : Int) = ((cnt (num N) (num N).size : Nat) : Int) := by
    have hi : inB (N : Int) 0 1000000000000 = true := inB_true.2 (by omega)
    unfold dg; rw [if_pos hi]
  have hsm : sm (num N) (num N).size = (N : Int) := smm_num (n := (N : Int)) (by omega) (by omega)
  have cD := fun w => implDigits_any (N : Int) w
  rw [hdg] at cD
  obtain ⟨s, hs⟩ : ∃ s, num (N : Int) = s := ⟨_, rfl⟩
  obtain ⟨s', hs'⟩ : ∃ s, num ((N : Int) + 1) = s := ⟨_, rfl⟩
  rw [hs] at cA cOk cN cX cD hsm s60
  rw [hs'] at cB cX cN1 s61
  have hsmH := Lib.hid hsm
  have i1 : IntKind.i64.wrap ((N : Int) + 1) = (N : Int) + 1 := IntWalk.i64_in _ (by omega)
  have hss : (s'.toList == s'.toList) = true := by simp
  clear hs hs' hsm hdg
  go_upto_region 9 with (first | (go_at_call 38; (with_reducible refine (cA _).mono ?_); rintro e wq ⟨rfl, hbq⟩; have hbw := Qtrans hbq hzw hbw; have hzw := hbw.size) | (go_at_call 38; (with_reducible refine (cB _).mono ?_); rintro e wq ⟨rfl, hbq⟩; have hbw := Qtrans hbq hzw hbw; have hzw := hbw.size) | (go_at_call 39; (with_reducible refine (cOk _).mono ?_); rintro e wq ⟨rfl, hbq⟩; have hbw := Qtrans hbq hzw hbw; have hzw := hbw.size) | (go_at_call 40; (with_reducible refine (cN _).mono ?_); rintro e wq ⟨rfl, hbq⟩; have hbw := Qtrans hbq hzw hbw; have hzw := hbw.size) | (go_at_call 40; (with_reducible refine (cN1 _).mono ?_); rintro e wq ⟨rfl, hbq⟩; have hbw := Qtrans hbq hzw hbw; have hzw := hbw.size) | (go_at_call 41; (with_reducible refine (cX _).mono ?_); rintro e wq ⟨rfl, hbq⟩; have hbw := Qtrans hbq hzw hbw; have hzw := hbw.size))
  have hb : ∀ j (h : j < s.size), ((s[j]'h).toNat : Int) = bt s j := fun j h => bt_eq s j h
  have hbwH := Lib.hid hbw
  clear cA cB cOk cN cX cN1 hbw s61 hss
  go_wp2_with fail
  go_loopw [5, 6, 7] (fun on tt i wr => ∃ k : Nat, k ≤ s.size ∧ on = .int .i64 (cnt s k : Nat) ∧ tt = .int .i64 (sm s k) ∧ i = .int .i64 k ∧ Below wc.heap.size wc wr) (fun _ _ i _ => s.size - (intOf i).toNat)
  case atStart => exact ⟨0, by omega, rfl, rfl, rfl, hbwH.out⟩
  case round =>
    clear hbwH hzw
    obtain ⟨k, hk, rfl, rfl, rfl, hbw⟩ := hrel
    have hzw := hbw.size
    have hcl := cnt_le s k
    by_cases hlt : k < s.size
    · have hlt' : (k : Int) < (s.size : Int) := by omega
      have hk0 : (0 : Int) ≤ (k : Int) := by omega
      by_cases h49 : bt s k = 49
      · have hs1 := Lib.hid (cnt_yes hlt h49)
        have hs2 := Lib.hid (sm_yes h49)
        obtain ⟨r, hrr⟩ : ∃ r : Nat, s.size - 1 - k = r := ⟨_, rfl⟩
        have hr1 : (s.size : Int) - 1 - (k : Int) = (r : Int) := by omega
        rw [hrr] at hs2
        have cW : ∀ w, Calls Tryd.prog 42 #[.int .i64 r] w fun e w' => e = .returned (.int .i64 (wt r)) ∧ Below w.heap.size w w' := fun w => by
          have := implWeightOf_any (r : Int) w; rwa [wv_wt r (by omega)] at this
        clear hrr
        go_wp2_with (go_at_call 42; (with_reducible refine (cW _).mono ?_); rintro e wq ⟨rfl, hbq⟩; have hbw := Qtrans hbq hzw hbw; have hzw := hbw.size)
        go_roundw
        case rel => exact ⟨k + 1, by omega, by rw [hs1.out]; go_num, by rw [hs2.out], by go_num, hbw⟩
        case measure => (simp [intOf]) <;> omega
      · have hs1 := Lib.hid (cnt_no hlt h49)
        have hs2 := Lib.hid (sm_no h49)
        go_wp2_with fail
        go_roundw
        case rel => exact ⟨k + 1, by omega, by rw [hs1.out], by rw [hs2.out], by go_num, hbw⟩
        case measure => (simp [intOf]) <;> omega
    · obtain rfl : k = s.size := by omega
      rw [hsmH.out]
      go_upto_region 18 with (first | (go_at_call 43; (with_reducible refine (cD _).mono ?_); rintro e wq ⟨rfl, hbq⟩; have hbw := Qtrans hbq hzw hbw; have hzw := hbw.size) | (go_at_call 21; refine (Golden_any gm _ ((hbw.cell (p := ⟨0, 0, none⟩) hg0).trans hgmH.out)).mono ?_; rintro e w7 ⟨xF, cF, rfl, stF, hb7⟩))
      have hz7 := hb7.size
      have b7 := Qtrans hb7 (by omega) hbw
      clear hbw hzw hb7 cD hb hsmH hcl
      have k8 : (w7.alloc (.cells #[.slice xF 2 cF] 27)).cell? ⟨w7.heap.size, 0, none⟩ = some (.slice xF 2 cF) := by simp [go_sem]
      have hb8 : Below w7.heap.size w7 (w7.alloc (.cells #[.slice xF 2 cF] 27)) := (Below.refl _ w7).alloc (Nat.le_refl _) _
      have stF8 := isStrs_below stF (Nat.le_refl _) hb8
      have l8 : w7.heap.size < (w7.alloc (.cells #[.slice xF 2 cF] 27)).heap.size := by simp
      obtain ⟨w8, hw8⟩ : ∃ W, w7.alloc (.cells #[.slice xF 2 cF] 27) = W := ⟨_, rfl⟩
      rw [hw8] at k8 hb8 stF8 l8 ⊢
      have hz7w := b7.size
      have hbw : Below wc.heap.size wc w8 := Qtrans hb8 (by omega) b7
      have hzw := hbw.size
      have hbwH := Lib.hid hbw
      clear hb8 stF b7 hw8 hz7
      have ek : (N : Int).tmod 10000 = ((N % 10000 : Nat) : Int) := (Int.ofNat_tmod N 10000).symm
      obtain ⟨k, hk⟩ : ∃ k, N % 10000 = k := ⟨_, rfl⟩
      have hk1 : k < 10000 := by omega
      rw [hk] at ek
      have cL0 := LetterAt_any ⟨#[97]⟩ rfl rfl xF cF k (by omega) w8 stF8
      rw [golden_at k (by omega)] at cL0
      have cK : ∀ w, Calls Tryd.prog 38 #[.int .i64 k] w fun e w' => e = .returned (.string (num k)) ∧ Below w.heap.size w w' := fun w => by
        have := implNumeralOf_any (k : Int) w; rwa [nm_num _ (by omega) (by omega)] at this
      obtain ⟨lst, hlst⟩ : ∃ b : Bool, decide ((gr 60 (k : Int) []).getLast? = some 49) = b := ⟨_, rfl⟩
      obtain ⟨xb, hxe, cL⟩ : ∃ xb : ByteArray, (xb.toList == (⟨#[98]⟩ : ByteArray).toList) = lst ∧ Calls Tryd.prog 44 #[.agg #[.slice xF 2 cF], .string ⟨#[97]⟩, .int .i64 k] w8 fun e w' => e = .returned (.tuple #[.string xb, .bool true]) ∧ Below w8.heap.size w8 w' := by
        cases lst
        · have hn := of_decide_eq_false hlst
          rw [if_neg hn] at cL0
          refine ⟨⟨#[97]⟩, by rw [ByteArray.toList_eq, ByteArray.toList_eq]; decide, cL0.mono fun e w' h => ?_⟩
          obtain ⟨b, h1, h2, h3⟩ := h
          have hb97 : 97 = b := by simpa using h1
          subst hb97
          exact ⟨h2, h3⟩
        · have hn := of_decide_eq_true hlst
          rw [if_pos hn] at cL0
          refine ⟨⟨#[98]⟩, by simp, cL0.mono fun e w' h => ?_⟩
          obtain ⟨b, h1, h2, h3⟩ := h
          have hb97 : 98 = b := by simpa using h1
          subst hb97
          exact ⟨h2, h3⟩
      have hxe2 : (xb.toList == [98]) = lst := by rw [← hxe, ByteArray.toList_eq ⟨#[98]⟩]
      have hxe3 : (xb.toList = [98]) = (lst = true) := by rw [← hxe2]; simp
      have hL0 : k = 0 → lst = false := fun e => by
        rw [← hlst, e]
        have g0 : gr 60 ((0 : Nat) : Int) [] = [] := by decide +kernel
        rw [g0]; rfl
      have hL1 : 0 < k → ∃ q, (num (k : Int)).size = q + 1 ∧ (bt (num (k : Int)) q = 49 ∧ lst = true ∧ en (k : Int) = 0 ∨ bt (num (k : Int)) q = 48 ∧ lst = false ∧ 1 ≤ en (k : Int)) := fun h0 => by
        obtain ⟨q, hq, hl49, hor⟩ := last_of h0 (by omega)
        obtain ⟨he1, he2⟩ := en_last h0 (by omega) hq
        refine ⟨q, hq, ?_⟩
        rcases hor with h48 | h49
        · exact .inr ⟨h48, by rw [← hlst]; exact decide_eq_false (fun e => by have := hl49.1 e; omega), he2 h48⟩
        · exact .inl ⟨h49, by rw [← hlst]; exact decide_eq_true (hl49.2 h49), he1 h49⟩
      have cE := fun w => implEnding_any (k : Int) w
      have ts := num_size (k : Int)
      obtain ⟨t, ht⟩ : ∃ t, num (k : Int) = t := ⟨_, rfl⟩
      rw [ht] at cK ts hL1
      obtain ⟨E, hE⟩ : ∃ E, en (k : Int) = E := ⟨_, rfl⟩
      rw [hE] at cE hL1
      have hL0H := Lib.hid hL0
      have hL1H := Lib.hid hL1
      have hkH := Lib.hid hk
      clear hlst cL0 ht hE hL0 hL1 hk stF8 hbwH
      go_upto_region 21 with (first | (go_at_call 44; (with_reducible refine (cL).mono ?_); rintro e wq ⟨rfl, hbq⟩; have hbw := Qtrans hbq hzw hbw; have hzw := hbw.size) | (go_at_call 38; (with_reducible refine (cK _).mono ?_); rintro e wq ⟨rfl, hbq⟩; have hbw := Qtrans hbq hzw hbw; have hzw := hbw.size))
      have hbwH := Lib.hid hbw
      clear cL
      go_cut [14] from 92 to 105 (fun v wq => v = .bool lst ∧ Below wc.heap.size wc wq)
      case first =>
        by_cases h0 : k = 0
        · have kp : ¬ (0 : Int) < (k : Int) := by omega
          have hl := hL0H.out h0
          subst hl
          clear h0
          go_wp2_with fail
          go_meet
          exact ⟨rfl, hbwH.out⟩
        · have kp : (0 : Int) < (k : Int) := by omega
          obtain ⟨q, hq, hor⟩ := hL1H.out (by omega)
          have htl : t.toList ≠ [] := fun e => by
            have h := congrArg List.length e
            rw [ByteArray.toList_eq] at h
            have h2 : t.data.toList.length = t.size := Array.length_toList
            have h3 : t.size = 0 := h2.symm.trans h
            omega
          have hne : (t.toList == (⟨#[]⟩ : ByteArray).toList) = false := by rw [ByteArray.toList_eq ⟨#[]⟩]; simpa using htl
          have hne2 : (t.toList == []) = false := by simpa using htl
          have hbt : ∀ j (h : j < t.size), ((t[j]'h).toNat : Int) = bt t j := fun j h => bt_eq t j h
          have j1 : (t.size : Int) - 1 = (q : Int) := by omega
          have j2 : (0 : Int) ≤ (q : Int) := by omega
          have j3 : (q : Int) < (t.size : Int) := by omega
          have j4 : q < t.size := by omega
          have j5 : IntKind.i64.wrap (q : Int) = (q : Int) := IntWalk.i64_in _ (by omega)
          clear hq htl h0
          rcases hor with ⟨h49, rfl, _⟩ | ⟨h48, rfl, _⟩
          · go_wp2_with fail
            go_meet
            exact ⟨rfl, hbwH.out⟩
          · go_wp2_with fail
            go_meet
            exact ⟨rfl, hbwH.out⟩
      case rest =>
        rename World => w9
        obtain ⟨rfl, hbw⟩ := hcut
        have hzw := hbw.size
        have hbwH := Lib.hid hbw
        go_upto_region 22 with fail
        go_cut [128] from 106 to 128 (fun v wq => v = .bool false ∧ Below wc.heap.size wc wq)
        case first =>
          by_cases h0 : k = 0
          · have kp : ¬ (0 : Int) < (k : Int) := by omega
            have hl := hL0H.out h0
            subst hl
            clear h0
            go_wp2_with fail
            go_meet
            exact ⟨rfl, hbwH.out⟩
          · have kp : (0 : Int) < (k : Int) := by omega
            obtain ⟨q, hq, hor⟩ := hL1H.out (by omega)
            clear hq h0
            rcases hor with ⟨h49, rfl, rfl⟩ | ⟨h48, rfl, hE1⟩
            · go_wp2_with (go_at_call 8; (with_reducible refine (cE _).mono ?_); rintro e wq ⟨rfl, hbq⟩; have hbw := Qtrans hbq hzw hbw; have hzw := hbw.size)
              go_meet
              exact ⟨rfl, hbw⟩
            · have hE0 : (E == 0) = false := by simp; omega
              have hE2 : ¬ E = 0 := by omega
              go_wp2_with (go_at_call 8; (with_reducible refine (cE _).mono ?_); rintro e wq ⟨rfl, hbq⟩; have hbw := Qtrans hbq hzw hbw; have hzw := hbw.size)
              go_meet
              exact ⟨rfl, hbw⟩
        case rest =>
          rename World => w10
          obtain ⟨rfl, hbw⟩ := hcut
          have hzw := hbw.size
          have em : (N : Int).tmod 400 = ((N % 400 : Nat) : Int) := (Int.ofNat_tmod N 400).symm
          obtain ⟨m, hm⟩ : ∃ m, N % 400 = m := ⟨_, rfl⟩
          have hm1 : m < 400 := by omega
          rw [hm] at em
          obtain ⟨h1, h2⟩ := sh_step m hm1
          have hX0 : m = 0 → sh (m : Int) = 0 ∧ nv (shiftS (m : Int)) = -1 := fun e => by
            subst e
            refine ⟨?_, nv_sh0⟩
            have hi : inB 0 0 1000000000 = true := inB_true.2 (by omega)
            show (if inB 0 0 1000000000 then smm (shiftS 0) else -1) = 0
            rw [if_pos hi, shift_zero]
          have hX1 : 0 < m → nv (shiftS (m : Int)) = sh (m : Int) := fun e => sh_num e (by omega)
          have cM : ∀ w, Calls Tryd.prog 38 #[.int .i64 m] w fun e w' => e = .returned (.string (num m)) ∧ Below w.heap.size w w' := fun w => by
            have := implNumeralOf_any (m : Int) w; rwa [nm_num _ (by omega) (by omega)] at this
          have cS := fun w => implShift_any (m : Int) w
          have cS1 := fun w => implShift_any ((m : Int) + 1) w
          have hss1 := shift_size (m : Int)
          have cNs := fun w => implNumberOf_any (shiftS (m : Int)) w (by omega)
          have hrun := fun w => shift_run (m : Int) w
          have hY := wy_ge m (by omega)
          have cY := fun w => implWays_any (m : Int) w
          obtain ⟨tm, htm⟩ : ∃ t, num (m : Int) = t := ⟨_, rfl⟩
          obtain ⟨ts2, hts2⟩ : ∃ t, shiftS (m : Int) = t := ⟨_, rfl⟩
          obtain ⟨Y, hYe⟩ : ∃ y, wy (m : Int) = y := ⟨_, rfl⟩
          obtain ⟨A0, hA0⟩ : ∃ y, sh (m : Int) = y := ⟨_, rfl⟩
          obtain ⟨A1, hA1⟩ : ∃ y, sh ((m : Int) + 1) = y := ⟨_, rfl⟩
          rw [hts2] at hX0 hX1 cNs hrun
          rw [htm] at cM hrun
          rw [hYe] at hY cY
          rw [hA0] at h1 h2 hX0 hX1 cS
          rw [hA1] at h1 h2 cS1
          obtain ⟨X, hX⟩ : ∃ y, nv ts2 = y := ⟨_, rfl⟩
          rw [hX] at hX0 hX1 cNs
          have hX0H := Lib.hid hX0
          have hX1H := Lib.hid hX1
          have hbwH := Lib.hid hbw
          have i2 : IntKind.i64.wrap ((m : Int) + 1) = (m : Int) + 1 := IntWalk.i64_in _ (by omega)
          obtain ⟨i3, i4, i5⟩ := step12 h1 h2
          clear h1 h2
          clear hX0 hX1 hX hA0 hA1 hYe htm hts2 hm hss1 hL0H hL1H hxe hxe2 hxe3 cE cK
          go_upto_region 25 with fail
          go_cut [159] from 131 to 159 (fun v wq => v = .bool false ∧ Below wc.heap.size wc wq)
          case first =>
            by_cases h0 : m = 0
            · obtain ⟨g1, g2⟩ := hX0H.out h0
              have g4 : (A0 == X) = false := by rw [g1, g2]; rfl
              have g5 : ¬ A0 = X := by rw [g1, g2]; decide
              clear g1 g2
              subst h0
              have cS' : ∀ w, Calls Tryd.prog 45 #[.int .i64 0] w fun e w' => e = .returned (.int .i64 A0) ∧ Below w.heap.size w w' := cS
              have cS1' : ∀ w, Calls Tryd.prog 45 #[.int .i64 1] w fun e w' => e = .returned (.int .i64 A1) ∧ Below w.heap.size w w' := cS1
              have cM' : ∀ w, Calls Tryd.prog 38 #[.int .i64 0] w fun e w' => e = .returned (.string tm) ∧ Below w.heap.size w w' := cM
              clear cS cS1 cM
              go_wp2_with (first | (go_at_call 45; (with_reducible refine (cS' _).mono ?_); rintro e wq ⟨rfl, hbq⟩; have hbw := Qtrans hbq hzw hbw; have hzw := hbw.size) | (go_at_call 45; (with_reducible refine (cS1' _).mono ?_); rintro e wq ⟨rfl, hbq⟩; have hbw := Qtrans hbq hzw hbw; have hzw := hbw.size) | (go_at_call 38; (with_reducible refine (cM' _).mono ?_); rintro e wq ⟨rfl, hbq⟩; have hbw := Qtrans hbq hzw hbw; have hzw := hbw.size) | (go_at_call 40; (with_reducible refine (cNs _).mono ?_); rintro e wq ⟨rfl, hbq⟩; have hbw := Qtrans hbq hzw hbw; have hzw := hbw.size))
              go_meet
              exact ⟨by rw [decide_eq_false (Int.not_lt.2 i4), decide_eq_false (Int.not_lt.2 i5)]; rfl, hbw⟩
            · have g3 : (0 : Int) < (m : Int) := by omega
              have g1 := hX1H.out (by omega)
              subst g1
              clear h0
              go_wp2_with (first | (go_at_call 45; (with_reducible refine (cS _).mono ?_); rintro e wq ⟨rfl, hbq⟩; have hbw := Qtrans hbq hzw hbw; have hzw := hbw.size) | (go_at_call 45; (with_reducible refine (cS1 _).mono ?_); rintro e wq ⟨rfl, hbq⟩; have hbw := Qtrans hbq hzw hbw; have hzw := hbw.size) | (go_at_call 38; (with_reducible refine (cM _).mono ?_); rintro e wq ⟨rfl, hbq⟩; have hbw := Qtrans hbq hzw hbw; have hzw := hbw.size) | (go_at_call 40; (with_reducible refine (cNs _).mono ?_); rintro e wq ⟨rfl, hbq⟩; have hbw := Qtrans hbq hzw hbw; have hzw := hbw.size))
              go_meet
              exact ⟨by rw [decide_eq_false (Int.not_lt.2 i4), decide_eq_false (Int.not_lt.2 i5)]; rfl, hbw⟩
          case rest =>
            rename World => w11
            clear hbw hbwH hzw
            obtain ⟨rfl, hbw⟩ := hcut
            have hbwH := Lib.hid hbw
            clear hbw cS cS1 cM cNs hrun
            go_wp2_with fail
            go_loopw [16] (fun i wr => ∃ j : Nat, 2 ≤ j ∧ j ≤ 20 ∧ i = .int .i64 j ∧ Below wc.heap.size wc wr) (fun i _ => 20 - (intOf i).toNat)
            case atStart => exact ⟨2, by omega, by omega, rfl, hbwH.out⟩
            case round =>
              clear hbwH
              obtain ⟨j, hj2, hj20, rfl, hbw⟩ := hrel
              have hzw := hbw.size
              by_cases hlt : j < 20
              · obtain ⟨q, rfl⟩ : ∃ q, j = q + 2 := ⟨j - 2, by omega⟩
                have e0 := wv_wt (q + 2) (by omega)
                have e1 := wv_wt (q + 1) (by omega)
                have e2 := wv_wt q (by omega)
                have es := wtSS q
                have hB0 := wtB q (by omega)
                have hB1 := wtB (q + 1) (by omega)
                have cJ0 := fun w => implWeightOf_any ((q + 2 : Nat) : Int) w
                have cJ1 := fun w => implWeightOf_any (((q + 2 : Nat) : Int) - 1) w
                have cJ2 := fun w => implWeightOf_any (((q + 2 : Nat) : Int) - 2) w
                rw [e0] at cJ0
                rw [show wv (((q + 2 : Nat) : Int) - 1) = wt (q + 1) by rw [← e1]; congr 1; omega] at cJ1
                rw [show wv (((q + 2 : Nat) : Int) - 2) = wt q by rw [← e2]; congr 1; omega] at cJ2
                have hsum : IntKind.i64.wrap (wt (q + 1) + wt q) = wt (q + 2) := by rw [IntWalk.i64_in _ (by omega)]; omega
                have j1 : ((q + 2 : Nat) : Int) < 20 := by omega
                have j2 : IntKind.i64.wrap (((q + 2 : Nat) : Int) - 1) = ((q + 2 : Nat) : Int) - 1 := IntWalk.i64_in _ (by omega)
                have j3 : IntKind.i64.wrap (((q + 2 : Nat) : Int) - 2) = ((q + 2 : Nat) : Int) - 2 := IntWalk.i64_in _ (by omega)
                have j4 : IntKind.i64.wrap (((q + 2 : Nat) : Int) + 1) = ((q + 2 : Nat) : Int) + 1 := IntWalk.i64_in _ (by omega)
                obtain ⟨G0, hG0⟩ : ∃ g, wt (q + 2) = g := ⟨_, rfl⟩
                obtain ⟨G1, hG1⟩ : ∃ g, wt (q + 1) = g := ⟨_, rfl⟩
                obtain ⟨G2, hG2⟩ : ∃ g, wt q = g := ⟨_, rfl⟩
                rw [hG0] at cJ0 hsum
                rw [hG1] at cJ1 hsum
                rw [hG2] at cJ2 hsum
                obtain ⟨J, hJ⟩ : ∃ J : Nat, q + 2 = J := ⟨_, rfl⟩
                rw [hJ] at cJ0 cJ1 cJ2 j1 j2 j3 j4 ⊢
                clear e0 e1 e2 es hB0 hB1 hG0 hG1 hG2
                go_wp2_with (first | (go_at_call 42; (with_reducible refine (cJ0 _).mono ?_); rintro e wq ⟨rfl, hbq⟩; have hbw := Qtrans hbq hzw hbw; have hzw := hbw.size) | (go_at_call 42; (with_reducible refine (cJ1 _).mono ?_); rintro e wq ⟨rfl, hbq⟩; have hbw := Qtrans hbq hzw hbw; have hzw := hbw.size) | (go_at_call 42; (with_reducible refine (cJ2 _).mono ?_); rintro e wq ⟨rfl, hbq⟩; have hbw := Qtrans hbq hzw hbw; have hzw := hbw.size))
                exact ⟨⟨J + 1, by omega, by omega, by go_num, hbw⟩, by simp [intOf]; omega⟩
              · have j1 : ¬ (j : Int) < 20 := by omega
                have cW0 : ∀ w, Calls Tryd.prog 42 #[.int .i64 0] w fun e w' => e = .returned (.int .i64 1) ∧ Below w.heap.size w w' := fun w => by
                  have := implWeightOf_any ((0 : Nat) : Int) w; rwa [wv_wt 0 (by omega)] at this
                have cW1 : ∀ w, Calls Tryd.prog 42 #[.int .i64 1] w fun e w' => e = .returned (.int .i64 2) ∧ Below w.heap.size w w' := fun w => by
                  have := implWeightOf_any ((1 : Nat) : Int) w; rwa [wv_wt 1 (by omega)] at this
                have cW5 : ∀ w, Calls Tryd.prog 42 #[.int .i64 5] w fun e w' => e = .returned (.int .i64 13) ∧ Below w.heap.size w w' := fun w => by
                  have := implWeightOf_any ((5 : Nat) : Int) w; rw [wv_wt 5 (by omega)] at this; exact this
                have cD0 : ∀ w, Calls Tryd.prog 43 #[.int .i64 0] w fun e w' => e = .returned (.int .i64 0) ∧ Below w.heap.size w w' := fun w => by
                  have := implDigits_any 0 w; rwa [dg0] at this
                have cY12 : ∀ w, Calls Tryd.prog 46 #[.int .i64 12] w fun e w' => e = .returned (.int .i64 1) ∧ Below w.heap.size w w' := fun w => by
                  have := implWays_any 12 w; rwa [wy_12] at this
                have y1 : 1 ≤ Y := hY
                go_wp2_with (first | (go_at_call 46; (with_reducible refine (cY _).mono ?_); rintro e wq ⟨rfl, hbq⟩; have hbw := Qtrans hbq hzw hbw; have hzw := hbw.size) | (go_at_call 46; (with_reducible refine (cY12 _).mono ?_); rintro e wq ⟨rfl, hbq⟩; have hbw := Qtrans hbq hzw hbw; have hzw := hbw.size) | (go_at_call 42; (with_reducible refine (cW0 _).mono ?_); rintro e wq ⟨rfl, hbq⟩; have hbw := Qtrans hbq hzw hbw; have hzw := hbw.size) | (go_at_call 42; (with_reducible refine (cW1 _).mono ?_); rintro e wq ⟨rfl, hbq⟩; have hbw := Qtrans hbq hzw hbw; have hzw := hbw.size) | (go_at_call 42; (with_reducible refine (cW5 _).mono ?_); rintro e wq ⟨rfl, hbq⟩; have hbw := Qtrans hbq hzw hbw; have hzw := hbw.size) | (go_at_call 43; (with_reducible refine (cD0 _).mono ?_); rintro e wq ⟨rfl, hbq⟩; have hbw := Qtrans hbq hzw hbw; have hzw := hbw.size))
                go_ret
                exact ⟨rfl, hbw⟩
end Go.Proofs.YtilbhingfnjppaaDoor
