/- The law on chains: the walk. -/
import Derived.Test.YtilbhingfnjppaaDoorChR
import Derived.Test.YtilbhingfnjppaaDoorFibB
import Derived.Test.YtilbhingfnjppaaDoorMGold
import Derived.Test.YtilbhingfnjppaaDoorGoldH
import Derived.Test.YtilbhingfnjppaaDoorGoldV
import Derived.Test.YtilbhingfnjppaaDoorWinA
set_option linter.unusedSimpArgs false
set_option linter.unusedVariables false
namespace Go.Proofs.YtilbhingfnjppaaDoor
open Go.RowKit
theorem rB_ofR {w : World} {x : Option Addr} {n cap : Nat} {zs : List Int} (h : IsRow .u8 w x n cap zs) : RB w.heap.size w x n := by
  obtain ⟨h1, h2, h3, h4, h5⟩ := h
  unfold maxLen at h3
  refine ⟨by omega, ?_⟩
  rcases h5 with h5 | ⟨b, off, e, hb, hj⟩
  · exact .inl h5
  · refine .inr ⟨b, off, e, hb, fun j q => ?_⟩
    have hm : zs.getD j 0 ∈ zs := by
      rw [List.getD_eq_getElem?_getD, List.getElem?_eq_getElem (by omega)]; exact List.getElem_mem _
    have hw := h4 _ hm
    simp [Lit.wf, IntKind.min, IntKind.max, IntKind.signed, IntKind.bits] at hw
    exact ⟨_, hw.1, hw.2, hj j q⟩
theorem own2_cap {w : World} {B n cap sz : Nat} {x : Option Addr} {e : TypeId} {xs : List Value} (h : w.ownsRow B e sz (.slice x n cap) n xs) : n ≤ cap := by
  rcases h.2 with ⟨q, h0⟩ | ⟨g, c, cur, q, _, _, hc, _⟩
  · omega
  · simp only [Value.slice.injEq] at q
    omega
theorem grown_all {a b c d : Int} (ha : -1000 ≤ a ∧ a ≤ 1000) (hb : -1000 ≤ b ∧ b ≤ 1000) (hc : -1000 ≤ c ∧ c ≤ 1000) (hd : -1000 ≤ d ∧ d ≤ 1000) (h : grK a b c d = true) :
    gz true (grA c d) = c - d ∧ gz true (grB c d) = -c ∧ gz true (grA a b) = a - b ∧ gz true (grB a b) = -a ∧ win (c - d) (-c) (a - b) (-a) = true := by
  obtain ⟨e1, e2⟩ := grA_eq ha hb
  obtain ⟨e3, e4⟩ := grA_eq hc hd
  unfold grK at h
  rw [Bool.and_eq_true] at h
  refine ⟨?_, ?_, ?_, ?_, ?_⟩
  · show grA c d = _; exact e3
  · show grB c d = _; exact e4
  · show grA a b = _; exact e1
  · show grB a b = _; exact e2
  · rw [← e1, ← e2, ← e3, ← e4]; exact h.2
theorem w64 {z : Int} (h1 : -1000000 ≤ z) (h2 : z ≤ 1000000) : wrap64 z = z := by unfold wrap64; omega
theorem SubGold_ok (x1 x2 y1 y2 : Int) (h1 : -20000 ≤ x1 ∧ x1 ≤ 20000) (h2 : -20000 ≤ x2 ∧ x2 ≤ 20000) (h3 : -20000 ≤ y1 ∧ y1 ≤ 20000) (h4 : -20000 ≤ y2 ∧ y2 ≤ 20000) (w : World) :
    Calls Tryd.prog 31 #[.agg #[.int .i64 (x1), .int .i64 (x2)], .agg #[.int .i64 (y1), .int .i64 (y2)]] w fun e w' => e = .returned (.tuple #[.agg #[.int .i64 (x1 - y1), .int .i64 (x2 - y2)], .bool true]) ∧ Below w.heap.size w w' := by
  have := implSubGold_any x1 x2 y1 y2 w
  rw [w64 (z := x1 - y1) (by omega) (by omega), w64 (z := x2 - y2) (by omega) (by omega)] at this
  have hk3 : k3 x1 x2 y1 y2 (x1 - y1) (x2 - y2) = true := by
    unfold k3
    rw [okB_of ⟨by omega, by omega⟩ ⟨by omega, by omega⟩, okB_of ⟨by omega, by omega⟩ ⟨by omega, by omega⟩, okB_of ⟨by omega, by omega⟩ ⟨by omega, by omega⟩]; rfl
  rw [hk3] at this
  exact this
theorem AddGold_ok (x1 x2 y1 y2 : Int) (h1 : -50000 ≤ x1 ∧ x1 ≤ 50000) (h2 : -50000 ≤ x2 ∧ x2 ≤ 50000) (h3 : -50000 ≤ y1 ∧ y1 ≤ 50000) (h4 : -50000 ≤ y2 ∧ y2 ≤ 50000) (w : World) :
    Calls Tryd.prog 32 #[.agg #[.int .i64 (x1), .int .i64 (x2)], .agg #[.int .i64 (y1), .int .i64 (y2)]] w fun e w' => e = .returned (.tuple #[.agg #[.int .i64 (x1 + y1), .int .i64 (x2 + y2)], .bool true]) ∧ Below w.heap.size w w' := by
  have := implAddGold_any x1 x2 y1 y2 w
  rw [w64 (z := x1 + y1) (by omega) (by omega), w64 (z := x2 + y2) (by omega) (by omega)] at this
  have hk3 : k3 x1 x2 y1 y2 (x1 + y1) (x2 + y2) = true := by
    unfold k3
    rw [okB_of ⟨by omega, by omega⟩ ⟨by omega, by omega⟩, okB_of ⟨by omega, by omega⟩ ⟨by omega, by omega⟩, okB_of ⟨by omega, by omega⟩ ⟨by omega, by omega⟩]; rfl
  rw [hk3] at this
  exact this
theorem MateOf_ok (x1 x2 : Int) (h1 : -20000 ≤ x1 ∧ x1 ≤ 20000) (h2 : -20000 ≤ x2 ∧ x2 ≤ 20000) (w : World) :
    Calls Tryd.prog 34 #[.agg #[.int .i64 (x1), .int .i64 (x2)]] w fun e w' => e = .returned (.tuple #[.agg #[.int .i64 (x1 + x2), .int .i64 (-x2)], .bool true]) ∧ Below w.heap.size w w' := by
  have := implMateOf_any x1 x2 w
  have hk3 : mateK x1 x2 = true := by
    unfold mateK
    rw [w64 (z := x1 + x2) (by omega) (by omega), w64 (z := -x2) (by omega) (by omega), okB_of ⟨by omega, by omega⟩ ⟨by omega, by omega⟩, okB_of ⟨by omega, by omega⟩ ⟨by omega, by omega⟩]; rfl
  rw [hk3, w64 (z := x1 + x2) (by omega) (by omega), w64 (z := -x2) (by omega) (by omega)] at this
  exact this
theorem MulGold_ok (x1 x2 : Int) (h1 : -20000 ≤ x1 ∧ x1 ≤ 20000) (h2 : -20000 ≤ x2 ∧ x2 ≤ 20000) (w : World) :
    Calls Tryd.prog 35 #[.agg #[.int .i64 (x1), .int .i64 (x2)], .agg #[.int .i64 (0), .int .i64 (1)]] w fun e w' => e = .returned (.tuple #[.agg #[.int .i64 (x2), .int .i64 (x1 + x2)], .bool true]) ∧ Below w.heap.size w w' := by
  have := implMulGold_any x1 x2 0 1 w
  have e1 : mulA x1 x2 0 1 = x2 := by
    unfold mulA
    rw [w64 (z := x1 * 0) (by omega) (by omega), w64 (z := x2 * 1) (by omega) (by omega), w64 (by omega) (by omega)]; omega
  have e2 : mulB x1 x2 0 1 = x1 + x2 := by
    unfold mulB
    rw [w64 (z := x1 * 1) (by omega) (by omega), w64 (z := x2 * 0) (by omega) (by omega), w64 (z := x2 * 1) (by omega) (by omega), w64 (z := x1 * 1 + x2 * 0) (by omega) (by omega), w64 (by omega) (by omega)]; omega
  rw [e1, e2] at this
  have hk3 : k3 x1 x2 0 1 x2 (x1 + x2) = true := by
    unfold k3
    rw [okB_of ⟨by omega, by omega⟩ ⟨by omega, by omega⟩, okB_of (a := 0) (b := 1) ⟨by omega, by omega⟩ ⟨by omega, by omega⟩, okB_of ⟨by omega, by omega⟩ ⟨by omega, by omega⟩]; rfl
  rw [hk3] at this
  exact this
theorem SignOf_ok (x1 x2 : Int) (h1 : -50000 ≤ x1 ∧ x1 ≤ 50000) (h2 : -50000 ≤ x2 ∧ x2 ≤ 50000) (w : World) :
    Calls Tryd.prog 30 #[.agg #[.int .i64 (x1), .int .i64 (x2)]] w fun e w' => e = .returned (.int .i64 (sgn x1 x2)) ∧ Below w.heap.size w w' := by
  have := implSignOf_any x1 x2 w
  rw [okB_of ⟨by omega, by omega⟩ ⟨by omega, by omega⟩] at this
  exact this
set_option maxRecDepth 20000 in
set_option maxHeartbeats 8000000 in
theorem FnChains_law (wc : World) (px : Option Addr) (n cap : Nat) (cz : List Int) (hrow : IsRow .u8 wc px n cap cz) (gm : Int) (hgm : wc.cell? ⟨0, 0, none⟩ = some (.int .i64 gm)) :
    Calls Tryd.prog 5 #[.slice px n cap] wc fun e w' => e = .returned (.bool true) ∧ Below wc.heap.size wc w' := by
  have hr := rB_ofR hrow
  have hn := hr.1
  have hg0 : 0 < wc.heap.size := World.block_lt_of_cell? wc _ hgm
  clear hrow
  by_cases hbig : (1048576 : Int) < (n : Int)
  · clear hgm
    go_enter Tryd.func5, Tryd.ntmps5
    go_wp2
    go_ret
    exact ⟨rfl, by (repeat (first | with_reducible exact Below.refl _ _ | assumption | with_reducible refine Qdrew ?_ | with_reducible refine QdrewN ?_ | ((with_reducible refine Qset ?_ ?_); exact (by ((try simp only [World.size_alloc, World.size_setCell, World.size_drew, size_drewN]); (try dsimp only); omega))) | ((with_reducible refine Qalloc ?_ ?_); exact (by ((try simp only [World.size_alloc, World.size_setCell, World.size_drew, size_drewN]); (try dsimp only); omega))) | refine Qtrans (by assumption) (by ((try simp only [World.size_alloc, World.size_setCell, World.size_drew, size_drewN]); (try dsimp only); omega)) ?_))⟩
  have hgmH := Lib.hid hgm
  have hrH := Lib.hid hr
  clear hgm
  go_enter Tryd.func5, Tryd.ntmps5
  go_upto_region 4 with (go_at_call 22; refine (MakeWindow_any wc.heap.size px n cap 0 (by omega) wc (Nat.le_refl _) hr).mono ?_; rintro e w1 ⟨a, b, dd, rfl, ha, hb, hdm, hb1⟩)
  obtain ⟨g1, g2, Dd, hcls⟩ := cls_of ha hb hdm
  obtain ⟨c, hc⟩ : ∃ c, a + dd.1 = c := ⟨_, rfl⟩
  obtain ⟨d, hd⟩ : ∃ d, b + dd.2 = d := ⟨_, rfl⟩
  have hcd : (-100 ≤ c ∧ c ≤ 100) ∧ (-100 ≤ d ∧ d ≤ 100) := ⟨by have := hcls.w.h1; rw [hc] at this; exact this, by have := hcls.w.h2; rw [hd] at this; exact this⟩
  rw [hc, hd] at hcls ⊢
  have hwin := Win_win hcls.w
  have hz1 := hb1.size
  have kA : ((w1.alloc (.cells #[.int .i64 a, .int .i64 b] 44)).alloc (.cells #[.int .i64 c, .int .i64 d] 44)).cell? ⟨w1.heap.size, 0, none⟩ = some (.int .i64 a) := by simp [go_sem]
  have kB : ((w1.alloc (.cells #[.int .i64 a, .int .i64 b] 44)).alloc (.cells #[.int .i64 c, .int .i64 d] 44)).cell? ⟨w1.heap.size, 1, none⟩ = some (.int .i64 b) := by simp [go_sem]
  have kC : ((w1.alloc (.cells #[.int .i64 a, .int .i64 b] 44)).alloc (.cells #[.int .i64 c, .int .i64 d] 44)).cell? ⟨w1.heap.size + 1, 0, none⟩ = some (.int .i64 c) := by simp [go_sem]
  have kD : ((w1.alloc (.cells #[.int .i64 a, .int .i64 b] 44)).alloc (.cells #[.int .i64 c, .int .i64 d] 44)).cell? ⟨w1.heap.size + 1, 1, none⟩ = some (.int .i64 d) := by simp [go_sem]
  have bT : Below wc.heap.size wc ((w1.alloc (.cells #[.int .i64 a, .int .i64 b] 44)).alloc (.cells #[.int .i64 c, .int .i64 d] 44)) := (hb1.alloc hz1 _).alloc (by simp; omega) _
  have lA : w1.heap.size < ((w1.alloc (.cells #[.int .i64 a, .int .i64 b] 44)).alloc (.cells #[.int .i64 c, .int .i64 d] 44)).heap.size := by simp; omega
  have lC : w1.heap.size + 1 < ((w1.alloc (.cells #[.int .i64 a, .int .i64 b] 44)).alloc (.cells #[.int .i64 c, .int .i64 d] 44)).heap.size := by simp
  obtain ⟨W, hWe⟩ : ∃ W, (w1.alloc (.cells #[.int .i64 a, .int .i64 b] 44)).alloc (.cells #[.int .i64 c, .int .i64 d] 44) = W := ⟨_, rfl⟩
  rw [hWe] at kA kB kC kD bT lA lC ⊢
  obtain ⟨p0, hp0⟩ : ∃ p, w1.heap.size = p := ⟨_, rfl⟩
  rw [hp0] at kA kB lA kC kD lC ⊢
  obtain ⟨p1, hp1⟩ : ∃ p, p0 + 1 = p := ⟨_, rfl⟩
  rw [hp1] at kC kD lC ⊢
  have zT := bT.size
  have hbw : Below W.heap.size W W := Below.refl _ W
  have hzw : W.heap.size ≤ W.heap.size := Nat.le_refl _
  clear hWe hp0 hp1 hb1 hz1 hc hd
  have cMS : ∀ w, Below W.heap.size W w → Calls Tryd.prog 23 #[.slice px n cap, .int .i64 20, .int .i64 2, .int .i64 40] w fun e w' => ∃ v : Int, e = .returned (.int .i64 v) ∧ (2 ≤ v ∧ v ≤ 40) ∧ Below w.heap.size w w' := fun w hb => by
    have hb2 := Qtrans hb zT bT
    exact MakeSize_any wc.heap.size px n cap 20 (by omega) 2 40 (by omega) (by omega) (by omega) w hb2.size (rB_below hrH.out hb2)
  go_upto_region 5 with (go_at_call 23; refine (cMS _ hbw).mono ?_; rintro e wq ⟨v, rfl, ⟨hv1, hv2⟩, hbq⟩; obtain ⟨m, rfl⟩ : ∃ m : Nat, v = (m : Int) := ⟨v.toNat, (by omega)⟩; have hbw := Qtrans hbq hzw hbw; have hzw := hbw.size; obtain ⟨hcq, hfq⟩ := bcell hbw; have hlq := ltW hbw)
  have hm1 : 2 ≤ m ∧ m ≤ 40 := by omega
  clear cMS hr
  -- what the lists are
  have cL := fun w => implChainOf_any a b c d m w
  have cS := fun w => implSteps_any a b c d m w
  have cK := fun w => implKinds_any a b c d w
  have cW := fun w => implWord_any a b c d m w
  have cO := fun w => implWindowOk_any a b c d w
  rw [hwin] at cO
  rw [chL_length hwin (by omega) (by omega)] at cL
  rw [stL_length hwin (by omega) (by omega)] at cS
  have hLat := fun k (hk : k < m) => chL_at hwin (m := m) (by omega) (by omega) hk
  have hSat := fun k (hk : k < m) => stL_at hwin (m := m) (by omega) (by omega) hk
  obtain ⟨n3a, n3b, n3c⟩ := kdL_three hcls
  have hKb := kdL_bg a b c d
  have hWat := fun k (hk : k < m) => wordL_at hwin (m := m) (by omega) (by omega) hk
  have hWs := wordL_size hwin (m := m) (by omega) (by omega)
  have hXm := fun k (hk : k < 60) => memb_of hcls.w (chn_low hcls.w hk).1 (chn_bp hwin hk)
  have hXb := fun k (hk : k < 60) => chn_bp hwin hk
  have hXi := fun k (hk : k < 60) => (chn_low hcls.w hk).1
  have hXa := fun k (hk : k + 1 < 60) => chn_asc hcls.w (show k < k + 1 by omega) (by have := specL_60 hcls.w; omega)
  obtain ⟨X, hX⟩ : ∃ X, chn (a, b) (c, d) = X := ⟨_, rfl⟩
  rw [hX] at hLat hSat hXm hXb hXa hXi
  obtain ⟨L, hL⟩ : ∃ L, chL a b c d m = L := ⟨_, rfl⟩
  rw [hL] at cL hLat
  obtain ⟨S, hS⟩ : ∃ L, stL a b c d m = L := ⟨_, rfl⟩
  rw [hS] at cS hSat hWat
  obtain ⟨K, hK⟩ : ∃ L, kdL a b c d = L := ⟨_, rfl⟩
  rw [hK] at cK n3a n3b n3c hKb hWat
  obtain ⟨N3, hN3⟩ : ∃ L, K.length = L := ⟨_, rfl⟩
  rw [hN3] at cK n3a n3b n3c hWat
  obtain ⟨wd, hwd⟩ : ∃ L, wordL a b c d m = L := ⟨_, rfl⟩
  rw [hwd] at cW hWat hWs
  have hXdH : Hid (∀ k, k + 1 < 60 → sgn ((X (k + 1)).1 - (X k).1) ((X (k + 1)).2 - (X k).2) = 1) := fun k hk => by
    have b1 := hXb k (by omega)
    have b2 := hXb (k + 1) hk
    exact (gt_key (x := X k) (y := X (k + 1)) ⟨⟨by have := b1.1.1; omega, by have := b1.1.2; omega⟩, ⟨by have := b1.2.1; omega, by have := b1.2.2; omega⟩⟩ ⟨⟨by have := b2.1.1; omega, by have := b2.1.2; omega⟩, ⟨by have := b2.2.1; omega, by have := b2.2.2; omega⟩⟩).2 (hXa k hk)
  have hLatH := Lib.hid hLat
  have hSatH := Lib.hid hSat
  have hWatH := Lib.hid hWat
  have hXmH := Lib.hid hXm
  have hXbH := Lib.hid hXb
  have hXiH := Lib.hid hXi
  have n3cH := Lib.hid n3c
  have hKbH := Lib.hid hKb
  have hclsH := Lib.hid hcls
  have hwinH := Lib.hid hwin
  clear hLat hSat hWat hXm hXb hXa hX hL hS hK hwd hXi n3c hKb hcls hwin
  go_upto_region 6 with (go_at_call 24; refine (cL _).mono ?_; rintro e wq ⟨xL, kL, rfl, oL, hbq⟩; have hbw := Qtrans hbq hzw hbw; have hzw := hbw.size; obtain ⟨hcq, hfq⟩ := bcell hbw; have hlq := ltW hbw)
  have hkL := own2_cap oL
  have sL := rG_own oL (by omega)
  clear oL cL
  go_upto_region 7 with (go_at_call 25; refine (cS _).mono ?_; rintro e wr ⟨xS, kS, rfl, oS, hbr⟩; have hbw := Qtrans hbr hzw hbw; have hzw := hbw.size; obtain ⟨hcq, hfq⟩ := bcell hbw; have hlq := ltW hbw)
  have sS := rG_own oS (by omega)
  have sL := rG_below sL (Nat.le_refl _) hbr
  clear oS cS
  go_upto_region 8 with (go_at_call 26; refine (cK _).mono ?_; rintro e ws ⟨xK, kK, rfl, oK, hbs⟩; have hbw := Qtrans hbs hzw hbw; have hzw := hbw.size; obtain ⟨hcq, hfq⟩ := bcell hbw; have hlq := ltW hbw)
  have sK := rG_own oK (by omega)
  have sL := rG_below sL (Nat.le_refl _) hbs
  have sS := rG_below sS (Nat.le_refl _) hbs
  clear oK cK
  have q1 : ¬ (N3 : Int) < 2 := by omega
  have q2 : ¬ (3 : Int) < (N3 : Int) := by omega
  have q3 : (wd.size : Int) = (m : Int) := by omega
  go_upto_region 9 with (go_at_call 27; (with_reducible refine (cW _).mono ?_); rintro e wq ⟨rfl, hbq⟩; have hbw := Qtrans hbq hzw hbw; have hzw := hbw.size; obtain ⟨hcq, hfq⟩ := bcell hbw; have hlq := ltW hbw)
  have sL := rG_below sL (Nat.le_refl _) hbq
  have sS := rG_below sS (Nat.le_refl _) hbq
  have sK := rG_below sK (Nat.le_refl _) hbq
  clear cW
  go_upto_region 11 with (go_at_call 28; (with_reducible refine (cO _).mono ?_); rintro e wq ⟨rfl, hbq⟩; have hbw := Qtrans hbq hzw hbw; have hzw := hbw.size; obtain ⟨hcq, hfq⟩ := bcell hbw; have hlq := ltW hbw)
  have sL := rG_below sL (Nat.le_refl _) hbq
  have sS := rG_below sS (Nat.le_refl _) hbq
  have sK := rG_below sK (Nat.le_refl _) hbq
  clear cO q1 q2
  have hA0 := (hbw.cell (p := ⟨p0, 0, none⟩) lA).trans kA
  have hA1 := (hbw.cell (p := ⟨p0, 1, none⟩) lA).trans kB
  have hC0 := (hbw.cell (p := ⟨p1, 0, none⟩) lC).trans kC
  have hC1 := (hbw.cell (p := ⟨p1, 1, none⟩) lC).trans kD
  have lA' : p0 < wq.heap.size := by omega
  have lC' : p1 < wq.heap.size := by omega
  have bQ := Qtrans hbw zT bT
  have zQ := bQ.size
  obtain ⟨bL, rfl, lL, cLL⟩ := rG_cell sL (by omega)
  obtain ⟨bS, rfl, lS, cSS⟩ := rG_cell sS (by omega)
  obtain ⟨bK, rfl, lK, cKK⟩ := rG_cell sK (by omega)
  have cLH := Lib.hid cLL
  have cSH := Lib.hid cSS
  have cKH := Lib.hid cKK
  obtain ⟨V, hV⟩ : ∃ V, wq = V := ⟨_, rfl⟩
  subst hV
  clear kA kB kC kD lA lC bT zT hbw hzw hcq hfq hlq hbq cLL cSS cKK sL sS sK
  go_wp2_with fail
  go_loopw [91] (fun i wr => ∃ k : Nat, k ≤ m ∧ i = .int .i64 k ∧ Below wq.heap.size wq wr) (fun i _ => m - (intOf i).toNat)
  case atStart => exact ⟨0, by omega, rfl, Below.refl _ _⟩
  case round =>
    obtain ⟨k, hk, rfl, hbw⟩ := hrel
    have hzw := hbw.size
    have rA0 := (hbw.cell (p := ⟨p0, 0, none⟩) lA').trans hA0
    have rA1 := (hbw.cell (p := ⟨p0, 1, none⟩) lA').trans hA1
    have rC0 := (hbw.cell (p := ⟨p1, 0, none⟩) lC').trans hC0
    have rC1 := (hbw.cell (p := ⟨p1, 1, none⟩) lC').trans hC1
    have mA : p0 < wr.heap.size := by omega
    have mC : p1 < wr.heap.size := by omega
    by_cases hlt : k < m
    · obtain ⟨c1, c2⟩ := cLH.out k hlt
      have r1 := (hbw.cell (p := ⟨bL, k * 2, none⟩) lL).trans c1
      have r2 := (hbw.cell (p := ⟨bL, k * 2 + 1, none⟩) lL).trans c2
      rw [hLatH.out k hlt] at r1 r2
      obtain ⟨me, sg⟩ := hXmH.out k (by omega)
      have xb := hXbH.out k (by omega)
      have cI := fun w => implInChain_any a b c d (X k).1 (X k).2 w
      rw [me] at cI
      have cG := fun w => SignOf_ok (X k).1 (X k).2 ⟨by have := xb.1.1; omega, by have := xb.1.2; omega⟩ ⟨by have := xb.2.1; omega, by have := xb.2.2; omega⟩ w
      obtain ⟨x1, hx1⟩ : ∃ z, (X k).1 = z := ⟨_, rfl⟩
      obtain ⟨x2, hx2⟩ : ∃ z, (X k).2 = z := ⟨_, rfl⟩
      rw [hx1] at r1
      rw [hx2] at r2
      rw [hx1, hx2] at cI cG sg
      obtain ⟨sv, hsv⟩ : ∃ z, sgn x1 x2 = z := ⟨_, rfl⟩
      rw [hsv] at cG sg
      have s0 : ¬ sv < 0 := by omega
      have j0 : (0 : Int) ≤ (k : Int) := by omega
      have j1 : (k : Int) < (m : Int) := by omega
      have j2 : IntKind.i64.wrap ((k : Int) + 1) = (k : Int) + 1 := IntWalk.i64_in _ (by omega)
      have mL : bL < wr.heap.size := by omega
      have hx1H := Lib.hid hx1
      have hx2H := Lib.hid hx2
      clear me hsv c1 c2 hx1 hx2 sg
      clear rA0 rA1 rC0 rC1
      go_upto_region 14 with fail
      have hA := hbw.alloc hzw (.cells #[.int .i64 x1, .int .i64 x2] 44)
      have k11 : (wr.alloc (.cells #[.int .i64 x1, .int .i64 x2] 44)).cell? ⟨wr.heap.size, 0, none⟩ = some (.int .i64 x1) := by simp [go_sem]
      have k12 : (wr.alloc (.cells #[.int .i64 x1, .int .i64 x2] 44)).cell? ⟨wr.heap.size, 1, none⟩ = some (.int .i64 x2) := by simp [go_sem]
      have l11 : wr.heap.size < (wr.alloc (.cells #[.int .i64 x1, .int .i64 x2] 44)).heap.size := by simp
      obtain ⟨W2, hW2⟩ : ∃ V, (wr.alloc (.cells #[.int .i64 x1, .int .i64 x2] 44)) = V := ⟨_, rfl⟩
      rw [hW2] at hA k11 k12 l11 ⊢
      obtain ⟨p2, hp2⟩ : ∃ p, wr.heap.size = p := ⟨_, rfl⟩
      rw [hp2] at k11 k12 l11 ⊢
      have z2 := hA.size
      have rA0 := (hA.cell (p := ⟨p0, 0, none⟩) lA').trans hA0
      have rA1 := (hA.cell (p := ⟨p0, 1, none⟩) lA').trans hA1
      have rC0 := (hA.cell (p := ⟨p1, 0, none⟩) lC').trans hC0
      have rC1 := (hA.cell (p := ⟨p1, 1, none⟩) lC').trans hC1
      have nA : p0 < W2.heap.size := by omega
      have nC : p1 < W2.heap.size := by omega
      have nL : bL < W2.heap.size := by omega
      have nS : bS < W2.heap.size := by omega
      clear hbw hzw r1 r2 hW2 hp2 mA mC mL
      have hbw : Below W2.heap.size W2 W2 := Below.refl _ W2
      have hzw : W2.heap.size ≤ W2.heap.size := Nat.le_refl _
      go_upto_if 107 with (first | (go_at_call 29; (with_reducible refine (cI _).mono ?_); rintro e wq ⟨rfl, hbq⟩; have hbw := Qtrans hbq hzw hbw; have hzw := hbw.size; obtain ⟨hcq, hfq⟩ := bcell hbw; have hlq := ltW hbw) | (go_at_call 30; (with_reducible refine (cG _).mono ?_); rintro e wq ⟨rfl, hbq⟩; have hbw := Qtrans hbq hzw hbw; have hzw := hbw.size; obtain ⟨hcq, hfq⟩ := bcell hbw; have hlq := ltW hbw))
      have hbwH := Lib.hid hbw
      have hAH := Lib.hid hA
      clear cI cG s0
      by_cases hk0 : k = 0
      · subst hk0
        go_wp2_with fail
        exact ⟨⟨1, by omega, by go_num, Qtrans hbw z2 hA⟩, by simp [intOf]; omega⟩
      · obtain ⟨j, rfl⟩ : ∃ j, k = j + 1 := ⟨k - 1, by omega⟩
        obtain ⟨c1, c2⟩ := cLH.out j (by omega)
        rw [hLatH.out j (by omega)] at c1 c2
        obtain ⟨c3, c4⟩ := cSH.out j (by omega)
        rw [hSatH.out j (by omega)] at c3 c4
        have hsg := hXdH.out j (by omega)
        have xb := hXbH.out j (by omega)
        have xb2 := hXbH.out (j + 1) (by omega)
        rw [hx1H.out, hx2H.out] at hsg
        have e1 : (sub2 (X (j + 1)) (X j)).1 = x1 - (X j).1 := by rw [← hx1H.out]; rfl
        have e2 : (sub2 (X (j + 1)) (X j)).2 = x2 - (X j).2 := by rw [← hx2H.out]; rfl
        rw [e1] at c3
        rw [e2] at c4
        obtain ⟨⟨u1, u2⟩, u3, u4⟩ := xb
        obtain ⟨⟨u5, u6⟩, u7, u8⟩ := xb2
        rw [hx1H.out] at u5 u6
        rw [hx2H.out] at u7 u8
        obtain ⟨y1, hy1⟩ : ∃ z, (X j).1 = z := ⟨_, rfl⟩
        obtain ⟨y2, hy2⟩ : ∃ z, (X j).2 = z := ⟨_, rfl⟩
        rw [hy1] at c1 c3 u1 u2 hsg
        rw [hy2] at c2 c4 u3 u4 hsg
        have cSu := fun w => SubGold_ok x1 x2 y1 y2 ⟨u5, u6⟩ ⟨u7, u8⟩ ⟨u1, u2⟩ ⟨u3, u4⟩ w
        have cSg := fun w => SignOf_ok (x1 - y1) (x2 - y2) (by omega) (by omega) w
        rw [hsg] at cSg
        obtain ⟨d1, hd1⟩ : ∃ z, x1 - y1 = z := ⟨_, rfl⟩
        obtain ⟨d2, hd2⟩ : ∃ z, x2 - y2 = z := ⟨_, rfl⟩
        rw [hd1] at c3 cSu cSg
        rw [hd2] at c4 cSu cSg
        have bq := Qtrans hbw z2 hA
        have r1 := (bq.cell (p := ⟨bL, j * 2, none⟩) lL).trans c1
        have r2 := (bq.cell (p := ⟨bL, j * 2 + 1, none⟩) lL).trans c2
        have r3 := (bq.cell (p := ⟨bS, j * 2, none⟩) lS).trans c3
        have r4 := (bq.cell (p := ⟨bS, j * 2 + 1, none⟩) lS).trans c4
        have r5 := (hbw.cell (p := ⟨p2, 0, none⟩) l11).trans k11
        have r6 := (hbw.cell (p := ⟨p2, 1, none⟩) l11).trans k12
        have i0 : (0 : Int) ≤ (j : Int) := by omega
        have i1 : (j : Int) < (m : Int) := by omega
        have i3 : IntKind.i64.wrap ((j : Int) + 1 - 1) = (j : Int) := by rw [IntWalk.i64_in _ (by omega)]; omega
        have i4 : IntKind.i64.wrap (j : Int) = (j : Int) := IntWalk.i64_in _ (by omega)
        have i5 : IntKind.i64.wrap ((j : Int) + 1 + 1) = (j : Int) + 1 + 1 := IntWalk.i64_in _ (by omega)
        have i6 : (0 : Int) < (j : Int) + 1 := by omega
        have nL' : bL < wq.heap.size := by omega
        have nP' : p2 < wq.heap.size := by omega
        have nS' : bS < wq.heap.size := by omega
        clear hsg c1 c2 c3 c4 e1 e2 hx1H hx2H hy1 hy2 hd1 hd2 u1 u2 u3 u4 u5 u6 u7 u8 hk0 rA0 rA1 rC0 rC1 hcq hfq hlq
        go_upto_region 17 with fail
        go_cut [12, 13] from 108 to 117 (fun s12 s13 wx => ∃ g, s12 = .pointer (some ⟨g, 0, none⟩) ∧ s13 = .bool true ∧ wx.cell? ⟨g, 0, none⟩ = some (.int .i64 d1) ∧ wx.cell? ⟨g, 1, none⟩ = some (.int .i64 d2) ∧ g < wx.heap.size ∧ Below wq.heap.size wq wx)
        case first =>
          go_region_held3 (fun wx => (∀ bk ofs, bk < wq.heap.size → wx.cell? ⟨bk, ofs, none⟩ = (wq).cell? ⟨bk, ofs, none⟩) ∧ Below (wq.heap.size) (wq) wx) ((refine stays ?_; ((repeat (first | with_reducible exact Below.refl _ _ | assumption | with_reducible refine Qdrew ?_ | with_reducible refine QdrewN ?_ | ((with_reducible refine Qset ?_ ?_); exact (by ((try simp only [World.size_alloc, World.size_setCell, World.size_drew, size_drewN]); (try dsimp only); omega))) | ((with_reducible refine Qalloc ?_ ?_); exact (by ((try simp only [World.size_alloc, World.size_setCell, World.size_drew, size_drewN]); (try dsimp only); omega))) | refine Qtrans (by assumption) (by ((try simp only [World.size_alloc, World.size_setCell, World.size_drew, size_drewN]); (try dsimp only); omega)) ?_)) <;> (go_split_ands; assumption)))) (first | (go_at_call 31; (with_reducible refine (cSu _).mono ?_); rintro e w6 ⟨rfl, hb6⟩; obtain ⟨hc6, hf6⟩ := bcell hb6; have hl6 := ltW hb6; have hz6 := hb6.size; (try simp only [World.size_drew] at hz6); (try (have tq0 := fun o => hb6.cell (p := ⟨(wq).heap.size, o, none⟩) (by ((try simp only [World.size_alloc, World.size_setCell, World.size_drew, size_drewN]); (try dsimp only); omega)); have tf0 := fun o => hb6.frozen (p := ⟨(wq).heap.size, o, none⟩) (by ((try simp only [World.size_alloc, World.size_setCell, World.size_drew, size_drewN]); (try dsimp only); omega)); have tl0 : (wq).heap.size < w6.heap.size := (by have := hb6.size; simp only [World.size_alloc, World.size_drew] at this; omega)))))
          all_goals
            go_wp2_with fail
            go_meet
            refine ⟨_, rfl, rfl, by simp [go_sem, csame, cset, *], by simp [go_sem, csame, cset, *], by ((try simp only [World.size_alloc, World.size_setCell, World.size_drew, size_drewN]); (try dsimp only); omega), by ((repeat (first | with_reducible exact Below.refl _ _ | assumption | with_reducible refine Qdrew ?_ | with_reducible refine QdrewN ?_ | ((with_reducible refine Qset ?_ ?_); exact (by ((try simp only [World.size_alloc, World.size_setCell, World.size_drew, size_drewN]); (try dsimp only); omega))) | ((with_reducible refine Qalloc ?_ ?_); exact (by ((try simp only [World.size_alloc, World.size_setCell, World.size_drew, size_drewN]); (try dsimp only); omega))) | refine Qtrans (by assumption) (by ((try simp only [World.size_alloc, World.size_setCell, World.size_drew, size_drewN]); (try dsimp only); omega)) ?_)) <;> (go_split_ands; assumption))⟩
        case rest =>
          rename World => w5
          obtain ⟨g, rfl, rfl, kg1, kg2, lg, hb5⟩ := hcut
          have r3' := (hb5.cell (p := ⟨bS, j * 2, none⟩) nS').trans r3
          have r4' := (hb5.cell (p := ⟨bS, j * 2 + 1, none⟩) nS').trans r4
          have z5 := hb5.size
          go_upto_region 18 with fail
          have nS5 : bS < w5.heap.size := by omega
          clear r1 r2 r3 r4 r5 r6 
          go_cut [133] from 118 to 133 (fun s wx => s = .bool false ∧ Below w5.heap.size w5 wx)
          case first =>
            go_region_held3 (fun wx => (∀ bk ofs, bk < w5.heap.size → wx.cell? ⟨bk, ofs, none⟩ = (w5).cell? ⟨bk, ofs, none⟩) ∧ Below (w5.heap.size) (w5) wx) ((refine stays ?_; ((repeat (first | with_reducible exact Below.refl _ _ | assumption | with_reducible refine Qdrew ?_ | with_reducible refine QdrewN ?_ | ((with_reducible refine Qset ?_ ?_); exact (by ((try simp only [World.size_alloc, World.size_setCell, World.size_drew, size_drewN]); (try dsimp only); omega))) | ((with_reducible refine Qalloc ?_ ?_); exact (by ((try simp only [World.size_alloc, World.size_setCell, World.size_drew, size_drewN]); (try dsimp only); omega))) | refine Qtrans (by assumption) (by ((try simp only [World.size_alloc, World.size_setCell, World.size_drew, size_drewN]); (try dsimp only); omega)) ?_)) <;> (go_split_ands; assumption)))) (first | (go_at_call 30; (with_reducible refine (cSg _).mono ?_); rintro e w6 ⟨rfl, hb6⟩; obtain ⟨hc6, hf6⟩ := bcell hb6; have hl6 := ltW hb6; have hz6 := hb6.size; (try simp only [World.size_drew] at hz6)))
            all_goals
              go_wp2_with fail
              go_meet
              refine ⟨rfl, by ((repeat (first | with_reducible exact Below.refl _ _ | assumption | with_reducible refine Qdrew ?_ | with_reducible refine QdrewN ?_ | ((with_reducible refine Qset ?_ ?_); exact (by ((try simp only [World.size_alloc, World.size_setCell, World.size_drew, size_drewN]); (try dsimp only); omega))) | ((with_reducible refine Qalloc ?_ ?_); exact (by ((try simp only [World.size_alloc, World.size_setCell, World.size_drew, size_drewN]); (try dsimp only); omega))) | refine Qtrans (by assumption) (by ((try simp only [World.size_alloc, World.size_setCell, World.size_drew, size_drewN]); (try dsimp only); omega)) ?_)) <;> (go_split_ands; assumption))⟩
          case rest =>
            rename World => w7
            obtain ⟨rfl, hb7⟩ := hcut
            go_wp2_with fail
            exact ⟨⟨j + 1 + 1, by omega, by go_num, Qtrans hb7 (by omega) (Qtrans hb5 (by omega) bq)⟩, by simp [intOf]; omega⟩
    · obtain rfl : m = k := by omega
      have j9 : ¬ (m : Int) < (m : Int) := by omega
      have hbwH := Lib.hid hbw
      have hbt : ∀ j (h : j < wd.size), ((wd[j]'h).toNat : Int) = bt wd j := fun j h => bt_eq wd j h
      clear rA0 rA1 rC0 rC1 mA mC
      go_wp2_with fail
      go_loopw [137] (fun i wr => ∃ k : Nat, k ≤ m ∧ i = .int .i64 k ∧ Below wq.heap.size wq wr) (fun i _ => m - (intOf i).toNat)
      case atStart => exact ⟨0, by omega, rfl, hbwH.out⟩
      case round =>
        clear hbw hzw hbwH
        obtain ⟨k, hk, rfl, hbw⟩ := hrel
        have hzw := hbw.size
        by_cases hlt2 : k < m
        · obtain ⟨i, hi, hKi, hbk⟩ := hWatH.out k hlt2
          obtain ⟨c3, c4⟩ := cSH.out k hlt2
          obtain ⟨c5, c6⟩ := cKH.out i hi
          rw [hKi] at c5 c6
          obtain ⟨s1, hs1⟩ : ∃ z, (S.getD k (0, 0)).1 = z := ⟨_, rfl⟩
          obtain ⟨s2, hs2⟩ : ∃ z, (S.getD k (0, 0)).2 = z := ⟨_, rfl⟩
          rw [hs1] at c3 c5
          rw [hs2] at c4 c6
          have r3 := (hbw.cell (p := ⟨bS, k * 2, none⟩) lS).trans c3
          have r4 := (hbw.cell (p := ⟨bS, k * 2 + 1, none⟩) lS).trans c4
          have r5 := (hbw.cell (p := ⟨bK, i * 2, none⟩) lK).trans c5
          have r6 := (hbw.cell (p := ⟨bK, i * 2 + 1, none⟩) lK).trans c6
          have nS : bS < wr.heap.size := by omega
          have nK : bK < wr.heap.size := by omega
          obtain ⟨q, hq⟩ : ∃ q : Nat, N3 - 1 - i = q := ⟨_, rfl⟩
          obtain ⟨BB, hBB⟩ : ∃ z, bt wd k = z := ⟨_, rfl⟩
          rw [hBB] at hbk
          have hbk1 : BB = 97 + (q : Int) := by omega
          have hbtk := fun h => (hbt k h).trans hBB
          have e1 : IntKind.i64.wrap BB = BB := IntWalk.i64_in _ (by omega)
          have e2 : IntKind.i64.wrap (BB - 97) = (q : Int) := by rw [IntWalk.i64_in _ (by omega)]; omega
          have e3 : ¬ (q : Int) < 0 := by omega
          have e4 : ¬ (N3 : Int) ≤ (q : Int) := by omega
          have e5 : IntKind.i64.wrap ((N3 : Int) - 1) = (N3 : Int) - 1 := IntWalk.i64_in _ (by omega)
          have e6 : IntKind.i64.wrap ((N3 : Int) - 1 - (q : Int)) = (i : Int) := by rw [IntWalk.i64_in _ (by omega)]; omega
          have e7 : (0 : Int) ≤ (i : Int) := by omega
          have e8 : (i : Int) < (N3 : Int) := by omega
          have j0 : (0 : Int) ≤ (k : Int) := by omega
          have j1 : (k : Int) < (m : Int) := by omega
          have j2 : IntKind.i64.wrap ((k : Int) + 1) = (k : Int) + 1 := IntWalk.i64_in _ (by omega)
          have j3 : k < wd.size := by omega
          clear hKi hbk hs1 hs2 hq hBB hbk1 c3 c4 c5 c6 hbt hi
          go_upto_region 25 with fail
          go_region
          all_goals
            go_wp2_with fail
            exact ⟨⟨k + 1, by omega, by go_num, (hbw.alloc hzw _).drew⟩, by simp [intOf]; omega⟩
        · obtain rfl : m = k := by omega
          go_upto_if 170 with fail
          have hbwH := Lib.hid hbw
          clear hbt
          go_cut [17, 18] from 170 to 189 (fun _ _ wx => Below wq.heap.size wq wx)
          case first =>
            by_cases h3 : N3 = 3
            · have hKe := n3cH.out h3
              subst h3
              have nK : bK < wr.heap.size := by omega
              obtain ⟨c0, c1⟩ := cKH.out 0 (by omega)
              obtain ⟨c2, c3⟩ := cKH.out 1 (by omega)
              obtain ⟨c4, c5⟩ := cKH.out 2 (by omega)
              have b0 := hKbH.out g1 (by rw [hKe]; simp)
              have b1 := hKbH.out g2 (by rw [hKe]; simp)
              rw [hKe] at c0 c1 c2 c3 c4 c5
              have e0 : ([g1, g2, add2 g1 g2] : List GP).getD 0 (0, 0) = g1 := rfl
              have e1 : ([g1, g2, add2 g1 g2] : List GP).getD 1 (0, 0) = g2 := rfl
              have e2 : ([g1, g2, add2 g1 g2] : List GP).getD 2 (0, 0) = (g1.1 + g2.1, g1.2 + g2.2) := rfl
              rw [e0] at c0 c1
              rw [e1] at c2 c3
              rw [e2] at c4 c5
              obtain ⟨⟨u1, u2⟩, u3, u4⟩ := b0
              obtain ⟨⟨u5, u6⟩, u7, u8⟩ := b1
              have cAd := fun w => AddGold_ok g1.1 g1.2 g2.1 g2.2 ⟨u1, u2⟩ ⟨u3, u4⟩ ⟨u5, u6⟩ ⟨u7, u8⟩ w
              obtain ⟨x1, hx1⟩ : ∃ z, g1.1 = z := ⟨_, rfl⟩
              obtain ⟨x2, hx2⟩ : ∃ z, g1.2 = z := ⟨_, rfl⟩
              obtain ⟨y1, hy1⟩ : ∃ z, g2.1 = z := ⟨_, rfl⟩
              obtain ⟨y2, hy2⟩ : ∃ z, g2.2 = z := ⟨_, rfl⟩
              simp only at c4 c5
              rw [hx1, hy1] at c4
              rw [hx2, hy2] at c5
              rw [hx1] at c0
              rw [hx2] at c1
              rw [hy1] at c2
              rw [hy2] at c3
              rw [hx1, hx2, hy1, hy2] at cAd
              obtain ⟨z1, hz1⟩ : ∃ z, x1 + y1 = z := ⟨_, rfl⟩
              obtain ⟨z2, hz2⟩ : ∃ z, x2 + y2 = z := ⟨_, rfl⟩
              rw [hz1] at c4 cAd
              rw [hz2] at c5 cAd
              have r0 := (hbw.cell (p := ⟨bK, 0, none⟩) lK).trans c0
              have r1 := (hbw.cell (p := ⟨bK, 1, none⟩) lK).trans c1
              have r2 := (hbw.cell (p := ⟨bK, 2, none⟩) lK).trans c2
              have r3 := (hbw.cell (p := ⟨bK, 3, none⟩) lK).trans c3
              have r4 := (hbw.cell (p := ⟨bK, 4, none⟩) lK).trans c4
              have r5 := (hbw.cell (p := ⟨bK, 5, none⟩) lK).trans c5
              clear hKe c0 c1 c2 c3 c4 c5 e0 e1 e2 u1 u2 u3 u4 u5 u6 u7 u8 hx1 hx2 hy1 hy2 hz1 hz2
              go_upto_region 29 with fail
              go_cut [17, 18] from 171 to 180 (fun s17 s18 wx => ∃ g, s17 = .pointer (some ⟨g, 0, none⟩) ∧ s18 = .bool true ∧ wx.cell? ⟨g, 0, none⟩ = some (.int .i64 z1) ∧ wx.cell? ⟨g, 1, none⟩ = some (.int .i64 z2) ∧ g < wx.heap.size ∧ Below wr.heap.size wr wx)
              case first =>
                go_region_held3 (fun wx => (∀ bk ofs, bk < wr.heap.size → wx.cell? ⟨bk, ofs, none⟩ = (wr).cell? ⟨bk, ofs, none⟩) ∧ Below (wr.heap.size) (wr) wx) ((refine stays ?_; ((repeat (first | with_reducible exact Below.refl _ _ | assumption | with_reducible refine Qdrew ?_ | with_reducible refine QdrewN ?_ | ((with_reducible refine Qset ?_ ?_); exact (by ((try simp only [World.size_alloc, World.size_setCell, World.size_drew, size_drewN]); (try dsimp only); omega))) | ((with_reducible refine Qalloc ?_ ?_); exact (by ((try simp only [World.size_alloc, World.size_setCell, World.size_drew, size_drewN]); (try dsimp only); omega))) | refine Qtrans (by assumption) (by ((try simp only [World.size_alloc, World.size_setCell, World.size_drew, size_drewN]); (try dsimp only); omega)) ?_)) <;> (go_split_ands; assumption)))) (first | (go_at_call 32; (with_reducible refine (cAd _).mono ?_); rintro e w6 ⟨rfl, hb6⟩; obtain ⟨hc6, hf6⟩ := bcell hb6; have hl6 := ltW hb6; have hz6 := hb6.size; (try simp only [World.size_drew] at hz6); (try (have tq0 := fun o => hb6.cell (p := ⟨(wr).heap.size, o, none⟩) (by ((try simp only [World.size_alloc, World.size_setCell, World.size_drew, size_drewN]); (try dsimp only); omega)); have tf0 := fun o => hb6.frozen (p := ⟨(wr).heap.size, o, none⟩) (by ((try simp only [World.size_alloc, World.size_setCell, World.size_drew, size_drewN]); (try dsimp only); omega)); have tl0 : (wr).heap.size < w6.heap.size := (by have := hb6.size; simp only [World.size_alloc, World.size_drew] at this; omega)))))
                all_goals
                  go_wp2_with fail
                  go_meet
                  refine ⟨_, rfl, rfl, by simp [go_sem, csame, cset, *], by simp [go_sem, csame, cset, *], by ((try simp only [World.size_alloc, World.size_setCell, World.size_drew, size_drewN]); (try dsimp only); omega), by ((repeat (first | with_reducible exact Below.refl _ _ | assumption | with_reducible refine Qdrew ?_ | with_reducible refine QdrewN ?_ | ((with_reducible refine Qset ?_ ?_); exact (by ((try simp only [World.size_alloc, World.size_setCell, World.size_drew, size_drewN]); (try dsimp only); omega))) | ((with_reducible refine Qalloc ?_ ?_); exact (by ((try simp only [World.size_alloc, World.size_setCell, World.size_drew, size_drewN]); (try dsimp only); omega))) | refine Qtrans (by assumption) (by ((try simp only [World.size_alloc, World.size_setCell, World.size_drew, size_drewN]); (try dsimp only); omega)) ?_)) <;> (go_split_ands; assumption))⟩
              case rest =>
                rename World => w5
                obtain ⟨g, rfl, rfl, kg1, kg2, lg, hb5⟩ := hcut
                have r4' := (hb5.cell (p := ⟨bK, 4, none⟩) nK).trans r4
                have r5' := (hb5.cell (p := ⟨bK, 5, none⟩) nK).trans r5
                have nK5 : bK < w5.heap.size := by have := hb5.size; omega
                have hBf := Qtrans hb5 hzw hbwH.out
                clear r0 r1 r2 r3 r4 r5
                go_upto_region 30 with fail
                go_region
                all_goals
                  go_wp2_with fail
                  go_meet
                  exact hBf.drew
            · have h32 : ¬ (N3 : Int) = 3 := by omega
              have h33 : ((N3 : Int) == 3) = false := by simpa using h32
              go_wp2_with fail
              go_meet
              exact hbwH.out
          case rest =>
            rename World => w20
            have hbw := hcut
            have hzw := hbw.size
            clear hcut hbwH
            have rA0 := (hbw.cell (p := ⟨p0, 0, none⟩) lA').trans hA0
            have rA1 := (hbw.cell (p := ⟨p0, 1, none⟩) lA').trans hA1
            have rC0 := (hbw.cell (p := ⟨p1, 0, none⟩) lC').trans hC0
            have rC1 := (hbw.cell (p := ⟨p1, 1, none⟩) lC').trans hC1
            have mA : p0 < w20.heap.size := by omega
            have mC : p1 < w20.heap.size := by omega
            have cGr := fun w => implGrown_any a b c d w
            have hgr := fun e => grown_all (a := a) (b := b) (c := c) (d := d) (by omega) (by omega) (by omega) (by omega) e
            obtain ⟨gk, hgk⟩ : ∃ z, grK a b c d = z := ⟨_, rfl⟩
            rw [hgk] at cGr hgr
            obtain ⟨o1, ho1⟩ : ∃ z, gz gk (grA c d) = z := ⟨_, rfl⟩
            obtain ⟨o2, ho2⟩ : ∃ z, gz gk (grB c d) = z := ⟨_, rfl⟩
            obtain ⟨o3, ho3⟩ : ∃ z, gz gk (grA a b) = z := ⟨_, rfl⟩
            obtain ⟨o4, ho4⟩ : ∃ z, gz gk (grB a b) = z := ⟨_, rfl⟩
            rw [ho1, ho2, ho3, ho4] at cGr
            have hgrH : Hid (gk = true → o1 = c - d ∧ o2 = -c ∧ o3 = a - b ∧ o4 = -a ∧ win (c - d) (-c) (a - b) (-a) = true) := fun e => by
              obtain ⟨q1, q2, q3, q4, q5⟩ := hgr e
              rw [e] at ho1 ho2 ho3 ho4
              exact ⟨ho1.symm.trans q1, ho2.symm.trans q2, ho3.symm.trans q3, ho4.symm.trans q4, q5⟩
            clear hgk hgr ho1 ho2 ho3 ho4
            go_upto_region 33 with (go_at_call 33; refine (cGr _).mono ?_; rintro e w21 ⟨rfl, hb21⟩)
            have z21 := hb21.size
            have bA := ((Qtrans hb21 hzw hbw).alloc (by omega) (.cells #[.int .i64 o1, .int .i64 o2] 44)).alloc (by simp; omega) (.cells #[.int .i64 o3, .int .i64 o4] 44)
            have k31 : ((w21.alloc (.cells #[.int .i64 o1, .int .i64 o2] 44)).alloc (.cells #[.int .i64 o3, .int .i64 o4] 44)).cell? ⟨w21.heap.size, 0, none⟩ = some (.int .i64 o1) := by simp [go_sem]
            have k32 : ((w21.alloc (.cells #[.int .i64 o1, .int .i64 o2] 44)).alloc (.cells #[.int .i64 o3, .int .i64 o4] 44)).cell? ⟨w21.heap.size, 1, none⟩ = some (.int .i64 o2) := by simp [go_sem]
            have k41 : ((w21.alloc (.cells #[.int .i64 o1, .int .i64 o2] 44)).alloc (.cells #[.int .i64 o3, .int .i64 o4] 44)).cell? ⟨w21.heap.size + 1, 0, none⟩ = some (.int .i64 o3) := by simp [go_sem]
            have k42 : ((w21.alloc (.cells #[.int .i64 o1, .int .i64 o2] 44)).alloc (.cells #[.int .i64 o3, .int .i64 o4] 44)).cell? ⟨w21.heap.size + 1, 1, none⟩ = some (.int .i64 o4) := by simp [go_sem]
            have l3 : w21.heap.size < ((w21.alloc (.cells #[.int .i64 o1, .int .i64 o2] 44)).alloc (.cells #[.int .i64 o3, .int .i64 o4] 44)).heap.size := by simp; omega
            have l4 : w21.heap.size + 1 < ((w21.alloc (.cells #[.int .i64 o1, .int .i64 o2] 44)).alloc (.cells #[.int .i64 o3, .int .i64 o4] 44)).heap.size := by simp
            obtain ⟨W3, hW3⟩ : ∃ V, (w21.alloc (.cells #[.int .i64 o1, .int .i64 o2] 44)).alloc (.cells #[.int .i64 o3, .int .i64 o4] 44) = V := ⟨_, rfl⟩
            rw [hW3] at bA k31 k32 k41 k42 l3 l4 ⊢
            obtain ⟨p3, hp3⟩ : ∃ p, w21.heap.size = p := ⟨_, rfl⟩
            rw [hp3] at k31 k32 l3 k41 k42 l4 ⊢
            obtain ⟨p4, hp4⟩ : ∃ p, p3 + 1 = p := ⟨_, rfl⟩
            rw [hp4] at k41 k42 l4 ⊢
            have zA := bA.size
            have vA0 := (bA.cell (p := ⟨p0, 0, none⟩) lA').trans hA0
            have vA1 := (bA.cell (p := ⟨p0, 1, none⟩) lA').trans hA1
            have mA3 : p0 < W3.heap.size := by omega
            clear rA0 rA1 rC0 rC1 mA mC cGr hW3 hp3 hp4 hb21 z21 hbw hzw
            go_upto_if 197 with fail
            go_cut [22, 23, 24, 25, 26, 27] from 197 to 236 (fun _ _ _ _ _ _ wx => Below wq.heap.size wq wx)
            case first =>
              cases gk
              · go_wp2_with fail
                go_meet
                exact bA
              · obtain ⟨rfl, rfl, rfl, rfl, hw2⟩ := hgrH.out rfl
                obtain ⟨h, hh⟩ : ∃ h, m / 2 = h := ⟨_, rfl⟩
                have e1 : (m : Int).tdiv 2 = (h : Int) := by rw [← hh]; exact (Int.ofNat_tdiv m 2).symm
                have e2 : (0 : Int) ≤ (h : Int) := by omega
                have e3 : (h : Int) ≤ (kL : Int) := by omega
                have hhm : h < m := by omega
                have e4 : IntKind.i64.wrap (h : Int) = (h : Int) := IntWalk.i64_in _ (by omega)
                clear hh
                go_wp2_with fail
                go_loopw [203] (fun i wr => ∃ k : Nat, k ≤ h ∧ i = .int .i64 k ∧ Below W3.heap.size W3 wr) (fun i _ => h - (intOf i).toNat)
                case atStart => exact ⟨0, by omega, rfl, Below.refl _ _⟩
                case round =>
                  obtain ⟨k, hk, rfl, hbw⟩ := hrel
                  have hzw := hbw.size
                  by_cases hlt3 : k < h
                  · obtain ⟨c1, c2⟩ := cLH.out k (by omega)
                    rw [hLatH.out k (by omega)] at c1 c2
                    have bq := Qtrans hbw zA bA
                    have r1 := (bq.cell (p := ⟨bL, k * 2, none⟩) lL).trans c1
                    have r2 := (bq.cell (p := ⟨bL, k * 2 + 1, none⟩) lL).trans c2
                    have nL : bL < wr.heap.size := by omega
                    have xb := hXbH.out k (by omega)
                    have hIn := hXiH.out k (by omega)
                    have hgm2 := fun (hne : ¬ ((X k).1 + (X k).2 = a ∧ -(X k).2 = b)) => grown_memb hclsH.out.w hIn xb hw2 hne
                    obtain ⟨⟨u1, u2⟩, u3, u4⟩ := xb
                    have cMa := fun w => MateOf_ok (X k).1 (X k).2 ⟨u1, u2⟩ ⟨u3, u4⟩ w
                    have cMu := fun w => MulGold_ok (X k).1 (X k).2 ⟨u1, u2⟩ ⟨u3, u4⟩ w
                    have cIn := fun w => implInChain_any (c - d) (-c) (a - b) (-a) (X k).2 ((X k).1 + (X k).2) w
                    obtain ⟨mem, hmem⟩ : ∃ z, member (c - d) (-c) (a - b) (-a) (X k).2 ((X k).1 + (X k).2) = z := ⟨_, rfl⟩
                    rw [hmem] at cIn hgm2
                    obtain ⟨x1, hx1⟩ : ∃ z, (X k).1 = z := ⟨_, rfl⟩
                    obtain ⟨x2, hx2⟩ : ∃ z, (X k).2 = z := ⟨_, rfl⟩
                    rw [hx1] at r1
                    rw [hx2] at r2
                    rw [hx1, hx2] at cMa cMu cIn hgm2
                    obtain ⟨mm1, hm1'⟩ : ∃ z, x1 + x2 = z := ⟨_, rfl⟩
                    obtain ⟨mm2, hm2'⟩ : ∃ z, -x2 = z := ⟨_, rfl⟩
                    rw [hm1'] at cMa cMu cIn hgm2
                    rw [hm2'] at cMa hgm2
                    have hgm2H := Lib.hid hgm2
                    have j0 : (0 : Int) ≤ (k : Int) := by omega
                    have j1 : (k : Int) < (h : Int) := by omega
                    have j2 : IntKind.i64.wrap ((k : Int) + 1) = (k : Int) + 1 := IntWalk.i64_in _ (by omega)
                    clear c1 c2 u1 u2 u3 u4 hIn hmem hx1 hx2 hm1' hm2' hgm2 bq
                    go_upto_region 37 with fail
                    have hA := hbw.alloc hzw (.cells #[.int .i64 x1, .int .i64 x2] 44)
                    have k51 : (wr.alloc (.cells #[.int .i64 x1, .int .i64 x2] 44)).cell? ⟨wr.heap.size, 0, none⟩ = some (.int .i64 x1) := by simp [go_sem]
                    have k52 : (wr.alloc (.cells #[.int .i64 x1, .int .i64 x2] 44)).cell? ⟨wr.heap.size, 1, none⟩ = some (.int .i64 x2) := by simp [go_sem]
                    have l5 : wr.heap.size < (wr.alloc (.cells #[.int .i64 x1, .int .i64 x2] 44)).heap.size := by simp
                    obtain ⟨V1, hV1⟩ : ∃ V, wr.alloc (.cells #[.int .i64 x1, .int .i64 x2] 44) = V := ⟨_, rfl⟩
                    rw [hV1] at hA k51 k52 l5 ⊢
                    obtain ⟨p5, hp5⟩ : ∃ p, wr.heap.size = p := ⟨_, rfl⟩
                    rw [hp5] at k51 k52 l5 ⊢
                    have zV1 := hA.size
                    clear hV1 hp5 r1 r2 nL hbw hzw
                    go_upto_region 38 with (go_at_call 34; refine (cMa _).mono ?_; rintro e w6 ⟨rfl, hb6⟩)
                    have z6 := hb6.size
                    have hA6 := Qtrans hb6 zV1 hA
                    have hA2 := hA6.alloc hA6.size (.cells #[.int .i64 mm1, .int .i64 mm2] 44)
                    have k61 : (w6.alloc (.cells #[.int .i64 mm1, .int .i64 mm2] 44)).cell? ⟨w6.heap.size, 0, none⟩ = some (.int .i64 mm1) := by simp [go_sem]
                    have k62 : (w6.alloc (.cells #[.int .i64 mm1, .int .i64 mm2] 44)).cell? ⟨w6.heap.size, 1, none⟩ = some (.int .i64 mm2) := by simp [go_sem]
                    have k51' := (calloc (o := 0) (x := .cells #[.int .i64 mm1, .int .i64 mm2] 44) (show p5 < w6.heap.size by omega)).trans ((hb6.cell (p := ⟨p5, 0, none⟩) l5).trans k51)
                    have k52' := (calloc (o := 1) (x := .cells #[.int .i64 mm1, .int .i64 mm2] 44) (show p5 < w6.heap.size by omega)).trans ((hb6.cell (p := ⟨p5, 1, none⟩) l5).trans k52)
                    have l6 : w6.heap.size < (w6.alloc (.cells #[.int .i64 mm1, .int .i64 mm2] 44)).heap.size := by simp
                    have l5' : p5 < (w6.alloc (.cells #[.int .i64 mm1, .int .i64 mm2] 44)).heap.size := by simp; omega
                    obtain ⟨V2, hV2⟩ : ∃ V, w6.alloc (.cells #[.int .i64 mm1, .int .i64 mm2] 44) = V := ⟨_, rfl⟩
                    rw [hV2] at hA2 k61 k62 k51' k52' l6 l5' ⊢
                    obtain ⟨p6, hp6⟩ : ∃ p, w6.heap.size = p := ⟨_, rfl⟩
                    rw [hp6] at k61 k62 l6 ⊢
                    have zV2 := hA2.size
                    clear hV2 hp6 hb6 z6 hA6 k51 k52 l5 hA zV1
                    go_upto_region 39 with (go_at_call 35; refine (cMu _).mono ?_; rintro e w7 ⟨rfl, hb7⟩)
                    have z7 := hb7.size
                    have hA7 := Qtrans hb7 zV2 hA2
                    have hA3 := hA7.alloc hA7.size (.cells #[.int .i64 x2, .int .i64 mm1] 44)
                    have k71 : (w7.alloc (.cells #[.int .i64 x2, .int .i64 mm1] 44)).cell? ⟨w7.heap.size, 0, none⟩ = some (.int .i64 x2) := by simp [go_sem]
                    have k72 : (w7.alloc (.cells #[.int .i64 x2, .int .i64 mm1] 44)).cell? ⟨w7.heap.size, 1, none⟩ = some (.int .i64 mm1) := by simp [go_sem]
                    have k61' := (calloc (o := 0) (x := .cells #[.int .i64 x2, .int .i64 mm1] 44) (show p6 < w7.heap.size by omega)).trans ((hb7.cell (p := ⟨p6, 0, none⟩) l6).trans k61)
                    have k62' := (calloc (o := 1) (x := .cells #[.int .i64 x2, .int .i64 mm1] 44) (show p6 < w7.heap.size by omega)).trans ((hb7.cell (p := ⟨p6, 1, none⟩) l6).trans k62)
                    have l6' : p6 < (w7.alloc (.cells #[.int .i64 x2, .int .i64 mm1] 44)).heap.size := by simp; omega
                    have l7 : w7.heap.size < (w7.alloc (.cells #[.int .i64 x2, .int .i64 mm1] 44)).heap.size := by simp
                    obtain ⟨V3, hV3⟩ : ∃ V, w7.alloc (.cells #[.int .i64 x2, .int .i64 mm1] 44) = V := ⟨_, rfl⟩
                    rw [hV3] at hA3 k71 k72 k61' k62' l6' l7 ⊢
                    obtain ⟨p7, hp7⟩ : ∃ p, w7.heap.size = p := ⟨_, rfl⟩
                    rw [hp7] at k71 k72 l7 ⊢
                    have zV3 := hA3.size
                    have s0 := (hA3.cell (p := ⟨p0, 0, none⟩) mA3).trans vA0
                    have s1 := (hA3.cell (p := ⟨p0, 1, none⟩) mA3).trans vA1
                    have s2 := (hA3.cell (p := ⟨p3, 0, none⟩) l3).trans k31
                    have s3 := (hA3.cell (p := ⟨p3, 1, none⟩) l3).trans k32
                    have s4 := (hA3.cell (p := ⟨p4, 0, none⟩) l4).trans k41
                    have s5 := (hA3.cell (p := ⟨p4, 1, none⟩) l4).trans k42
                    clear hV3 hp7 hb7 z7 hA7 k61 k62 l6 k51' k52' l5' hA2 zV2 cMa cMu
                    by_cases hq1 : mm1 = a
                    · by_cases hq2 : mm2 = b
                      · subst hq1 hq2
                        clear cIn hgm2H
                        go_wp2_with fail
                        exact ⟨⟨k + 1, by omega, by go_num, hA3⟩, by simp [intOf]; omega⟩
                      · have hmt := hgm2H.out (fun q => hq2 q.2)
                        subst hmt
                        subst hq1
                        have t2 : (mm2 == b) = false := by simpa using hq2
                        clear hgm2H
                        go_wp2_with (go_at_call 29; refine (cIn _).mono ?_; rintro e w8 ⟨rfl, hb8⟩)
                        exact ⟨⟨k + 1, by omega, by go_num, Qtrans hb8 zV3 hA3⟩, by simp [intOf]; omega⟩
                    · have hmt := hgm2H.out (fun q => hq1 q.1)
                      subst hmt
                      have t1 : (mm1 == a) = false := by simpa using hq1
                      clear hgm2H
                      go_wp2_with (go_at_call 29; refine (cIn _).mono ?_; rintro e w8 ⟨rfl, hb8⟩)
                      exact ⟨⟨k + 1, by omega, by go_num, Qtrans hb8 zV3 hA3⟩, by simp [intOf]; omega⟩
                  · obtain rfl : h = k := by omega
                    have j9 : ¬ (h : Int) < (h : Int) := by omega
                    go_wp2_with fail
                    go_meet
                    exact Qtrans hbw zA bA
            case rest =>
              rename World => w30
              have hbw := hcut
              have hzw := hbw.size
              have bAll := Qtrans hbw zQ bQ
              have hgw : w30.cell? ⟨0, 0, none⟩ = some (.int .i64 gm) := (bAll.cell (p := ⟨0, 0, none⟩) hg0).trans hgmH.out
              clear hcut
              go_upto_region 43 with (go_at_call 21; refine (Golden_any gm w30 hgw).mono ?_; rintro e w31 ⟨xF, cF, rfl, stF, hb31⟩)
              have b31 := Qtrans hb31 bAll.size bAll
              have hb32 : Below w31.heap.size w31 (w31.alloc (.cells #[.slice xF 2 cF] 27)) := (Below.refl _ w31).alloc (Nat.le_refl _) _
              have st32 := isStrs_below stF (Nat.le_refl _) hb32
              have k32' : (w31.alloc (.cells #[.slice xF 2 cF] 27)).cell? ⟨w31.heap.size, 0, none⟩ = some (.slice xF 2 cF) := by simp [go_sem]
              have b32 := b31.alloc b31.size (.cells #[.slice xF 2 cF] 27)
              obtain ⟨w32, hw32⟩ : ∃ V, w31.alloc (.cells #[.slice xF 2 cF] 27) = V := ⟨_, rfl⟩
              rw [hw32] at st32 k32' b32 ⊢
              have z32 := b32.size
              have cFP := FixedPoint_any ⟨#[97]⟩ rfl rfl xF cF m (by omega) w32 st32
              have cWG := fun w => implWord_any (-1) 0 (-1) 1 m w
              rw [wordG m (by omega) (by omega)] at cWG
              obtain ⟨fv, hfv⟩ : ∃ z, (⟨((fw 20).take m).toArray⟩ : ByteArray) = z := ⟨_, rfl⟩
              rw [hfv] at cFP cWG
              have hff : (fv.toList == fv.toList) = true := by simp
              clear hfv hb31 b31 hb32 stF st32 hw32 hgw bAll hbw hzw
              go_wp2_with (first | (go_at_call 36; (with_reducible refine cFP.mono ?_); rintro e w33 ⟨rfl, hb33⟩) | (go_at_call 27; (with_reducible refine (cWG _).mono ?_); rintro e w34 ⟨rfl, hb34⟩))
              go_ret
              exact ⟨rfl, Qtrans hb34 (by have := hb33.size; omega) (Qtrans hb33 z32 b32)⟩
end Go.Proofs.YtilbhingfnjppaaDoor
