/- The law on the golden ring. -/
import Derived.Test.YtieibopegmoanaaGolA
import Derived.Test.YtieibopegmoanaaGolB
import Derived.Test.YtieibopegmoanaaRowIn
set_option linter.unusedSimpArgs false
set_option linter.unusedVariables false
namespace Go.Proofs.Ytieibopegmoanaa
open Go.RowKit
theorem rB_of {w : World} {x : Option Addr} {n cap : Nat} {zs : List Int} (h : IsRow .u8 w x n cap zs) : RB w.heap.size w x n := by
  obtain ⟨h1, h2, h3, h4, h5⟩ := h
  unfold maxLen at h3
  refine ⟨by omega, ?_⟩
  rcases h5 with h5 | ⟨b, off, e, hb, hj⟩
  · exact .inl h5
  · refine .inr ⟨b, off, e, hb, fun j q => ?_⟩
    have hm : zs.getD j 0 ∈ zs := by
      rw [List.getD_eq_getElem?_getD, List.getElem?_eq_getElem (by omega)]; exact List.getElem_mem _
    have hw := h4 _ hm
    simp [Lit.wf, IntKind.min, IntKind.max, IntKind.signed, IntKind.bits] at hw
    exact ⟨_, hw.1, hw.2, hj j q⟩
/-- A golden number in block g. -/
def GC (w : World) (g : Nat) (a b : Int) : Prop := g < w.heap.size ∧ w.cell? ⟨g, 0, none⟩ = some (.int .i64 a) ∧ w.cell? ⟨g, 1, none⟩ = some (.int .i64 b)
theorem gc_below {w w' : World} {g : Nat} {a b : Int} (hb : Below w.heap.size w w') (h : GC w g a b) : GC w' g a b :=
  ⟨by have := hb.size; have := h.1; omega, (hb.cell (p := ⟨g, 0, none⟩) h.1).trans h.2.1, (hb.cell (p := ⟨g, 1, none⟩) h.1).trans h.2.2⟩
theorem below_two {a b c : World} (h2 : Below b.heap.size b c) (h1 : Below a.heap.size a b) : Below a.heap.size a c := h1.trans (h2.mono h1.size)
theorem floor_small {a b f : Int} (ha : dr a) (hb : dr b) (h1 : 0 ≤ sgn (a - f) b) (h2 : ¬ 0 ≤ sgn (a - (f + 1)) b) : -1000 ≤ f ∧ f ≤ 1000 := by
  have hbb := dr_prod hb hb
  have h5 := five_sq b
  obtain ⟨a1, a2⟩ := ha
  obtain ⟨b1, b2⟩ := hb
  rw [sgn_ge] at h1 h2
  unfold geS at h1 h2
  constructor
  · by_cases hf : -1000 ≤ f
    · exact hf
    · exfalso
      apply h2
      right; left
      have := sq_mono (p := 100) (q := 2 * (a - (f + 1)) + b) (by omega) (by omega)
      exact ⟨by omega, by omega⟩
  · by_cases hf : f ≤ 1000
    · exact hf
    · exfalso
      have := sq_anti (p := 2 * (a - f) + b) (q := -100) (by omega) (by omega)
      omega
theorem xy_ways {a b s : Int} (h : sgn a b = s) : (a = 0 ∧ b = 0 ∧ s = 0) ∨ (¬ a = 0 ∧ ¬ s = 0) ∨ (a = 0 ∧ ¬ b = 0 ∧ ¬ s = 0) := by
  have := sgn_zero (a := a) (b := b)
  rw [h] at this
  omega
set_option maxHeartbeats 400000 in
theorem magS (z : Int) (h : z = 1 ∨ z = -1) (w : World) :
    Calls Try.prog 35 #[.int .i64 z] w fun e w' => e = .returned (.int .i64 1) ∧ Below w.heap.size w w' := by
  rcases h with rfl | rfl
  all_goals
    go_enter Try.func35, Try.ntmps35
    go_wp2
    (go_ret; exact ⟨rfl, by (repeat (first | with_reducible exact Below.refl _ _ | assumption | with_reducible refine Qdrew ?_ | with_reducible refine QdrewN ?_ | ((with_reducible refine Qset ?_ ?_); exact (by ((try simp only [World.size_alloc, World.size_setCell, World.size_drew, size_drewN]); (try dsimp only); omega))) | ((with_reducible refine Qalloc ?_ ?_); exact (by ((try simp only [World.size_alloc, World.size_setCell, World.size_drew, size_drewN]); (try dsimp only); omega))) | refine Qtrans (by assumption) (by ((try simp only [World.size_alloc, World.size_setCell, World.size_drew, size_drewN]); (try dsimp only); omega)) ?_))⟩)
theorem fr_alloc (w : World) (o : Nat) (x y : Value) (t : TypeId) : (w.alloc (.cells #[x, y] t)).frozen? ⟨w.heap.size, o, none⟩ = false := by simp [go_sem]
set_option maxRecDepth 20000 in
set_option maxHeartbeats 40000000 in
theorem FnGolden_law (wc : World) (px : Option Addr) (n cap : Nat) (zs : List Int) (hrow : IsRow .u8 wc px n cap zs) :
    Calls Try.prog 6 #[.slice px n cap] wc fun e w' => e = .returned (.bool true) ∧ Below wc.heap.size wc w' := by
  have hr := rB_of hrow
  clear hrow
  have hn := hr.1
  by_cases hbig : (1048576 : Int) < (n : Int)
  · go_enter Try.func6, Try.ntmps6
    go_wp2_with fail
    (go_ret; exact ⟨rfl, by (repeat (first | with_reducible exact Below.refl _ _ | assumption | with_reducible refine Qdrew ?_ | with_reducible refine QdrewN ?_ | ((with_reducible refine Qset ?_ ?_); exact (by ((try simp only [World.size_alloc, World.size_setCell, World.size_drew, size_drewN]); (try dsimp only); omega))) | ((with_reducible refine Qalloc ?_ ?_); exact (by ((try simp only [World.size_alloc, World.size_setCell, World.size_drew, size_drewN]); (try dsimp only); omega))) | refine Qtrans (by assumption) (by ((try simp only [World.size_alloc, World.size_setCell, World.size_drew, size_drewN]); (try dsimp only); omega)) ?_))⟩)
  go_enter Try.func6, Try.ntmps6
  obtain ⟨w, hwc⟩ : ∃ w, w = wc := ⟨_, rfl⟩
  have hzW : w.heap.size ≤ wc.heap.size := by rw [hwc]; omega
  have hB : Below w.heap.size w wc := by rw [hwc]; (repeat (first | with_reducible exact Below.refl _ _ | assumption | with_reducible refine Qdrew ?_ | with_reducible refine QdrewN ?_ | ((with_reducible refine Qset ?_ ?_); exact (by ((try simp only [World.size_alloc, World.size_setCell, World.size_drew, size_drewN]); (try dsimp only); omega))) | ((with_reducible refine Qalloc ?_ ?_); exact (by ((try simp only [World.size_alloc, World.size_setCell, World.size_drew, size_drewN]); (try dsimp only); omega))) | refine Qtrans (by assumption) (by ((try simp only [World.size_alloc, World.size_setCell, World.size_drew, size_drewN]); (try dsimp only); omega)) ?_))
  go_upto_region 3 with fail
  go_cut [3] from 41 to 42 (fun s5 wx => ∃ (g : Nat) (a b : Int), s5 = .pointer (some ⟨g, 0, none⟩) ∧ GC wx g a b ∧ dr a ∧ dr b ∧ Below wc.heap.size wc wx)
  case first =>
    go_wp2_with (go_at_call 23; refine (MakeGold_any wc.heap.size px n cap 0 (by omega) wc (by omega) hr).mono ?_; rintro e w1 ⟨a, b, rfl, ha, hb, hb1⟩; have hz1 := hb1.size)
    go_meet
    exact ⟨_, a, b, rfl, ⟨by simp, by simp [go_sem, csame, *], by simp [go_sem, csame, *]⟩, ha, hb, by (repeat (first | with_reducible exact Below.refl _ _ | assumption | with_reducible refine Qdrew ?_ | with_reducible refine QdrewN ?_ | ((with_reducible refine Qset ?_ ?_); exact (by ((try simp only [World.size_alloc, World.size_setCell, World.size_drew, size_drewN]); (try dsimp only); omega))) | ((with_reducible refine Qalloc ?_ ?_); exact (by ((try simp only [World.size_alloc, World.size_setCell, World.size_drew, size_drewN]); (try dsimp only); omega))) | refine Qtrans (by assumption) (by ((try simp only [World.size_alloc, World.size_setCell, World.size_drew, size_drewN]); (try dsimp only); omega)) ?_))⟩
  case rest =>
  obtain ⟨gx, a, b, rfl, hX, ha, hb, hbel⟩ := hcut
  have hz := hbel.size; replace hB := Qtrans hbel hzW hB; replace hzW := Nat.le_trans hzW hz; replace hr := rB_mono (rB_below hr hbel) hz; clear hz
  clear hbel
  go_upto_region 4 with fail
  go_cut [4] from 43 to 44 (fun s5 wx => ∃ (g : Nat) (a b : Int), s5 = .pointer (some ⟨g, 0, none⟩) ∧ GC wx g a b ∧ dr a ∧ dr b ∧ Below wc.heap.size wc wx)
  case first =>
    go_wp2_with (go_at_call 23; refine (MakeGold_any wc.heap.size px n cap 4 (by omega) wc (by omega) hr).mono ?_; rintro e w1 ⟨a, b, rfl, ha, hb, hb1⟩; have hz1 := hb1.size)
    go_meet
    exact ⟨_, a, b, rfl, ⟨by simp, by simp [go_sem, csame, *], by simp [go_sem, csame, *]⟩, ha, hb, by (repeat (first | with_reducible exact Below.refl _ _ | assumption | with_reducible refine Qdrew ?_ | with_reducible refine QdrewN ?_ | ((with_reducible refine Qset ?_ ?_); exact (by ((try simp only [World.size_alloc, World.size_setCell, World.size_drew, size_drewN]); (try dsimp only); omega))) | ((with_reducible refine Qalloc ?_ ?_); exact (by ((try simp only [World.size_alloc, World.size_setCell, World.size_drew, size_drewN]); (try dsimp only); omega))) | refine Qtrans (by assumption) (by ((try simp only [World.size_alloc, World.size_setCell, World.size_drew, size_drewN]); (try dsimp only); omega)) ?_))⟩
  case rest =>
  obtain ⟨gy, c, d, rfl, hY, hc, hd, hbel⟩ := hcut
  have hz := hbel.size; replace hB := Qtrans hbel hzW hB; replace hzW := Nat.le_trans hzW hz; replace hr := rB_mono (rB_below hr hbel) hz; clear hz
  replace hX := gc_below hbel hX
  clear hbel
  go_upto_region 5 with fail
  go_cut [5] from 45 to 46 (fun s5 wx => ∃ (g : Nat) (a b : Int), s5 = .pointer (some ⟨g, 0, none⟩) ∧ GC wx g a b ∧ dr a ∧ dr b ∧ Below wc.heap.size wc wx)
  case first =>
    go_wp2_with (go_at_call 23; refine (MakeGold_any wc.heap.size px n cap 8 (by omega) wc (by omega) hr).mono ?_; rintro e w1 ⟨a, b, rfl, ha, hb, hb1⟩; have hz1 := hb1.size)
    go_meet
    exact ⟨_, a, b, rfl, ⟨by simp, by simp [go_sem, csame, *], by simp [go_sem, csame, *]⟩, ha, hb, by (repeat (first | with_reducible exact Below.refl _ _ | assumption | with_reducible refine Qdrew ?_ | with_reducible refine QdrewN ?_ | ((with_reducible refine Qset ?_ ?_); exact (by ((try simp only [World.size_alloc, World.size_setCell, World.size_drew, size_drewN]); (try dsimp only); omega))) | ((with_reducible refine Qalloc ?_ ?_); exact (by ((try simp only [World.size_alloc, World.size_setCell, World.size_drew, size_drewN]); (try dsimp only); omega))) | refine Qtrans (by assumption) (by ((try simp only [World.size_alloc, World.size_setCell, World.size_drew, size_drewN]); (try dsimp only); omega)) ?_))⟩
  case rest =>
  obtain ⟨gv, r, s, rfl, hV, hr0, hs0, hbel⟩ := hcut
  have hz := hbel.size; replace hB := Qtrans hbel hzW hB; replace hzW := Nat.le_trans hzW hz; replace hr := rB_mono (rB_below hr hbel) hz; clear hz
  replace hX := gc_below hbel hX
  replace hY := gc_below hbel hY
  clear hbel
  -- the numbers
  have h2 : ∀ {z : Int}, dr z → dr2 z := fun h => ⟨by have := h.1; omega, by have := h.2; omega⟩
  have hsm : ∀ {z : Int}, dr2 z → sm z := fun h => ⟨by have := h.1; omega, by have := h.2; omega⟩
  have hin : ∀ {z : Int}, dr2 z → -1000000 ≤ z ∧ z ≤ 1000000 := fun h => ⟨by have := h.1; omega, by have := h.2; omega⟩
  have hi2 : ∀ {z : Int}, (-4800 ≤ z ∧ z ≤ 4800) → -1000000 ≤ z ∧ z ≤ 1000000 := fun h => ⟨by omega, by omega⟩
  have hi3 : ∀ {z : Int}, (-3200 ≤ z ∧ z ≤ 3200) → -1000000 ≤ z ∧ z ≤ 1000000 := fun h => ⟨by omega, by omega⟩
  obtain ⟨u, hu⟩ : ∃ z, a + c = z := ⟨_, rfl⟩
  obtain ⟨v, hv⟩ : ∃ z, b + d = z := ⟨_, rfl⟩
  have hu2 : dr2 u := by have h1 := ha.1; have h2 := ha.2; have h3 := hc.1; have h4 := hc.2; exact ⟨by omega, by omega⟩
  have hv2 : dr2 v := by have h1 := hb.1; have h2 := hb.2; have h3 := hd.1; have h4 := hd.2; exact ⟨by omega, by omega⟩
  have cAdd := Lib.hid (addS a b c d u v hu hv (hin (h2 ha)) (hin (h2 hb)) (hin (h2 hc)) (hin (h2 hd)) (hin hu2) (hin hv2))
  have cSub := Lib.hid (subS u v c d a b (by omega) (by omega) (hin hu2) (hin hv2) (hin (h2 hc)) (hin (h2 hd)) (hin (h2 ha)) (hin (h2 hb)))
  obtain ⟨m, hm⟩ : ∃ z, a * c + b * d = z := ⟨_, rfl⟩
  obtain ⟨k, hk⟩ : ∃ z, a * d + b * c + b * d = z := ⟨_, rfl⟩
  obtain ⟨hm4, hk4⟩ := mul_dr hm hk (h2 ha) (h2 hb) (h2 hc) (h2 hd)
  have cMul := Lib.hid (mulS a b c d m k hm hk (hsm (h2 ha)) (hsm (h2 hb)) (hsm (h2 hc)) (hsm (h2 hd)) (hi3 hm4) (hi2 hk4))
  have cLum := Lib.hid (mulS c d a b m k (by rw [← hm, Int.mul_comm c a, Int.mul_comm d b]) (by rw [← hk, Int.mul_comm c b, Int.mul_comm d a, Int.mul_comm d b, Int.add_comm (b * c)]) (hsm (h2 hc)) (hsm (h2 hd)) (hsm (h2 ha)) (hsm (h2 hb)) (hi3 hm4) (hi2 hk4))
  obtain ⟨nx, hnx⟩ : ∃ z, a * a + a * b - b * b = z := ⟨_, rfl⟩
  obtain ⟨ny, hny⟩ : ∃ z, c * c + c * d - d * d = z := ⟨_, rfl⟩
  obtain ⟨nm, hnm⟩ : ∃ z, nx * ny = z := ⟨_, rfl⟩
  have hnx4 : -4800 ≤ nx ∧ nx ≤ 4800 := by
    have h1 := dr2_prod (h2 ha) (h2 ha); have h3 := dr2_prod (h2 ha) (h2 hb); have h4 := dr2_prod (h2 hb) (h2 hb); omega
  have hny4 : -4800 ≤ ny ∧ ny ≤ 4800 := by
    have h1 := dr2_prod (h2 hc) (h2 hc); have h3 := dr2_prod (h2 hc) (h2 hd); have h4 := dr2_prod (h2 hd) (h2 hd); omega
  have hnm8 : -23040000 ≤ nm ∧ nm ≤ 23040000 := by have := prod_le nx ny 4800 hnx4 hny4; omega
  have cNm := Lib.hid (normS m k nm (by rw [← hnm, ← hnx, ← hny, ← hm, ← hk]; exact norm_mul a b c d) (hi3 hm4) (hi2 hk4))
  have cNx := Lib.hid (normS a b nx hnx (hin (h2 ha)) (hin (h2 hb)))
  have cNy := Lib.hid (normS c d ny hny (hin (h2 hc)) (hin (h2 hd)))
  have wN : IntKind.i64.wrap nm = nm := IntWalk.i64_in _ (by omega)
  go_upto_region 6 with fail
  go_cut [6, 7] from 47 to 52 (fun s5 s6 wx => ∃ g : Nat, s5 = .pointer (some ⟨g, 0, none⟩) ∧ s6 = .bool true ∧ GC wx g (u) (v) ∧ Below wc.heap.size wc wx)
  case first =>
    as_aux_lemma =>
      (obtain ⟨x0, x1, x2⟩ := hX; obtain ⟨y0, y1, y2⟩ := hY)
      go_wp2_with ((go_at_call 24; refine (cAdd.out wc).mono ?_; rintro e w1 ⟨rfl, hb1⟩; have hz1 := hb1.size))
      go_meet
      exact ⟨_, rfl, rfl, ⟨by ((try simp only [World.size_alloc, World.size_setCell, World.size_drew, size_drewN]); (try dsimp only); omega), by simp [go_sem, csame, *], by simp [go_sem, csame, *]⟩, by (repeat (first | with_reducible exact Below.refl _ _ | assumption | with_reducible refine Qdrew ?_ | with_reducible refine QdrewN ?_ | ((with_reducible refine Qset ?_ ?_); exact (by ((try simp only [World.size_alloc, World.size_setCell, World.size_drew, size_drewN]); (try dsimp only); omega))) | ((with_reducible refine Qalloc ?_ ?_); exact (by ((try simp only [World.size_alloc, World.size_setCell, World.size_drew, size_drewN]); (try dsimp only); omega))) | refine Qtrans (by assumption) (by ((try simp only [World.size_alloc, World.size_setCell, World.size_drew, size_drewN]); (try dsimp only); omega)) ?_))⟩
  case rest =>
  obtain ⟨gu, rfl, rfl, hU, hbel⟩ := hcut
  have hz := hbel.size; replace hB := Qtrans hbel hzW hB; replace hzW := Nat.le_trans hzW hz; replace hr := rB_mono (rB_below hr hbel) hz; clear hz
  replace hX := gc_below hbel hX
  replace hY := gc_below hbel hY
  replace hV := gc_below hbel hV
  clear hbel
  go_upto_region 7 with fail
  go_cut [8, 9] from 53 to 58 (fun s5 s6 wx => ∃ g : Nat, s5 = .pointer (some ⟨g, 0, none⟩) ∧ s6 = .bool true ∧ GC wx g (a) (b) ∧ Below wc.heap.size wc wx)
  case first =>
    as_aux_lemma =>
      (obtain ⟨x0, x1, x2⟩ := hU; obtain ⟨y0, y1, y2⟩ := hY)
      go_wp2_with ((go_at_call 25; refine (cSub.out wc).mono ?_; rintro e w1 ⟨rfl, hb1⟩; have hz1 := hb1.size))
      go_meet
      exact ⟨_, rfl, rfl, ⟨by ((try simp only [World.size_alloc, World.size_setCell, World.size_drew, size_drewN]); (try dsimp only); omega), by simp [go_sem, csame, *], by simp [go_sem, csame, *]⟩, by (repeat (first | with_reducible exact Below.refl _ _ | assumption | with_reducible refine Qdrew ?_ | with_reducible refine QdrewN ?_ | ((with_reducible refine Qset ?_ ?_); exact (by ((try simp only [World.size_alloc, World.size_setCell, World.size_drew, size_drewN]); (try dsimp only); omega))) | ((with_reducible refine Qalloc ?_ ?_); exact (by ((try simp only [World.size_alloc, World.size_setCell, World.size_drew, size_drewN]); (try dsimp only); omega))) | refine Qtrans (by assumption) (by ((try simp only [World.size_alloc, World.size_setCell, World.size_drew, size_drewN]); (try dsimp only); omega)) ?_))⟩
  case rest =>
  obtain ⟨gb, rfl, rfl, hBb, hbel⟩ := hcut
  have hz := hbel.size; replace hB := Qtrans hbel hzW hB; replace hzW := Nat.le_trans hzW hz; replace hr := rB_mono (rB_below hr hbel) hz; clear hz
  replace hX := gc_below hbel hX
  replace hY := gc_below hbel hY
  replace hV := gc_below hbel hV
  replace hU := gc_below hbel hU
  clear hbel
  go_upto_region 8 with fail
  go_cut [10, 11] from 59 to 64 (fun s5 s6 wx => ∃ g : Nat, s5 = .pointer (some ⟨g, 0, none⟩) ∧ s6 = .bool true ∧ GC wx g (m) (k) ∧ Below wc.heap.size wc wx)
  case first =>
    as_aux_lemma =>
      (obtain ⟨x0, x1, x2⟩ := hX; obtain ⟨y0, y1, y2⟩ := hY)
      go_wp2_with ((go_at_call 26; refine (cMul.out wc).mono ?_; rintro e w1 ⟨rfl, hb1⟩; have hz1 := hb1.size))
      go_meet
      exact ⟨_, rfl, rfl, ⟨by ((try simp only [World.size_alloc, World.size_setCell, World.size_drew, size_drewN]); (try dsimp only); omega), by simp [go_sem, csame, *], by simp [go_sem, csame, *]⟩, by (repeat (first | with_reducible exact Below.refl _ _ | assumption | with_reducible refine Qdrew ?_ | with_reducible refine QdrewN ?_ | ((with_reducible refine Qset ?_ ?_); exact (by ((try simp only [World.size_alloc, World.size_setCell, World.size_drew, size_drewN]); (try dsimp only); omega))) | ((with_reducible refine Qalloc ?_ ?_); exact (by ((try simp only [World.size_alloc, World.size_setCell, World.size_drew, size_drewN]); (try dsimp only); omega))) | refine Qtrans (by assumption) (by ((try simp only [World.size_alloc, World.size_setCell, World.size_drew, size_drewN]); (try dsimp only); omega)) ?_))⟩
  case rest =>
  obtain ⟨gm, rfl, rfl, hM, hbel⟩ := hcut
  have hz := hbel.size; replace hB := Qtrans hbel hzW hB; replace hzW := Nat.le_trans hzW hz; replace hr := rB_mono (rB_below hr hbel) hz; clear hz
  replace hX := gc_below hbel hX
  replace hY := gc_below hbel hY
  replace hV := gc_below hbel hV
  replace hU := gc_below hbel hU
  replace hBb := gc_below hbel hBb
  clear hbel
  go_upto_region 9 with fail
  go_cut [12, 13] from 65 to 70 (fun s5 s6 wx => ∃ g : Nat, s5 = .pointer (some ⟨g, 0, none⟩) ∧ s6 = .bool true ∧ GC wx g (m) (k) ∧ Below wc.heap.size wc wx)
  case first =>
    as_aux_lemma =>
      (obtain ⟨x0, x1, x2⟩ := hX; obtain ⟨y0, y1, y2⟩ := hY)
      go_wp2_with ((go_at_call 26; refine (cLum.out wc).mono ?_; rintro e w1 ⟨rfl, hb1⟩; have hz1 := hb1.size))
      go_meet
      exact ⟨_, rfl, rfl, ⟨by ((try simp only [World.size_alloc, World.size_setCell, World.size_drew, size_drewN]); (try dsimp only); omega), by simp [go_sem, csame, *], by simp [go_sem, csame, *]⟩, by (repeat (first | with_reducible exact Below.refl _ _ | assumption | with_reducible refine Qdrew ?_ | with_reducible refine QdrewN ?_ | ((with_reducible refine Qset ?_ ?_); exact (by ((try simp only [World.size_alloc, World.size_setCell, World.size_drew, size_drewN]); (try dsimp only); omega))) | ((with_reducible refine Qalloc ?_ ?_); exact (by ((try simp only [World.size_alloc, World.size_setCell, World.size_drew, size_drewN]); (try dsimp only); omega))) | refine Qtrans (by assumption) (by ((try simp only [World.size_alloc, World.size_setCell, World.size_drew, size_drewN]); (try dsimp only); omega)) ?_))⟩
  case rest =>
  obtain ⟨gk, rfl, rfl, hK, hbel⟩ := hcut
  have hz := hbel.size; replace hB := Qtrans hbel hzW hB; replace hzW := Nat.le_trans hzW hz; replace hr := rB_mono (rB_below hr hbel) hz; clear hz
  replace hX := gc_below hbel hX
  replace hY := gc_below hbel hY
  replace hV := gc_below hbel hV
  replace hU := gc_below hbel hU
  replace hBb := gc_below hbel hBb
  replace hM := gc_below hbel hM
  clear hbel
  go_upto_region 10 with fail
  go_cut [104] from 71 to 103 (fun s5 wx => s5 = .bool false ∧ Below wc.heap.size wc wx)
  case first =>
    as_aux_lemma =>
      (obtain ⟨x0, x1, x2⟩ := hX; obtain ⟨y0, y1, y2⟩ := hY; obtain ⟨b0, b1, b2⟩ := hBb; obtain ⟨m0, m1, m2⟩ := hM; obtain ⟨k0, k1, k2⟩ := hK)
      (try simp only [List.append])
      go_region_held3 (fun wx => (∀ bk ofs, bk < wc.heap.size → wx.cell? ⟨bk, ofs, none⟩ = (wc).cell? ⟨bk, ofs, none⟩) ∧ Below (wc.heap.size) (wc) wx) ((first | exact stays (by assumption) | (refine stays ?_; ((repeat (first | with_reducible exact Below.refl _ _ | assumption | with_reducible refine Qdrew ?_ | with_reducible refine QdrewN ?_ | ((with_reducible refine Qset ?_ ?_); exact (by ((try simp only [World.size_alloc, World.size_setCell, World.size_drew, size_drewN]); (try dsimp only); omega))) | ((with_reducible refine Qalloc ?_ ?_); exact (by ((try simp only [World.size_alloc, World.size_setCell, World.size_drew, size_drewN]); (try dsimp only); omega))) | refine Qtrans (by assumption) (by ((try simp only [World.size_alloc, World.size_setCell, World.size_drew, size_drewN]); (try dsimp only); omega)) ?_)) <;> (go_split_ands; assumption))))) (first | (go_at_call 27; with_reducible refine (cNm.out _).mono ?_; (try go_split_ands); rintro e w1 ⟨rfl, hb1⟩; have hz1 := hb1.size; have hbS : Below wc.heap.size wc w1 := (by first | exact hb1 | exact below_two hb1 (by assumption)); have hcS := (stays hbS).1) | (go_at_call 27; with_reducible refine (cNx.out _).mono ?_; (try go_split_ands); rintro e w1 ⟨rfl, hb1⟩; have hz1 := hb1.size; have hbS : Below wc.heap.size wc w1 := (by first | exact hb1 | exact below_two hb1 (by assumption)); have hcS := (stays hbS).1) | (go_at_call 27; with_reducible refine (cNy.out _).mono ?_; (try go_split_ands); rintro e w1 ⟨rfl, hb1⟩; have hz1 := hb1.size; have hbS : Below wc.heap.size wc w1 := (by first | exact hb1 | exact below_two hb1 (by assumption)); have hcS := (stays hbS).1))
      all_goals (go_wp2_with fail; go_meet; exact ⟨by first | rfl | simp [*], by (repeat (first | with_reducible exact Below.refl _ _ | assumption | with_reducible refine Qdrew ?_ | with_reducible refine QdrewN ?_ | ((with_reducible refine Qset ?_ ?_); exact (by ((try simp only [World.size_alloc, World.size_setCell, World.size_drew, size_drewN]); (try dsimp only); omega))) | ((with_reducible refine Qalloc ?_ ?_); exact (by ((try simp only [World.size_alloc, World.size_setCell, World.size_drew, size_drewN]); (try dsimp only); omega))) | refine Qtrans (by assumption) (by ((try simp only [World.size_alloc, World.size_setCell, World.size_drew, size_drewN]); (try dsimp only); omega)) ?_))⟩)
  case rest =>
  obtain ⟨rfl, hbel⟩ := hcut
  have hz := hbel.size; replace hB := Qtrans hbel hzW hB; replace hzW := Nat.le_trans hzW hz; replace hr := rB_mono (rB_below hr hbel) hz; clear hz
  replace hX := gc_below hbel hX
  replace hY := gc_below hbel hY
  replace hV := gc_below hbel hV
  replace hU := gc_below hbel hU
  replace hM := gc_below hbel hM
  clear hbel hBb hK
  obtain ⟨p1, hp1⟩ : ∃ z, u * r + v * s = z := ⟨_, rfl⟩
  obtain ⟨p2, hp2⟩ : ∃ z, u * s + v * r + v * s = z := ⟨_, rfl⟩
  obtain ⟨q1, hq1⟩ : ∃ z, a * r + b * s = z := ⟨_, rfl⟩
  obtain ⟨q2, hq2⟩ : ∃ z, a * s + b * r + b * s = z := ⟨_, rfl⟩
  obtain ⟨r1, hr1⟩ : ∃ z, c * r + d * s = z := ⟨_, rfl⟩
  obtain ⟨r2, hr2⟩ : ∃ z, c * s + d * r + d * s = z := ⟨_, rfl⟩
  obtain ⟨hp14, hp24⟩ := mul_dr hp1 hp2 hu2 hv2 (h2 hr0) (h2 hs0)
  obtain ⟨hq14, hq24⟩ := mul_dr hq1 hq2 (h2 ha) (h2 hb) (h2 hr0) (h2 hs0)
  obtain ⟨hr14, hr24⟩ := mul_dr hr1 hr2 (h2 hc) (h2 hd) (h2 hr0) (h2 hs0)
  have cP := Lib.hid (mulS u v r s p1 p2 hp1 hp2 (hsm hu2) (hsm hv2) (hsm (h2 hr0)) (hsm (h2 hs0)) (hi3 hp14) (hi2 hp24))
  have cQ := Lib.hid (mulS a b r s q1 q2 hq1 hq2 (hsm (h2 ha)) (hsm (h2 hb)) (hsm (h2 hr0)) (hsm (h2 hs0)) (hi3 hq14) (hi2 hq24))
  have cR := Lib.hid (mulS c d r s r1 r2 hr1 hr2 (hsm (h2 hc)) (hsm (h2 hd)) (hsm (h2 hr0)) (hsm (h2 hs0)) (hi3 hr14) (hi2 hr24))
  have cQR := Lib.hid (addS q1 q2 r1 r2 p1 p2 (by rw [← hp1, ← hq1, ← hr1, ← hu, ← hv]; grind) (by rw [← hp2, ← hq2, ← hr2, ← hu, ← hv]; grind) (hi3 hq14) (hi2 hq24) (hi3 hr14) (hi2 hr24) (hi3 hp14) (hi2 hp24))
  obtain ⟨t1, ht1⟩ : ∃ z, a + b = z := ⟨_, rfl⟩
  obtain ⟨t2, ht2⟩ : ∃ z, -b = z := ⟨_, rfl⟩
  have ht14 : dr2 t1 := by have h1 := ha.1; have h2 := ha.2; have h3 := hb.1; have h4 := hb.2; exact ⟨by omega, by omega⟩
  have ht24 : dr2 t2 := by have h3 := hb.1; have h4 := hb.2; exact ⟨by omega, by omega⟩
  have cMate := Lib.hid (mateS a b t1 t2 ht1 ht2 (hsm (h2 ha)) (hsm (h2 hb)))
  have cXM := Lib.hid (mulS a b t1 t2 nx 0 (by rw [← hnx, ← ht1, ← ht2]; grind) (by rw [← ht1, ← ht2]; grind) (hsm (h2 ha)) (hsm (h2 hb)) (hsm ht14) (hsm ht24) (hi2 hnx4) (by omega))
  go_upto_region 12 with fail
  go_cut [14, 15] from 105 to 110 (fun s5 s6 wx => ∃ g : Nat, s5 = .pointer (some ⟨g, 0, none⟩) ∧ s6 = .bool true ∧ GC wx g (p1) (p2) ∧ Below wc.heap.size wc wx)
  case first =>
    as_aux_lemma =>
      (obtain ⟨x0, x1, x2⟩ := hU; obtain ⟨y0, y1, y2⟩ := hV)
      go_wp2_with ((go_at_call 26; refine (cP.out wc).mono ?_; rintro e w1 ⟨rfl, hb1⟩; have hz1 := hb1.size))
      go_meet
      exact ⟨_, rfl, rfl, ⟨by ((try simp only [World.size_alloc, World.size_setCell, World.size_drew, size_drewN]); (try dsimp only); omega), by simp [go_sem, csame, *], by simp [go_sem, csame, *]⟩, by (repeat (first | with_reducible exact Below.refl _ _ | assumption | with_reducible refine Qdrew ?_ | with_reducible refine QdrewN ?_ | ((with_reducible refine Qset ?_ ?_); exact (by ((try simp only [World.size_alloc, World.size_setCell, World.size_drew, size_drewN]); (try dsimp only); omega))) | ((with_reducible refine Qalloc ?_ ?_); exact (by ((try simp only [World.size_alloc, World.size_setCell, World.size_drew, size_drewN]); (try dsimp only); omega))) | refine Qtrans (by assumption) (by ((try simp only [World.size_alloc, World.size_setCell, World.size_drew, size_drewN]); (try dsimp only); omega)) ?_))⟩
  case rest =>
  obtain ⟨gp, rfl, rfl, hP, hbel⟩ := hcut
  have hz := hbel.size; replace hB := Qtrans hbel hzW hB; replace hzW := Nat.le_trans hzW hz; replace hr := rB_mono (rB_below hr hbel) hz; clear hz
  replace hX := gc_below hbel hX
  replace hY := gc_below hbel hY
  replace hV := gc_below hbel hV
  replace hU := gc_below hbel hU
  replace hM := gc_below hbel hM
  clear hbel
  go_upto_region 13 with fail
  go_cut [16, 17] from 111 to 116 (fun s5 s6 wx => ∃ g : Nat, s5 = .pointer (some ⟨g, 0, none⟩) ∧ s6 = .bool true ∧ GC wx g (q1) (q2) ∧ Below wc.heap.size wc wx)
  case first =>
    as_aux_lemma =>
      (obtain ⟨x0, x1, x2⟩ := hX; obtain ⟨y0, y1, y2⟩ := hV)
      go_wp2_with ((go_at_call 26; refine (cQ.out wc).mono ?_; rintro e w1 ⟨rfl, hb1⟩; have hz1 := hb1.size))
      go_meet
      exact ⟨_, rfl, rfl, ⟨by ((try simp only [World.size_alloc, World.size_setCell, World.size_drew, size_drewN]); (try dsimp only); omega), by simp [go_sem, csame, *], by simp [go_sem, csame, *]⟩, by (repeat (first | with_reducible exact Below.refl _ _ | assumption | with_reducible refine Qdrew ?_ | with_reducible refine QdrewN ?_ | ((with_reducible refine Qset ?_ ?_); exact (by ((try simp only [World.size_alloc, World.size_setCell, World.size_drew, size_drewN]); (try dsimp only); omega))) | ((with_reducible refine Qalloc ?_ ?_); exact (by ((try simp only [World.size_alloc, World.size_setCell, World.size_drew, size_drewN]); (try dsimp only); omega))) | refine Qtrans (by assumption) (by ((try simp only [World.size_alloc, World.size_setCell, World.size_drew, size_drewN]); (try dsimp only); omega)) ?_))⟩
  case rest =>
  obtain ⟨gq, rfl, rfl, hQ, hbel⟩ := hcut
  have hz := hbel.size; replace hB := Qtrans hbel hzW hB; replace hzW := Nat.le_trans hzW hz; replace hr := rB_mono (rB_below hr hbel) hz; clear hz
  replace hX := gc_below hbel hX
  replace hY := gc_below hbel hY
  replace hV := gc_below hbel hV
  replace hU := gc_below hbel hU
  replace hM := gc_below hbel hM
  replace hP := gc_below hbel hP
  clear hbel
  go_upto_region 14 with fail
  go_cut [18, 19] from 117 to 122 (fun s5 s6 wx => ∃ g : Nat, s5 = .pointer (some ⟨g, 0, none⟩) ∧ s6 = .bool true ∧ GC wx g (r1) (r2) ∧ Below wc.heap.size wc wx)
  case first =>
    as_aux_lemma =>
      (obtain ⟨x0, x1, x2⟩ := hY; obtain ⟨y0, y1, y2⟩ := hV)
      go_wp2_with ((go_at_call 26; refine (cR.out wc).mono ?_; rintro e w1 ⟨rfl, hb1⟩; have hz1 := hb1.size))
      go_meet
      exact ⟨_, rfl, rfl, ⟨by ((try simp only [World.size_alloc, World.size_setCell, World.size_drew, size_drewN]); (try dsimp only); omega), by simp [go_sem, csame, *], by simp [go_sem, csame, *]⟩, by (repeat (first | with_reducible exact Below.refl _ _ | assumption | with_reducible refine Qdrew ?_ | with_reducible refine QdrewN ?_ | ((with_reducible refine Qset ?_ ?_); exact (by ((try simp only [World.size_alloc, World.size_setCell, World.size_drew, size_drewN]); (try dsimp only); omega))) | ((with_reducible refine Qalloc ?_ ?_); exact (by ((try simp only [World.size_alloc, World.size_setCell, World.size_drew, size_drewN]); (try dsimp only); omega))) | refine Qtrans (by assumption) (by ((try simp only [World.size_alloc, World.size_setCell, World.size_drew, size_drewN]); (try dsimp only); omega)) ?_))⟩
  case rest =>
  obtain ⟨gr, rfl, rfl, hR, hbel⟩ := hcut
  have hz := hbel.size; replace hB := Qtrans hbel hzW hB; replace hzW := Nat.le_trans hzW hz; replace hr := rB_mono (rB_below hr hbel) hz; clear hz
  replace hX := gc_below hbel hX
  replace hY := gc_below hbel hY
  replace hU := gc_below hbel hU
  replace hM := gc_below hbel hM
  replace hP := gc_below hbel hP
  replace hQ := gc_below hbel hQ
  clear hbel
  go_upto_region 15 with fail
  go_cut [20, 21] from 123 to 128 (fun s5 s6 wx => ∃ g : Nat, s5 = .pointer (some ⟨g, 0, none⟩) ∧ s6 = .bool true ∧ GC wx g (p1) (p2) ∧ Below wc.heap.size wc wx)
  case first =>
    as_aux_lemma =>
      (obtain ⟨x0, x1, x2⟩ := hQ; obtain ⟨y0, y1, y2⟩ := hR)
      go_wp2_with ((go_at_call 24; refine (cQR.out wc).mono ?_; rintro e w1 ⟨rfl, hb1⟩; have hz1 := hb1.size))
      go_meet
      exact ⟨_, rfl, rfl, ⟨by ((try simp only [World.size_alloc, World.size_setCell, World.size_drew, size_drewN]); (try dsimp only); omega), by simp [go_sem, csame, *], by simp [go_sem, csame, *]⟩, by (repeat (first | with_reducible exact Below.refl _ _ | assumption | with_reducible refine Qdrew ?_ | with_reducible refine QdrewN ?_ | ((with_reducible refine Qset ?_ ?_); exact (by ((try simp only [World.size_alloc, World.size_setCell, World.size_drew, size_drewN]); (try dsimp only); omega))) | ((with_reducible refine Qalloc ?_ ?_); exact (by ((try simp only [World.size_alloc, World.size_setCell, World.size_drew, size_drewN]); (try dsimp only); omega))) | refine Qtrans (by assumption) (by ((try simp only [World.size_alloc, World.size_setCell, World.size_drew, size_drewN]); (try dsimp only); omega)) ?_))⟩
  case rest =>
  obtain ⟨gs, rfl, rfl, hS, hbel⟩ := hcut
  have hz := hbel.size; replace hB := Qtrans hbel hzW hB; replace hzW := Nat.le_trans hzW hz; replace hr := rB_mono (rB_below hr hbel) hz; clear hz
  replace hX := gc_below hbel hX
  replace hY := gc_below hbel hY
  replace hU := gc_below hbel hU
  replace hM := gc_below hbel hM
  replace hP := gc_below hbel hP
  clear hbel
  go_upto_region 16 with fail
  go_cut [22, 23] from 129 to 133 (fun s5 s6 wx => ∃ g : Nat, s5 = .pointer (some ⟨g, 0, none⟩) ∧ s6 = .bool true ∧ GC wx g (t1) (t2) ∧ Below wc.heap.size wc wx)
  case first =>
    as_aux_lemma =>
      (obtain ⟨x0, x1, x2⟩ := hX)
      go_wp2_with ((go_at_call 28; refine (cMate.out wc).mono ?_; rintro e w1 ⟨rfl, hb1⟩; have hz1 := hb1.size))
      go_meet
      exact ⟨_, rfl, rfl, ⟨by ((try simp only [World.size_alloc, World.size_setCell, World.size_drew, size_drewN]); (try dsimp only); omega), by simp [go_sem, csame, *], by simp [go_sem, csame, *]⟩, by (repeat (first | with_reducible exact Below.refl _ _ | assumption | with_reducible refine Qdrew ?_ | with_reducible refine QdrewN ?_ | ((with_reducible refine Qset ?_ ?_); exact (by ((try simp only [World.size_alloc, World.size_setCell, World.size_drew, size_drewN]); (try dsimp only); omega))) | ((with_reducible refine Qalloc ?_ ?_); exact (by ((try simp only [World.size_alloc, World.size_setCell, World.size_drew, size_drewN]); (try dsimp only); omega))) | refine Qtrans (by assumption) (by ((try simp only [World.size_alloc, World.size_setCell, World.size_drew, size_drewN]); (try dsimp only); omega)) ?_))⟩
  case rest =>
  obtain ⟨gt, rfl, rfl, hT, hbel⟩ := hcut
  have hz := hbel.size; replace hB := Qtrans hbel hzW hB; replace hzW := Nat.le_trans hzW hz; replace hr := rB_mono (rB_below hr hbel) hz; clear hz
  replace hX := gc_below hbel hX
  replace hY := gc_below hbel hY
  replace hU := gc_below hbel hU
  replace hM := gc_below hbel hM
  replace hP := gc_below hbel hP
  replace hS := gc_below hbel hS
  clear hbel
  go_upto_region 17 with fail
  go_cut [24, 25] from 134 to 139 (fun s5 s6 wx => ∃ g : Nat, s5 = .pointer (some ⟨g, 0, none⟩) ∧ s6 = .bool true ∧ GC wx g (nx) (0) ∧ Below wc.heap.size wc wx)
  case first =>
    as_aux_lemma =>
      (obtain ⟨x0, x1, x2⟩ := hX; obtain ⟨y0, y1, y2⟩ := hT)
      go_wp2_with ((go_at_call 26; refine (cXM.out wc).mono ?_; rintro e w1 ⟨rfl, hb1⟩; have hz1 := hb1.size))
      go_meet
      exact ⟨_, rfl, rfl, ⟨by ((try simp only [World.size_alloc, World.size_setCell, World.size_drew, size_drewN]); (try dsimp only); omega), by simp [go_sem, csame, *], by simp [go_sem, csame, *]⟩, by (repeat (first | with_reducible exact Below.refl _ _ | assumption | with_reducible refine Qdrew ?_ | with_reducible refine QdrewN ?_ | ((with_reducible refine Qset ?_ ?_); exact (by ((try simp only [World.size_alloc, World.size_setCell, World.size_drew, size_drewN]); (try dsimp only); omega))) | ((with_reducible refine Qalloc ?_ ?_); exact (by ((try simp only [World.size_alloc, World.size_setCell, World.size_drew, size_drewN]); (try dsimp only); omega))) | refine Qtrans (by assumption) (by ((try simp only [World.size_alloc, World.size_setCell, World.size_drew, size_drewN]); (try dsimp only); omega)) ?_))⟩
  case rest =>
  obtain ⟨gn, rfl, rfl, hN, hbel⟩ := hcut
  have hz := hbel.size; replace hB := Qtrans hbel hzW hB; replace hzW := Nat.le_trans hzW hz; replace hr := rB_mono (rB_below hr hbel) hz; clear hz
  replace hX := gc_below hbel hX
  replace hY := gc_below hbel hY
  replace hU := gc_below hbel hU
  replace hM := gc_below hbel hM
  replace hP := gc_below hbel hP
  replace hS := gc_below hbel hS
  clear hbel
  clear cAdd cSub cMul cLum cNm cNy cP cQ cR cQR cMate cXM hV hQ hR hT
  obtain ⟨sx, hsx⟩ : ∃ z, sgn a b = z := ⟨_, rfl⟩
  obtain ⟨sy, hsy⟩ : ∃ z, sgn c d = z := ⟨_, rfl⟩
  obtain ⟨sz, hsz⟩ : ∃ z, sx * sy = z := ⟨_, rfl⟩
  obtain ⟨k1, hk1⟩ : ∃ z, sgn (a - c) (b - d) = z := ⟨_, rfl⟩
  obtain ⟨k2, hk2⟩ : ∃ z, sgn (c - a) (d - b) = z := ⟨_, rfl⟩
  have hk12 : -k2 = k1 := by
    have := sgn_opp (c - a) (d - b)
    rw [show -(c - a) = a - c by omega, show -(d - b) = b - d by omega] at this
    omega
  obtain ⟨c2, hc2⟩ : ∃ z, 2 * c = z := ⟨_, rfl⟩
  obtain ⟨d2, hd2⟩ : ∃ z, 2 * d = z := ⟨_, rfl⟩
  have hc24 : dr2 c2 := by have h1 := hc.1; have h2 := hc.2; exact ⟨by omega, by omega⟩
  have hd24 : dr2 d2 := by have h1 := hd.1; have h2 := hd.2; exact ⟨by omega, by omega⟩
  have hrx := sgn_range a b
  have hry := sgn_range c d
  have hrk := sgn_range (c - a) (d - b)
  rw [hsx] at hrx
  rw [hsy] at hry
  rw [hk2] at hrk
  have hz3 : sz = 0 ∨ sz = 1 ∨ sz = -1 := by rw [← hsz]; rcases hrx with h | h | h <;> rcases hry with h' | h' | h' <;> simp [h, h']
  have cSm := Lib.hid (signS m k sz (by rw [← hsz, ← hsx, ← hsy, ← hm, ← hk]; exact sgn_mul a b c d) (hi3 hm4) (hi2 hk4))
  have cSx := Lib.hid (signS a b sx hsx (hin (h2 ha)) (hin (h2 hb)))
  have cSy := Lib.hid (signS c d sy hsy (hin (h2 hc)) (hin (h2 hd)))
  have cXY := Lib.hid (compareS a b c d k1 hk1 (hin (h2 ha)) (hin (h2 hb)) (hin (h2 hc)) (hin (h2 hd)))
  have cYX := Lib.hid (compareS c d a b k2 hk2 (hin (h2 hc)) (hin (h2 hd)) (hin (h2 ha)) (hin (h2 hb)))
  have cUD := Lib.hid (compareS u v c2 d2 k1 (by rw [show u - c2 = a - c by omega, show v - d2 = b - d by omega]; exact hk1) (hin hu2) (hin hv2) (hin hc24) (hin hd24))
  have wS : IntKind.i64.wrap sz = sz := IntWalk.i64_in _ (by omega)
  have wK : IntKind.i64.wrap k1 = k1 := IntWalk.i64_in _ (by omega)
  have wc2 : IntKind.i64.wrap c2 = c2 := IntWalk.i64_in _ (by have := hc24.1; have := hc24.2; omega)
  have wd2 : IntKind.i64.wrap d2 = d2 := IntWalk.i64_in _ (by have := hd24.1; have := hd24.2; omega)
  go_upto_region 18 with fail
  go_cut [213] from 140 to 212 (fun s5 wx => s5 = .bool false ∧ Below wc.heap.size wc wx)
  case first =>
    as_aux_lemma =>
      (obtain ⟨x0, x1, x2⟩ := hX; obtain ⟨y0, y1, y2⟩ := hY; obtain ⟨b0, b1, b2⟩ := hU; obtain ⟨m0, m1, m2⟩ := hM; obtain ⟨k0, k1, k2⟩ := hP; obtain ⟨s0, s1, s2⟩ := hS; obtain ⟨n0, n1, n2⟩ := hN)
      (try simp only [List.append])
      go_region_held3 (fun wx => (∀ bk ofs, bk < wc.heap.size → wx.cell? ⟨bk, ofs, none⟩ = (wc).cell? ⟨bk, ofs, none⟩) ∧ Below (wc.heap.size) (wc) wx) ((first | exact stays (by assumption) | (refine stays ?_; ((repeat (first | with_reducible exact Below.refl _ _ | assumption | with_reducible refine Qdrew ?_ | with_reducible refine QdrewN ?_ | ((with_reducible refine Qset ?_ ?_); exact (by ((try simp only [World.size_alloc, World.size_setCell, World.size_drew, size_drewN]); (try dsimp only); omega))) | ((with_reducible refine Qalloc ?_ ?_); exact (by ((try simp only [World.size_alloc, World.size_setCell, World.size_drew, size_drewN]); (try dsimp only); omega))) | refine Qtrans (by assumption) (by ((try simp only [World.size_alloc, World.size_setCell, World.size_drew, size_drewN]); (try dsimp only); omega)) ?_)) <;> (go_split_ands; assumption))))) (first | (go_at_call 27; with_reducible refine (cNx.out _).mono ?_; (try go_split_ands); rintro e w1 ⟨rfl, hb1⟩; have hz1 := hb1.size; have hbS : Below wc.heap.size wc w1 := (by first | exact hb1 | exact below_two hb1 (by assumption)); have hcS := (stays hbS).1) | (go_at_call 29; with_reducible refine (cSm.out _).mono ?_; (try go_split_ands); rintro e w1 ⟨rfl, hb1⟩; have hz1 := hb1.size; have hbS : Below wc.heap.size wc w1 := (by first | exact hb1 | exact below_two hb1 (by assumption)); have hcS := (stays hbS).1) | (go_at_call 29; with_reducible refine (cSx.out _).mono ?_; (try go_split_ands); rintro e w1 ⟨rfl, hb1⟩; have hz1 := hb1.size; have hbS : Below wc.heap.size wc w1 := (by first | exact hb1 | exact below_two hb1 (by assumption)); have hcS := (stays hbS).1) | (go_at_call 29; with_reducible refine (cSy.out _).mono ?_; (try go_split_ands); rintro e w1 ⟨rfl, hb1⟩; have hz1 := hb1.size; have hbS : Below wc.heap.size wc w1 := (by first | exact hb1 | exact below_two hb1 (by assumption)); have hcS := (stays hbS).1) | (go_at_call 30; with_reducible refine (cXY.out _).mono ?_; (try go_split_ands); rintro e w1 ⟨rfl, hb1⟩; have hz1 := hb1.size; have hbS : Below wc.heap.size wc w1 := (by first | exact hb1 | exact below_two hb1 (by assumption)); have hcS := (stays hbS).1) | (go_at_call 30; with_reducible refine (cYX.out _).mono ?_; (try go_split_ands); rintro e w1 ⟨rfl, hb1⟩; have hz1 := hb1.size; have hbS : Below wc.heap.size wc w1 := (by first | exact hb1 | exact below_two hb1 (by assumption)); have hcS := (stays hbS).1) | (go_at_call 30; with_reducible refine (cUD.out _).mono ?_; (try go_split_ands); rintro e w1 ⟨rfl, hb1⟩; have hz1 := hb1.size; have hbS : Below wc.heap.size wc w1 := (by first | exact hb1 | exact below_two hb1 (by assumption)); have hcS := (stays hbS).1))
      all_goals (go_wp2_with fail; go_meet; exact ⟨by first | rfl | simp [*], by (repeat (first | with_reducible exact Below.refl _ _ | assumption | with_reducible refine Qdrew ?_ | with_reducible refine QdrewN ?_ | ((with_reducible refine Qset ?_ ?_); exact (by ((try simp only [World.size_alloc, World.size_setCell, World.size_drew, size_drewN]); (try dsimp only); omega))) | ((with_reducible refine Qalloc ?_ ?_); exact (by ((try simp only [World.size_alloc, World.size_setCell, World.size_drew, size_drewN]); (try dsimp only); omega))) | refine Qtrans (by assumption) (by ((try simp only [World.size_alloc, World.size_setCell, World.size_drew, size_drewN]); (try dsimp only); omega)) ?_))⟩)
  case rest =>
  obtain ⟨rfl, hbel⟩ := hcut
  have hz := hbel.size; replace hB := Qtrans hbel hzW hB; replace hzW := Nat.le_trans hzW hz; replace hr := rB_mono (rB_below hr hbel) hz; clear hz
  replace hX := gc_below hbel hX
  replace hY := gc_below hbel hY
  replace hM := gc_below hbel hM
  clear hbel hU hP hS hN cSm cSy cXY cYX cUD cNx
  obtain ⟨f0, hf0⟩ : ∃ z, flo a b = z := ⟨_, rfl⟩
  obtain ⟨hfl1, hfl2⟩ := flo_is a b (hin (h2 ha)) (hin (h2 hb))
  rw [hf0] at hfl1 hfl2
  have hfb := floor_small ha hb hfl1 hfl2
  obtain ⟨f1, hf1⟩ : ∃ z, f0 + 1 = z := ⟨_, rfl⟩
  rw [hf1] at hfl2
  obtain ⟨j1, hj1⟩ : ∃ z, sgn (a - f0) b = z := ⟨_, rfl⟩
  obtain ⟨j2, hj2⟩ : ∃ z, sgn (a - f1) b = z := ⟨_, rfl⟩
  rw [hj1] at hfl1
  rw [hj2] at hfl2
  have cF := Lib.hid (floorS a b f0 hf0 (hin (h2 ha)) (hin (h2 hb)))
  have cJ := Lib.hid (compareS a b f0 0 j1 (by rw [Int.sub_zero]; exact hj1) (hin (h2 ha)) (hin (h2 hb)) (by omega) (by omega))
  have cK := Lib.hid (compareS a b f1 0 j2 (by rw [Int.sub_zero]; exact hj2) (hin (h2 ha)) (hin (h2 hb)) (by omega) (by omega))
  go_upto_region 20 with fail
  go_cut [26] from 214 to 215 (fun s5 wx => s5 = .int .i64 f0 ∧ Below wc.heap.size wc wx)
  case first =>
    obtain ⟨x0, x1, x2⟩ := hX
    go_wp2_with (go_at_call 31; refine (cF.out wc).mono ?_; rintro e w1 ⟨rfl, hb1⟩; have hz1 := hb1.size)
    go_meet
    exact ⟨rfl, by (repeat (first | with_reducible exact Below.refl _ _ | assumption | with_reducible refine Qdrew ?_ | with_reducible refine QdrewN ?_ | ((with_reducible refine Qset ?_ ?_); exact (by ((try simp only [World.size_alloc, World.size_setCell, World.size_drew, size_drewN]); (try dsimp only); omega))) | ((with_reducible refine Qalloc ?_ ?_); exact (by ((try simp only [World.size_alloc, World.size_setCell, World.size_drew, size_drewN]); (try dsimp only); omega))) | refine Qtrans (by assumption) (by ((try simp only [World.size_alloc, World.size_setCell, World.size_drew, size_drewN]); (try dsimp only); omega)) ?_))⟩
  case rest =>
  obtain ⟨rfl, hbel⟩ := hcut
  have hz := hbel.size; replace hB := Qtrans hbel hzW hB; replace hzW := Nat.le_trans hzW hz; replace hr := rB_mono (rB_below hr hbel) hz; clear hz
  replace hX := gc_below hbel hX
  replace hY := gc_below hbel hY
  replace hM := gc_below hbel hM
  clear hbel cF
  have hj1v : j1 = 0 ∨ j1 = 1 := by have := sgn_range (a - f0) b; rw [hj1] at this; omega
  have hj2v : j2 = -1 := by have := sgn_range (a - f1) b; rw [hj2] at this; omega
  have wF : IntKind.i64.wrap f1 = f1 := IntWalk.i64_in _ (by omega)
  clear hfl1 hfl2
  subst hj2v
  go_upto_region 21 with fail
  go_cut [237] from 216 to 236 (fun s5 wx => s5 = .bool false ∧ Below wc.heap.size wc wx)
  case first =>
    (obtain ⟨x0, x1, x2⟩ := hX; rcases xy_ways hsx with ⟨rfl, rfl, rfl⟩ | ⟨ha0, hsq⟩ | ⟨rfl, hb0, hsq⟩ <;> rcases hj1v with rfl | rfl)
    all_goals
      as_aux_lemma =>
        go_region_held3 (fun wx => (∀ bk ofs, bk < wc.heap.size → wx.cell? ⟨bk, ofs, none⟩ = (wc).cell? ⟨bk, ofs, none⟩) ∧ Below (wc.heap.size) (wc) wx) ((first | exact stays (by assumption) | (refine stays ?_; ((repeat (first | with_reducible exact Below.refl _ _ | assumption | with_reducible refine Qdrew ?_ | with_reducible refine QdrewN ?_ | ((with_reducible refine Qset ?_ ?_); exact (by ((try simp only [World.size_alloc, World.size_setCell, World.size_drew, size_drewN]); (try dsimp only); omega))) | ((with_reducible refine Qalloc ?_ ?_); exact (by ((try simp only [World.size_alloc, World.size_setCell, World.size_drew, size_drewN]); (try dsimp only); omega))) | refine Qtrans (by assumption) (by ((try simp only [World.size_alloc, World.size_setCell, World.size_drew, size_drewN]); (try dsimp only); omega)) ?_)) <;> (go_split_ands; assumption))))) (first | (go_at_call 29; with_reducible refine (cSx.out _).mono ?_; (try go_split_ands); rintro e w1 ⟨rfl, hb1⟩; have hz1 := hb1.size; have hbS : Below wc.heap.size wc w1 := (by first | exact hb1 | exact below_two hb1 (by assumption)); have hcS := (stays hbS).1) | (go_at_call 30; with_reducible refine (cJ.out _).mono ?_; (try go_split_ands); rintro e w1 ⟨rfl, hb1⟩; have hz1 := hb1.size; have hbS : Below wc.heap.size wc w1 := (by first | exact hb1 | exact below_two hb1 (by assumption)); have hcS := (stays hbS).1) | (go_at_call 30; with_reducible refine (cK.out _).mono ?_; (try go_split_ands); rintro e w1 ⟨rfl, hb1⟩; have hz1 := hb1.size; have hbS : Below wc.heap.size wc w1 := (by first | exact hb1 | exact below_two hb1 (by assumption)); have hcS := (stays hbS).1))
        all_goals (go_wp2_with fail; go_meet; exact ⟨by first | rfl | simp [*], by (repeat (first | with_reducible exact Below.refl _ _ | assumption | with_reducible refine Qdrew ?_ | with_reducible refine QdrewN ?_ | ((with_reducible refine Qset ?_ ?_); exact (by ((try simp only [World.size_alloc, World.size_setCell, World.size_drew, size_drewN]); (try dsimp only); omega))) | ((with_reducible refine Qalloc ?_ ?_); exact (by ((try simp only [World.size_alloc, World.size_setCell, World.size_drew, size_drewN]); (try dsimp only); omega))) | refine Qtrans (by assumption) (by ((try simp only [World.size_alloc, World.size_setCell, World.size_drew, size_drewN]); (try dsimp only); omega)) ?_))⟩)
  case rest =>
  obtain ⟨rfl, hbel⟩ := hcut
  have hz := hbel.size; replace hB := Qtrans hbel hzW hB; replace hzW := Nat.le_trans hzW hz; replace hr := rB_mono (rB_below hr hbel) hz; clear hz
  replace hX := gc_below hbel hX
  replace hY := gc_below hbel hY
  replace hM := gc_below hbel hM
  clear hbel cJ cK
  go_upto_region 23 with fail
  go_cut [240] from 238 to 239 (fun s5 wx => ∃ t : Bool, s5 = .bool t ∧ (t = true → ¬ (c = 0 ∧ d = 0)) ∧ Below wc.heap.size wc wx)
  case first =>
    obtain ⟨y0, y1, y2⟩ := hY
    go_wp2_with fail
    all_goals go_meet
    all_goals exact ⟨_, rfl, by first | (intro h; cases h; done) | (intro _; rintro ⟨q1, q2⟩; simp_all), by (repeat (first | with_reducible exact Below.refl _ _ | assumption | with_reducible refine Qdrew ?_ | with_reducible refine QdrewN ?_ | ((with_reducible refine Qset ?_ ?_); exact (by ((try simp only [World.size_alloc, World.size_setCell, World.size_drew, size_drewN]); (try dsimp only); omega))) | ((with_reducible refine Qalloc ?_ ?_); exact (by ((try simp only [World.size_alloc, World.size_setCell, World.size_drew, size_drewN]); (try dsimp only); omega))) | refine Qtrans (by assumption) (by ((try simp only [World.size_alloc, World.size_setCell, World.size_drew, size_drewN]); (try dsimp only); omega)) ?_))⟩
  case rest =>
  obtain ⟨t, rfl, ht, hbel⟩ := hcut
  have hz := hbel.size; replace hB := Qtrans hbel hzW hB; replace hzW := Nat.le_trans hzW hz; replace hr := rB_mono (rB_below hr hbel) hz; clear hz
  replace hX := gc_below hbel hX
  replace hY := gc_below hbel hY
  replace hM := gc_below hbel hM
  clear hbel
  go_upto_if 240 with fail
  go_cut [27, 28] from 241 to 253 (fun s5 s6 wx => Below wc.heap.size wc wx)
  case first =>
    cases t
    · go_wp2_with fail
      go_meet
      (repeat (first | with_reducible exact Below.refl _ _ | assumption | with_reducible refine Qdrew ?_ | with_reducible refine QdrewN ?_ | ((with_reducible refine Qset ?_ ?_); exact (by ((try simp only [World.size_alloc, World.size_setCell, World.size_drew, size_drewN]); (try dsimp only); omega))) | ((with_reducible refine Qalloc ?_ ?_); exact (by ((try simp only [World.size_alloc, World.size_setCell, World.size_drew, size_drewN]); (try dsimp only); omega))) | refine Qtrans (by assumption) (by ((try simp only [World.size_alloc, World.size_setCell, World.size_drew, size_drewN]); (try dsimp only); omega)) ?_))
    · have cD := Lib.hid (divS a b c d m k hm hk (hsm (h2 ha)) (hsm (h2 hb)) (hsm (h2 hc)) (hsm (h2 hd)) (hi3 hm4) (hi2 hk4) (ht rfl))
      obtain ⟨x0, x1, x2⟩ := hX
      obtain ⟨y0, y1, y2⟩ := hY
      obtain ⟨m0, m1, m2⟩ := hM
      go_wp2_with ((go_at_call 32; refine (cD.out wc).mono ?_; rintro e w1 ⟨rfl, hb1⟩; have hz1 := hb1.size); have hk1 := hb1.cell (p := ⟨gx, 0, none⟩) x0; have hk2 := hb1.cell (p := ⟨gx, 1, none⟩) x0; have hk3 : gx < w1.heap.size := (Nat.lt_of_lt_of_le x0 hz1))
      go_meet
      (repeat (first | with_reducible exact Below.refl _ _ | assumption | with_reducible refine Qdrew ?_ | with_reducible refine QdrewN ?_ | ((with_reducible refine Qset ?_ ?_); exact (by ((try simp only [World.size_alloc, World.size_setCell, World.size_drew, size_drewN]); (try dsimp only); omega))) | ((with_reducible refine Qalloc ?_ ?_); exact (by ((try simp only [World.size_alloc, World.size_setCell, World.size_drew, size_drewN]); (try dsimp only); omega))) | refine Qtrans (by assumption) (by ((try simp only [World.size_alloc, World.size_setCell, World.size_drew, size_drewN]); (try dsimp only); omega)) ?_))
  case rest =>
  have hbel := hcut
  have hz := hbel.size; replace hB := Qtrans hbel hzW hB; replace hzW := Nat.le_trans hzW hz; replace hr := rB_mono (rB_below hr hbel) hz; clear hz
  replace hX := gc_below hbel hX
  clear hbel hM hY
  go_upto_region 27 with fail
  go_cut [29] from 254 to 255 (fun s5 wx => ∃ z : Int, s5 = .int .i64 z ∧ (-12 ≤ z ∧ z ≤ 12) ∧ Below wc.heap.size wc wx)
  case first =>
    go_wp2_with (go_at_call 33; refine (MakeSize_any wc.heap.size px n cap 20 (by omega) (-12) 12 (by omega) (by omega) (by omega) wc (by omega) hr).mono ?_; rintro e w1 ⟨z, rfl, hz12, hb1⟩; have hz1 := hb1.size)
    go_meet
    exact ⟨z, rfl, hz12, by (repeat (first | with_reducible exact Below.refl _ _ | assumption | with_reducible refine Qdrew ?_ | with_reducible refine QdrewN ?_ | ((with_reducible refine Qset ?_ ?_); exact (by ((try simp only [World.size_alloc, World.size_setCell, World.size_drew, size_drewN]); (try dsimp only); omega))) | ((with_reducible refine Qalloc ?_ ?_); exact (by ((try simp only [World.size_alloc, World.size_setCell, World.size_drew, size_drewN]); (try dsimp only); omega))) | refine Qtrans (by assumption) (by ((try simp only [World.size_alloc, World.size_setCell, World.size_drew, size_drewN]); (try dsimp only); omega)) ?_))⟩
  case rest =>
  obtain ⟨z, rfl, hz12, hbel⟩ := hcut
  have hz := hbel.size; replace hB := Qtrans hbel hzW hB; replace hzW := Nat.le_trans hzW hz; replace hr := rB_mono (rB_below hr hbel) hz; clear hz
  replace hX := gc_below hbel hX
  clear hbel
  obtain ⟨z2, hz2⟩ : ∃ y, -z = y := ⟨_, rfl⟩
  have wZ : IntKind.i64.wrap z2 = z2 := IntWalk.i64_in _ (by omega)
  have wZ2 : wrap64 z2 = z2 := wrap_in _ (by omega)
  obtain ⟨e1, e2, e3, e4⟩ := pow_all z hz12
  obtain ⟨hp1, hp2⟩ := pow_sm z hz12
  obtain ⟨hq1, hq2⟩ := pow_sm (-z) (by omega)
  rw [hz2] at e1 e2 hq1 hq2
  rw [mulA_in (lim_sm hp1) (lim_sm hp2) (lim_sm hq1) (lim_sm hq2)] at e1
  rw [mulB_in (lim_sm hp1) (lim_sm hp2) (lim_sm hq1) (lim_sm hq2)] at e2
  rw [normI_in (lim_sm hp1) (lim_sm hp2)] at e3
  obtain ⟨t1, hT1⟩ : ∃ y, (pwN z).1 = y := ⟨_, rfl⟩
  obtain ⟨t2, hT2⟩ : ∃ y, (pwN z).2 = y := ⟨_, rfl⟩
  obtain ⟨w1, hW1⟩ : ∃ y, (pwN z2).1 = y := ⟨_, rfl⟩
  obtain ⟨w2, hW2⟩ : ∃ y, (pwN z2).2 = y := ⟨_, rfl⟩
  rw [hT1, hT2] at e3 e4
  rw [hT1, hT2, hW1, hW2] at e1 e2
  rw [hT1] at hp1
  rw [hT2] at hp2
  rw [hW1] at hq1
  rw [hW2] at hq2
  have cT := Lib.hid (powerS z t1 t2 hT1 hT2 hz12)
  have cW := Lib.hid (powerS z2 w1 w2 hW1 hW2 (by omega))
  have cE := Lib.hid (mulS t1 t2 w1 w2 1 0 e1 e2 hp1 hp2 hq1 hq2 (by omega) (by omega))
  have cZ := Lib.hid (divZ a b (hin (h2 ha)) (hin (h2 hb)))
  obtain ⟨nt, hnt⟩ : ∃ y, t1 * t1 + t1 * t2 - t2 * t2 = y := ⟨_, rfl⟩
  rw [hnt] at e3
  have cN := Lib.hid (normS t1 t2 nt hnt (in_sm hp1) (in_sm hp2))
  have cMag := Lib.hid (fun w => magS nt e3 w)
  have cS := Lib.hid (signS t1 t2 1 e4 (in_sm hp1) (in_sm hp2))
  clear e1 e2 e3 e4 hT1 hT2 hW1 hW2
  go_upto_region 28 with fail
  go_cut [30, 31] from 256 to 260 (fun s5 s6 wx => ∃ g : Nat, s5 = .pointer (some ⟨g, 0, none⟩) ∧ s6 = .bool true ∧ GC wx g (t1) (t2) ∧ Below wc.heap.size wc wx)
  case first =>
    as_aux_lemma =>
      (skip)
      go_wp2_with ((go_at_call 34; refine (cT.out wc).mono ?_; rintro e w1 ⟨rfl, hb1⟩; have hz1 := hb1.size))
      go_meet
      exact ⟨_, rfl, rfl, ⟨by ((try simp only [World.size_alloc, World.size_setCell, World.size_drew, size_drewN]); (try dsimp only); omega), by simp [go_sem, csame, *], by simp [go_sem, csame, *]⟩, by (repeat (first | with_reducible exact Below.refl _ _ | assumption | with_reducible refine Qdrew ?_ | with_reducible refine QdrewN ?_ | ((with_reducible refine Qset ?_ ?_); exact (by ((try simp only [World.size_alloc, World.size_setCell, World.size_drew, size_drewN]); (try dsimp only); omega))) | ((with_reducible refine Qalloc ?_ ?_); exact (by ((try simp only [World.size_alloc, World.size_setCell, World.size_drew, size_drewN]); (try dsimp only); omega))) | refine Qtrans (by assumption) (by ((try simp only [World.size_alloc, World.size_setCell, World.size_drew, size_drewN]); (try dsimp only); omega)) ?_))⟩
  case rest =>
  obtain ⟨gt', rfl, rfl, hT, hbel⟩ := hcut
  have hz := hbel.size; replace hB := Qtrans hbel hzW hB; replace hzW := Nat.le_trans hzW hz; replace hr := rB_mono (rB_below hr hbel) hz; clear hz
  replace hX := gc_below hbel hX
  clear hbel
  go_upto_region 29 with fail
  go_cut [32, 33] from 261 to 266 (fun s5 s6 wx => ∃ g : Nat, s5 = .pointer (some ⟨g, 0, none⟩) ∧ s6 = .bool true ∧ GC wx g (w1) (w2) ∧ Below wc.heap.size wc wx)
  case first =>
    as_aux_lemma =>
      (skip)
      go_wp2_with ((go_at_call 34; refine (cW.out wc).mono ?_; rintro e w1 ⟨rfl, hb1⟩; have hz1 := hb1.size))
      go_meet
      exact ⟨_, rfl, rfl, ⟨by ((try simp only [World.size_alloc, World.size_setCell, World.size_drew, size_drewN]); (try dsimp only); omega), by simp [go_sem, csame, *], by simp [go_sem, csame, *]⟩, by (repeat (first | with_reducible exact Below.refl _ _ | assumption | with_reducible refine Qdrew ?_ | with_reducible refine QdrewN ?_ | ((with_reducible refine Qset ?_ ?_); exact (by ((try simp only [World.size_alloc, World.size_setCell, World.size_drew, size_drewN]); (try dsimp only); omega))) | ((with_reducible refine Qalloc ?_ ?_); exact (by ((try simp only [World.size_alloc, World.size_setCell, World.size_drew, size_drewN]); (try dsimp only); omega))) | refine Qtrans (by assumption) (by ((try simp only [World.size_alloc, World.size_setCell, World.size_drew, size_drewN]); (try dsimp only); omega)) ?_))⟩
  case rest =>
  obtain ⟨gw', rfl, rfl, hW, hbel⟩ := hcut
  have hz := hbel.size; replace hB := Qtrans hbel hzW hB; replace hzW := Nat.le_trans hzW hz; replace hr := rB_mono (rB_below hr hbel) hz; clear hz
  replace hX := gc_below hbel hX
  replace hT := gc_below hbel hT
  clear hbel
  go_upto_region 30 with fail
  go_cut [34, 35] from 267 to 272 (fun s5 s6 wx => ∃ g : Nat, s5 = .pointer (some ⟨g, 0, none⟩) ∧ s6 = .bool true ∧ GC wx g (1) (0) ∧ Below wc.heap.size wc wx)
  case first =>
    as_aux_lemma =>
      (obtain ⟨x0, x1, x2⟩ := hT; obtain ⟨y0, y1, y2⟩ := hW)
      go_wp2_with ((go_at_call 26; refine (cE.out wc).mono ?_; rintro e w1 ⟨rfl, hb1⟩; have hz1 := hb1.size))
      go_meet
      exact ⟨_, rfl, rfl, ⟨by ((try simp only [World.size_alloc, World.size_setCell, World.size_drew, size_drewN]); (try dsimp only); omega), by simp [go_sem, csame, *], by simp [go_sem, csame, *]⟩, by (repeat (first | with_reducible exact Below.refl _ _ | assumption | with_reducible refine Qdrew ?_ | with_reducible refine QdrewN ?_ | ((with_reducible refine Qset ?_ ?_); exact (by ((try simp only [World.size_alloc, World.size_setCell, World.size_drew, size_drewN]); (try dsimp only); omega))) | ((with_reducible refine Qalloc ?_ ?_); exact (by ((try simp only [World.size_alloc, World.size_setCell, World.size_drew, size_drewN]); (try dsimp only); omega))) | refine Qtrans (by assumption) (by ((try simp only [World.size_alloc, World.size_setCell, World.size_drew, size_drewN]); (try dsimp only); omega)) ?_))⟩
  case rest =>
  obtain ⟨ge', rfl, rfl, hE, hbel⟩ := hcut
  have hz := hbel.size; replace hB := Qtrans hbel hzW hB; replace hzW := Nat.le_trans hzW hz; replace hr := rB_mono (rB_below hr hbel) hz; clear hz
  replace hX := gc_below hbel hX
  replace hT := gc_below hbel hT
  clear hbel
  go_upto_region 31 with fail
  go_cut [36, 37] from 273 to 278 (fun s5 s6 wx => ∃ g : Nat, s5 = .pointer (some ⟨g, 0, none⟩) ∧ s6 = .bool false ∧ GC wx g (0) (0) ∧ Below wc.heap.size wc wx)
  case first =>
    as_aux_lemma =>
      (obtain ⟨x0, x1, x2⟩ := hX)
      go_wp2_with ((go_at_call 32; refine (cZ.out wc).mono ?_; rintro e w1 ⟨rfl, hb1⟩; have hz1 := hb1.size))
      go_meet
      exact ⟨_, rfl, rfl, ⟨by ((try simp only [World.size_alloc, World.size_setCell, World.size_drew, size_drewN]); (try dsimp only); omega), by simp [go_sem, csame, *], by simp [go_sem, csame, *]⟩, by (repeat (first | with_reducible exact Below.refl _ _ | assumption | with_reducible refine Qdrew ?_ | with_reducible refine QdrewN ?_ | ((with_reducible refine Qset ?_ ?_); exact (by ((try simp only [World.size_alloc, World.size_setCell, World.size_drew, size_drewN]); (try dsimp only); omega))) | ((with_reducible refine Qalloc ?_ ?_); exact (by ((try simp only [World.size_alloc, World.size_setCell, World.size_drew, size_drewN]); (try dsimp only); omega))) | refine Qtrans (by assumption) (by ((try simp only [World.size_alloc, World.size_setCell, World.size_drew, size_drewN]); (try dsimp only); omega)) ?_))⟩
  case rest =>
  obtain ⟨gz', rfl, rfl, hZ, hbel⟩ := hcut
  have hz := hbel.size; replace hB := Qtrans hbel hzW hB; replace hzW := Nat.le_trans hzW hz; replace hr := rB_mono (rB_below hr hbel) hz; clear hz
  replace hT := gc_below hbel hT
  replace hE := gc_below hbel hE
  clear hbel
  obtain ⟨x0, x1, x2⟩ := hT
  obtain ⟨y0, y1, y2⟩ := hE
  go_wp2_with (first | ((go_at_call 27; refine (cN.out wc).mono ?_; rintro e w1 ⟨rfl, hb1⟩; have hz1 := hb1.size); have hk1 := hb1.cell (p := ⟨gt', 0, none⟩) x0; have hk2 := hb1.cell (p := ⟨gt', 1, none⟩) x0; have hk3 : gt' < w1.heap.size := (Nat.lt_of_lt_of_le x0 hz1); rw [x1] at hk1; rw [x2] at hk2) | (go_at_call 35; refine (cMag.out _).mono ?_; rintro e w2 ⟨rfl, hb2⟩; have hz2 := hb2.size; have hk4 := (hb2.cell (p := ⟨gt', 0, none⟩) hk3).trans hk1; have hk5 := (hb2.cell (p := ⟨gt', 1, none⟩) hk3).trans hk2) | (go_at_call 29; refine (cS.out _).mono ?_; rintro e w3 ⟨rfl, hb3⟩; have hz3 := hb3.size))
  go_ret
  exact ⟨rfl, by rw [← hwc]; exact ((hB.trans (hb1.mono hzW)).trans (hb2.mono (by omega))).trans (hb3.mono (by omega))⟩
end Go.Proofs.Ytieibopegmoanaa
