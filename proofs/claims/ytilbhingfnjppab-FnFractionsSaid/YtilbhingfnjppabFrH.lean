/- The law on fractions: the walk. -/
import Derived.Test.YtilbhingfnjppabFrG
import Derived.Deep.QuietTactic
import Derived.BigQuiet
import Derived.Deep.CutRange
set_option linter.unusedSimpArgs false
set_option linter.unusedVariables false
namespace Go.Proofs.Ytilbhingfnjppab
open Go.RowKit
theorem rB_ofF {w : World} {x : Option Addr} {n cap : Nat} {zs : List Int} (h : IsRow .u8 w x n cap zs) : RB w.heap.size w x n := by
  obtain ⟨h1, h2, h3, h4, h5⟩ := h
  unfold maxLen at h3
  refine ⟨by omega, ?_⟩
  rcases h5 with h5 | ⟨b, off, e, hb, hj⟩
  · exact .inl h5
  · refine .inr ⟨b, off, e, hb, fun j q => ?_⟩
    have hm : zs.getD j 0 ∈ zs := by
      rw [List.getD_eq_getElem?_getD, List.getElem?_eq_getElem (by omega)]; exact List.getElem_mem _
    have hw := h4 _ hm
    simp [Lit.wf, IntKind.min, IntKind.max, IntKind.signed, IntKind.bits] at hw
    exact ⟨_, hw.1, hw.2, hj j q⟩
theorem newsF {w : World} {o : Obj} {Q C T : Nat} {l : List Value} (hQ : Q < w.heap.size) (hTC : T + 1 ≤ C) (hl : l.length = T) (h : ∀ j u, l[j]? = some u → w.cell? ⟨Q, 1 + j, none⟩ = some u) :
    ∃ ad, (if C = 1 then some (⟨Q, 0, none⟩ : Addr) else some ⟨Q, 1, none⟩) = some ad ∧ ∀ j u, l[j]? = some u → ((w.alloc o).drew).cell? (ad.add j) = some u := by
  by_cases hC : C = 1
  · refine ⟨⟨Q, 0, none⟩, by rw [if_pos hC], fun j u hu => ?_⟩
    have := (List.getElem?_eq_some_iff.1 hu).1
    omega
  · refine ⟨⟨Q, 1, none⟩, by rw [if_neg hC], fun j u hu => ?_⟩
    have hadd : (⟨Q, 1, none⟩ : Addr).add j = ⟨Q, 1 + j, none⟩ := by unfold Addr.add; split <;> simp_all
    rw [hadd]
    exact (calloc (w := w) (x := o) hQ).trans (h j u hu)
set_option maxRecDepth 20000 in
set_option maxHeartbeats 16000000 in
theorem FnFractions_law (wc : World) (px : Option Addr) (n cap : Nat) (cz : List Int) (hrow : IsRow .u8 wc px n cap cz) :
    Calls Try.prog 5 #[.slice px n cap] wc fun e w' => e = .returned (.bool true) ∧ Below wc.heap.size wc w' := by
  obtain ⟨i0, hi0, hz0, hz1, hz2⟩ := info_parts infoI
  have hr := rB_ofF hrow
  have hn := hr.1
  clear hrow
  by_cases hbig : (1048576 : Int) < (n : Int)
  · go_enter Try.func5, Try.ntmps5
    go_wp2
    go_ret
    exact ⟨rfl, by (repeat (first | with_reducible exact Below.refl _ _ | assumption | with_reducible refine Qdrew ?_ | with_reducible refine QdrewN ?_ | ((with_reducible refine Qset ?_ ?_); exact (by ((try simp only [World.size_alloc, World.size_setCell, World.size_drew, size_drewN]); (try dsimp only); omega))) | ((with_reducible refine Qalloc ?_ ?_); exact (by ((try simp only [World.size_alloc, World.size_setCell, World.size_drew, size_drewN]); (try dsimp only); omega))) | refine Qtrans (by assumption) (by ((try simp only [World.size_alloc, World.size_setCell, World.size_drew, size_drewN]); (try dsimp only); omega)) ?_))⟩
  have cM0 : Calls Try.prog 21 #[.slice px n cap, .int .i64 0, .int .i64 0, .int .i64 60] wc fun e w' => ∃ v : Int, e = .returned (.int .i64 v) ∧ (0 ≤ v ∧ v ≤ 60) ∧ Below wc.heap.size wc w' := MakeSize_any wc.heap.size px n cap 0 (by omega) 0 60 (by omega) (by omega) (by omega) wc (Nat.le_refl _) hr
  have cM1 : ∀ w, Below wc.heap.size wc w → Calls Try.prog 21 #[.slice px n cap, .int .i64 1, .int .i64 1, .int .i64 60] w fun e w' => ∃ v : Int, e = .returned (.int .i64 v) ∧ (1 ≤ v ∧ v ≤ 60) ∧ Below w.heap.size w w' := fun w hb => MakeSize_any wc.heap.size px n cap 1 (by omega) 1 60 (by omega) (by omega) (by omega) w hb.size (rB_below hr hb)
  have cMQ := fun w (hb : Below wc.heap.size wc w) => MakeQ_any wc.heap.size px n cap 20 (by omega) w hb.size (rB_below hr hb)
  go_enter Try.func5, Try.ntmps5
  go_upto_region 5 with (first | (go_at_call 21; (with_reducible refine cM0.mono ?_); rintro e w1 ⟨v, rfl, ⟨hv1, hv2⟩, hb1⟩; have hz1' := hb1.size) | (go_at_call 21; (with_reducible refine (cM1 _ hb1).mono ?_); rintro e w2 ⟨u, rfl, ⟨hu1, hu2⟩, hb2⟩; have hbw := Qtrans hb2 hz1' hb1; have hzw := hbw.size))
  obtain ⟨p, rfl⟩ : ∃ p : Nat, v = (p : Int) := ⟨v.toNat, by omega⟩
  obtain ⟨q, rfl⟩ : ∃ q : Nat, u = (q : Int) := ⟨u.toNat, by omega⟩
  have hK := fr_ok p q (by omega) (by omega) (by omega)
  clear cM0 cM1 hb1 hb2 hz1' hr
  go_upto_region 6 with (go_at_call 35; refine (Quotients_any p q (by omega) (by omega) (by omega) _).mono ?_; rintro e w3 ⟨x, c, rfl, hown, hb3⟩; have hbw := Qtrans hb3 hzw hbw; have hzw := hbw.size)
  have n1 := hK.ok.n1
  have n20 := hK.ok.n2
  obtain ⟨g, c', hx, hgB, hgl⟩ := hown.form (by omega)
  cases hx
  have hRI3 := rI_own (zs := zN (qs p q)) hown (by omega)
  have hQ := hK.ok
  have hd1 := hK.d1
  have hgc := hK.gcd
  have hlast := hK.last
  have hpath := hK.path
  have hev := hK.even
  have hod := hK.odd
  have heq := hK.eq
  obtain ⟨ka, kb, kc⟩ : cN (qs p q) ((qs p q).length - 1) ≤ 60 ∧ dN (qs p q) ((qs p q).length - 1) ≤ 60 ∧ True := ⟨(hK.few _ (by omega)).2.1, (hK.few _ (by omega)).2.2, trivial⟩
  have hfew := hK.few
  have hlst := hown.cellAt ((qs p q).length - 1) (by omega)
  have hlst2 : (ivN (qs p q))[(qs p q).length - 1]? = some (.int .i64 (((qs p q).getD ((qs p q).length - 1) 0 : Nat) : Int)) := by
    rw [List.getD_eq_getElem?_getD, List.getElem?_eq_getElem (show (qs p q).length - 1 < (qs p q).length by omega)]
    simp [ivN, iv, List.getElem?_eq_getElem (show (qs p q).length - 1 < (qs p q).length by omega)]
  rw [hlst2] at hlst
  obtain ⟨l, hl⟩ : ∃ l, qs p q = l := ⟨_, rfl⟩
  rw [hl] at n1 n20 hown hRI3 hQ hd1 hgc hlast hpath hev hod heq ka kb hfew hlst ⊢
  clear hK hlst2 hl kc
  obtain ⟨m, hm⟩ : ∃ m, l.length = m + 1 := ⟨l.length - 1, by omega⟩
  rw [hm] at n20 hown hRI3 hlast hev hod hfew hlst ⊢
  simp only [hm, Nat.add_sub_cancel] at hd1 hgc hpath heq ka kb hlast hlst
  have hmH := Lib.hid hm
  clear hm n1
  obtain ⟨a, ha⟩ : ∃ a, cN l m = a := ⟨_, rfl⟩
  obtain ⟨b, hb⟩ : ∃ b, dN l m = b := ⟨_, rfl⟩
  have cF : ∀ w, RI w (some ⟨g, 0, none⟩) (m + 1) (zN l) → Calls Try.prog 36 #[.slice (some ⟨g, 0, none⟩) (m + 1) c] w fun e w' => e = .returned (.tuple #[.int .i64 a, .int .i64 b, .bool true]) ∧ Below w.heap.size w w' := fun w h => by
    have := FracOf_yes (some ⟨g, 0, none⟩) (m + 1) c l w h hQ
    rwa [Nat.add_sub_cancel, ha, hb] at this
  have cC := fun w (h : RI w (some ⟨g, 0, none⟩) (m + 1) (zN l)) => ConvOf_yes (some ⟨g, 0, none⟩) (m + 1) c l w h hQ
  rw [ha] at hgc hpath heq ka
  rw [hb] at hd1 hgc hpath heq kb
  clear ha hb hown
  obtain ⟨lz, hlz⟩ : ∃ z, l.getD m 0 = z := ⟨_, rfl⟩
  rw [hlz] at hlast hlst
  have hlz60 : lz ≤ 60 := by rw [← hlz]; exact (hfew m (by omega)).1
  clear hlz
  have hpathH := Lib.hid hpath
  have hgcH := Lib.hid hgc
  have hevH := Lib.hid hev
  have hodH := Lib.hid hod
  have hfewH := Lib.hid hfew
  clear hpath hgc hev hod hfew hQ
  go_upto_region 7 with (go_at_call 36; (with_reducible refine (cF _ hRI3).mono ?_); rintro e w4 ⟨rfl, hb4⟩; have hbw := Qtrans hb4 hzw hbw; have hzw := hbw.size)
  have hRI4 := rI_below hRI3 (Nat.le_refl _) hb4
  have hlst4 := (hb4.cell (p := ⟨g, m, none⟩) hgl).trans (by simpa using hlst)
  clear hlst cF hRI3
  have hpl : p ≤ 60 ∧ q ≤ 60 := by omega
  go_cut [74] from 41 to 73 (fun v wx => v = .bool false ∧ Below w4.heap.size w4 wx)
  case first =>
    obtain ⟨hp60, hq60⟩ := hpl
    have m1 : a * q ≤ 60 * 60 := Nat.mul_le_mul ka hq60
    obtain ⟨X, hX⟩ : ∃ X, a * q = X := ⟨_, rfl⟩
    have i1 : IntKind.i64.wrap ((a : Int) * (q : Int)) = (X : Int) := by rw [← Int.natCast_mul, hX, IntWalk.i64_in _ (by omega)]
    have i2 : IntKind.i64.wrap ((b : Int) * (p : Int)) = (X : Int) := by rw [← Int.natCast_mul, ← heq, hX, IntWalk.i64_in _ (by omega)]
    have i3 : ¬ (b : Int) < 1 := by omega
    have i4 : ¬ ((m + 1 : Nat) : Int) < 1 := by omega
    have i5 : IntKind.i64.wrap (((m + 1 : Nat) : Int) - 1) = (m : Int) := by rw [IntWalk.i64_in _ (by omega)]; omega
    have i6 : (0 : Int) ≤ (m : Int) := by omega
    have i7 : (m : Int) < ((m + 1 : Nat) : Int) := by omega
    clear hX heq hbw
    by_cases h0 : m = 0
    · have i8 : ¬ (1 : Int) < ((m + 1 : Nat) : Int) := by omega
      clear h0 hlast
      go_wp2_with fail
      go_meet
      exact ⟨rfl, Below.refl _ _⟩
    · have i8 : (1 : Int) < ((m + 1 : Nat) : Int) := by omega
      have i9 : ¬ (lz : Int) < 2 := by omega
      clear h0 hlast
      go_wp2_with fail
      go_meet
      exact ⟨rfl, Below.refl _ _⟩
  case rest =>
    rename World => w4'
    obtain ⟨rfl, hb4'⟩ := hcut
    have hbw := Qtrans hb4' hzw hbw
    have hzw := hbw.size
    have hRI5 := rI_below hRI4 (Nat.le_refl _) hb4'
    clear hlst4 hRI4 hb4 hb4' heq hlast
    go_upto_region 12 with (go_at_call 37; refine (cC _ hRI5).mono ?_; rintro e w5 ⟨G, CC, rfl, hom, hb5⟩; have hbw := Qtrans hb5 hzw hbw; have hzw := hbw.size; have hRI6 := rI_below hRI5 (Nat.le_refl _) hb5)
    obtain ⟨V, f, hVl, hOM, hrows⟩ := hom
    have hrowsH := Lib.hid hrows
    have b5 := hbw
    have z5 := hzw
    have hGl := (hOM.lt G rfl).2
    clear hrows hb5 hRI5 cC hVl
    generalize w4'.heap.size = B4 at *
    go_wp2_with fail
    go_loopw [84] (fun i wr => ∃ k : Nat, k ≤ m + 1 ∧ i = .int .i64 k ∧ Below w5.heap.size w5 wr) (fun i _ => m + 1 - (intOf i).toNat)
    case atStart => exact ⟨0, by omega, rfl, Below.refl _ _⟩
    case round =>
      obtain ⟨k, hk, rfl, hbr⟩ := hrel
      have hzr := hbr.size
      by_cases hlt : k < m + 1
      · obtain ⟨r1, r2, r3⟩ := hrowsH.out k hlt
        have c0 := (hbr.cell (p := ⟨G, k, none⟩) hGl).trans (own_cell hOM k hlt)
        rw [r1] at c0
        have hfk := (r2.lt (f k) rfl).2
        have ca := (hbr.cell (p := ⟨f k, 0, none⟩) hfk).trans (own_cell r2 0 (by omega))
        have cb := (hbr.cell (p := ⟨f k, 1, none⟩) hfk).trans (own_cell r2 1 (by omega))
        simp only [cdR, Nat.zero_add, List.getElem?_cons_zero, List.getElem?_cons_succ] at ca cb
        obtain ⟨x1, x2, x3⟩ := hfewH.out k hlt
        have j0 : (0 : Int) ≤ (k : Int) := by omega
        have j1 : (k : Int) < ((m + 1 : Nat) : Int) := by omega
        have hpar := fun j (e : k = j + 1) => (⟨hevH.out j (by omega), hodH.out j (by omega)⟩ : ((j + 1) % 2 = 0 → dN l (j + 1) * cN l j = cN l (j + 1) * dN l j + 1) ∧ ((j + 1) % 2 ≠ 0 → cN l (j + 1) * dN l j = dN l (j + 1) * cN l j + 1))
        by_cases h0 : k = 0
        · have j2 : ¬ (0 : Int) < (k : Int) := by omega
          have j2n : decide (0 < k) = false := decide_eq_false (by omega)
          clear h0 r1 r2 r3 hOM hpar
          generalize cN l k = A at *
          generalize dN l k = D at *
          as_aux_lemma =>
            as_aux_lemma =>
              go_wp2_with fail
              refine wp_region_quiet_lit (by kernel_rfl) (by kernel_rfl) ?_
              repeat (go_big_quiet_step (fail))
              (try dsimp only [List.append])
              repeat (go_big_quiet_step (fail))
              refine wpQuiet_nil ?_
              intro _ hw'
              obtain ⟨nq, hw''⟩ := hw'
              subst hw''
              go_wp2_with fail
              exact ⟨⟨k + 1, by omega, by go_num, by first | exact hbr.trans ⟨rfl, rfl, rfl, Nat.le_refl _, fun _ _ => rfl⟩ | exact hbr.drew | exact hbr⟩, by simp [intOf]; omega⟩
        · obtain ⟨j, hj⟩ : ∃ j, k = j + 1 := ⟨k - 1, by omega⟩
          obtain ⟨s1, s2, s3⟩ := hrowsH.out j (by omega)
          have d0 := (hbr.cell (p := ⟨G, j, none⟩) hGl).trans (own_cell hOM j (by omega))
          rw [s1] at d0
          have hfj := (s2.lt (f j) rfl).2
          have da := (hbr.cell (p := ⟨f j, 0, none⟩) hfj).trans (own_cell s2 0 (by omega))
          have db := (hbr.cell (p := ⟨f j, 1, none⟩) hfj).trans (own_cell s2 1 (by omega))
          simp only [cdR, Nat.zero_add, List.getElem?_cons_zero, List.getElem?_cons_succ] at da db
          obtain ⟨y1, y2, y3⟩ := hfewH.out j (by omega)
          have hp := hpar j hj
          rw [← hj] at hp
          have j2 : (0 : Int) < (k : Int) := by omega
          have j2n : decide (0 < k) = true := decide_eq_true (by omega)
          have j3 : IntKind.i64.wrap ((k : Int) - 1) = (j : Int) := by rw [IntWalk.i64_in _ (by omega)]; omega
          have j4 : (0 : Int) ≤ (j : Int) := by omega
          have j5 : (j : Int) < ((m + 1 : Nat) : Int) := by omega
          have e0 : (k : Int).tmod 2 = ((k % 2 : Nat) : Int) := tmod_nat k 2
          clear h0 hj r1 r2 r3 s1 s2 s3 hOM hpar x1 y1
          generalize cN l k = A at *
          generalize dN l k = D at *
          generalize cN l j = A' at *
          generalize dN l j = D' at *
          have m1 : A * D' ≤ 60 * 60 := Nat.mul_le_mul x2 y3
          have m2 : D * A' ≤ 60 * 60 := Nat.mul_le_mul x3 y2
          have i1 : IntKind.i64.wrap ((A : Int) * (D' : Int)) = ((A * D' : Nat) : Int) := by rw [← Int.natCast_mul, IntWalk.i64_in _ (by omega)]
          have i2 : IntKind.i64.wrap ((D : Int) * (A' : Int)) = ((D * A' : Nat) : Int) := by rw [← Int.natCast_mul, IntWalk.i64_in _ (by omega)]
          generalize A * D' = X at *
          generalize D * A' = Y at *
          rcases Nat.mod_two_eq_zero_or_one k with h2 | h2
          · have h3 := hp.1 h2
            rw [h2] at e0
            have e0' : (k : Int).tmod 2 = 0 := e0
            have i3 : IntKind.i64.wrap ((X : Int) - (Y : Int)) = -1 := by rw [IntWalk.i64_in _ (by omega)]; omega
            clear hp h2 h3 e0
            as_aux_lemma =>
              go_wp2_with fail
              refine wp_region_quiet_lit (by kernel_rfl) (by kernel_rfl) ?_
              repeat (go_big_quiet_step (fail))
              (try dsimp only [List.append])
              repeat (go_big_quiet_step (fail))
              refine wpQuiet_nil ?_
              intro _ hw'
              obtain ⟨nq, hw''⟩ := hw'
              subst hw''
              go_wp2_with fail
              exact ⟨⟨k + 1, by omega, by go_num, by first | exact hbr.trans ⟨rfl, rfl, rfl, Nat.le_refl _, fun _ _ => rfl⟩ | exact hbr.drew | exact hbr⟩, by simp [intOf]; omega⟩
          · have h3 := hp.2 (by omega)
            rw [h2] at e0
            have e0' : (k : Int).tmod 2 = 1 := e0
            have i3 : IntKind.i64.wrap ((X : Int) - (Y : Int)) = 1 := by rw [IntWalk.i64_in _ (by omega)]; omega
            clear hp h2 h3 e0
            as_aux_lemma =>
              go_wp2_with fail
              refine wp_region_quiet_lit (by kernel_rfl) (by kernel_rfl) ?_
              repeat (go_big_quiet_step (fail))
              (try dsimp only [List.append])
              repeat (go_big_quiet_step (fail))
              refine wpQuiet_nil ?_
              intro _ hw'
              obtain ⟨nq, hw''⟩ := hw'
              subst hw''
              go_wp2_with fail
              exact ⟨⟨k + 1, by omega, by go_num, by first | exact hbr.trans ⟨rfl, rfl, rfl, Nat.le_refl _, fun _ _ => rfl⟩ | exact hbr.drew | exact hbr⟩, by simp [intOf]; omega⟩
      · have j1 : ¬ (k : Int) < ((m + 1 : Nat) : Int) := by omega
        have hbw := Qtrans hbr z5 b5
        have hzw := hbw.size
        have hRI7 := rI_below hRI6 (Nat.le_refl _) hbr
        clear hOM hGl hrowsH hevH hodH b5 z5 hRI6
        rename World => w5'
        go_upto_region 19 with (go_at_call 38; refine (cMQ _ hbw).mono ?_; rintro e w6 ⟨d, t, Q, C6, rfl, hd, ht, htm, hown6, hb6⟩; have hbw := Qtrans hb6 hzw hbw; have hzw := hbw.size)
        have hRI8 := rI_below hRI7 (Nat.le_refl _) hb6
        have h4 : ∀ j, j < t.length → 1 ≤ t.getD j 0 ∧ t.getD j 0 ≤ 4 := fun j hj => by
          rw [List.getD_eq_getElem?_getD, List.getElem?_eq_getElem hj]
          exact htm _ (List.getElem_mem _)
        have hS := std_casesF d t hd ht h4
        have hE := e_ok d t hd ht h4
        obtain ⟨hQB, hQl⟩ := hown6.lt Q rfl
        have hQc := own_capF hown6
        have hRd := rI_own (zs := zN (d :: t)) hown6 (by omega)
        have b6 := hbw
        have z6 := hzw
        have hfew := hfewH.out
        have hfew1 := Lib.hid (fun j hj => (hfew j hj).1 : ∀ j, j < m + 1 → l.getD j 0 ≤ 60)
        clear cMQ hRI7 hbr hb6 hfew hfewH
        have cNS : ∀ w, Calls Try.prog 46 #[.string ⟨#[98]⟩, .string ⟨#[97]⟩, .int .i64 3] w fun e w' => e = .returned (.tuple #[.string ⟨#[97, 97, 97, 98]⟩, .bool true]) ∧ Below w.heap.size w w' := fun w => by
          have := implNext_any ⟨#[98]⟩ ⟨#[97]⟩ 3 w (by decide) (by decide)
          rwa [aaabF] at this
        have key : ∃ P : Nat, 1 ≤ P ∧ P ≤ 60 ∧ Nat.gcd P b = 1 ∧ max (1 : Int) (a : Int) = (P : Int) ∧ (a = 0 ∨ (0 < a ∧ P = a ∧ (sb P b).length + 1 = sumN l)) := by
          by_cases h0 : a = 0
          · exact ⟨1, by omega, by omega, Nat.gcd_one_left b, by omega, .inl h0⟩
          · exact ⟨a, by omega, by omega, hgcH.out, by omega, .inr ⟨by omega, rfl, hpathH.out.resolve_left h0⟩⟩
        obtain ⟨P, hP1, hP60, hPg, hPm, hPc⟩ := key
        have cP1 := fun w => Path_any P b hP1 hP60 hd1 kb hPg w
        have cFA := fun w => FracAt_any P b hP1 hP60 hd1 kb hPg w
        have cP2 := Path24_any
        have cP3 := Path11_any
        have hsz : (⟨(sb P b).toArray⟩ : ByteArray).size = (sb P b).length := by simp [ByteArray.size]
        obtain ⟨s, hs⟩ : ∃ s, (⟨(sb P b).toArray⟩ : ByteArray) = s := ⟨_, rfl⟩
        rw [hs] at hsz
        simp only [hs] at cP1 cFA
        rw [← hsz] at hPc
        have hs60 : s.size ≤ 200 := by
          have := sb_len (P + b) P b (Nat.le_refl _) hP1 hd1
          omega
        have hSm : a = 0 ∨ sumN l ≤ 300 := by omega
        obtain ⟨SM, hSM⟩ : ∃ z, sumN l = z := ⟨_, rfl⟩
        have hSMe := Lib.hid hSM
        rw [hSM] at hPc hSm
        have hPcH := Lib.hid hPc
        clear hPc hs hsz hpathH hgcH htm hSM
        have cSt := fun w (h : RI w (some ⟨Q, 0, none⟩) (t.length + 1) (zN (d :: t))) => implStd_any (some ⟨Q, 0, none⟩) (t.length + 1) C6 (zN (d :: t)) w h
        rcases hS with hS | ⟨v, hS, hv400, hvc, hvs, hvb, hvq, hvB⟩
        · simp only [hS] at cSt
          clear hS hE h4 hown6
          go_upto_region 20 with (go_at_call 39; refine (cSt _ hRd).mono ?_; rintro e w7 ⟨rfl, hb7⟩; have hbw := Qtrans hb7 hzw hbw; have hzw := hbw.size)
          have hRI9 := rI_below hRI8 (Nat.le_refl _) hb7
          clear cSt hRd hRI8
          as_aux_lemma =>
            have cSum : ∀ w, Below (w7).heap.size w7 w → Calls Try.prog 45 #[.slice (some ⟨g, 0, none⟩) (m + 1) c] w fun e w' => e = .returned (.int .i64 SM) ∧ w = w' := fun w hb => by
              have := sum_any _ (m + 1) c l w (rI_below hRI9 (Nat.le_refl _) hb) n20 hfew1.out
              rwa [hSMe.out] at this
            have hbx : Below (w7).heap.size w7 w7 := Below.refl _ _
            have hzx : (w7).heap.size ≤ (w7).heap.size := Nat.le_refl _
            have hbwH := Lib.hid hbw
            clear hbw
            rcases hPcH.out with h0 | ⟨h0, h1, h2⟩
            · have j0 : ¬ (0 : Int) < (a : Int) := by omega
              have j0' : decide (0 < a) = false := decide_eq_false (by omega)
              clear h0 hPcH
              go_wp2_with (first | (go_at_call 43; (with_reducible refine (cP1 _).mono ?_); rintro e wq ⟨rfl, hbq⟩; have hbx := Qtrans hbq hzx hbx; have hzx := hbx.size) | (go_at_call 44; (with_reducible refine (cFA _).mono ?_); rintro e wq ⟨rfl, hbq⟩; have hbx := Qtrans hbq hzx hbx; have hzx := hbx.size) | (go_at_call 46; (with_reducible refine (cNS _).mono ?_); rintro e wq ⟨rfl, hbq⟩; have hbx := Qtrans hbq hzx hbx; have hzx := hbx.size) | (go_at_call 43; (with_reducible refine (cP2 _).mono ?_); rintro e wq ⟨rfl, hbq⟩; have hbx := Qtrans hbq hzx hbx; have hzx := hbx.size) | (go_at_call 43; (with_reducible refine (cP3 _).mono ?_); rintro e wq ⟨rfl, hbq⟩; have hbx := Qtrans hbq hzx hbx; have hzx := hbx.size))
              go_ret
              exact ⟨rfl, Qtrans hbx hzw hbwH.out⟩
            · have j0 : (0 : Int) < (a : Int) := by omega
              have j0' : decide (0 < a) = true := decide_eq_true h0
              have j1 : IntKind.i64.wrap ((SM : Int) - 1) = (s.size : Int) := by rw [IntWalk.i64_in _ (by omega)]; omega
              subst h1
              clear h0 hPcH h2
              go_wp2_with (first | (go_at_call 43; (with_reducible refine (cP1 _).mono ?_); rintro e wq ⟨rfl, hbq⟩; have hbx := Qtrans hbq hzx hbx; have hzx := hbx.size) | (go_at_call 44; (with_reducible refine (cFA _).mono ?_); rintro e wq ⟨rfl, hbq⟩; have hbx := Qtrans hbq hzx hbx; have hzx := hbx.size) | (go_at_call 46; (with_reducible refine (cNS _).mono ?_); rintro e wq ⟨rfl, hbq⟩; have hbx := Qtrans hbq hzx hbx; have hzx := hbx.size) | (go_at_call 43; (with_reducible refine (cP2 _).mono ?_); rintro e wq ⟨rfl, hbq⟩; have hbx := Qtrans hbq hzx hbx; have hzx := hbx.size) | (go_at_call 43; (with_reducible refine (cP3 _).mono ?_); rintro e wq ⟨rfl, hbq⟩; have hbx := Qtrans hbq hzx hbx; have hzx := hbx.size) | (go_at_call 45; (with_reducible refine (cSum _ hbx).mono ?_); rintro e wq ⟨rfl, hwq⟩; subst hwq))
              go_ret
              exact ⟨rfl, Qtrans hbx hzw hbwH.out⟩
        · simp only [hS] at cSt
          clear hS
          go_upto_region 20 with (go_at_call 39; refine (cSt _ hRd).mono ?_; rintro e w7 ⟨rfl, hb7⟩; have hbw := Qtrans hb7 hzw hbw; have hzw := hbw.size)
          have hown7 := own_below hown6 hb7
          have hRI9 := rI_below hRI8 (Nat.le_refl _) hb7
          have hQl7 : Q < w7.heap.size := Nat.lt_of_lt_of_le hQl hb7.size
          clear cSt hRd hRI8 hown6 hb7
          go_upto_region 21 with fail
          have hd0 := own_cell hown7 0 (by omega)
          simp only [ivN, iv, List.map_cons, List.getElem?_cons_zero] at hd0
          have hnw : ∀ j u, (ivN t)[j]? = some u → w7.cell? ⟨Q, 1 + j, none⟩ = some u := fun j u hu => by
            have hj : j < t.length := by
              have := (List.getElem?_eq_some_iff.1 hu).1
              simpa [ivN, iv] using this
            rw [own_cell hown7 (1 + j) (by omega), ← hu, Nat.add_comm 1 j]
            simp [ivN, iv]
          have hnwH := Lib.hid hnw
          obtain ⟨D, hD⟩ : ∃ D, d + 1 = D := ⟨_, rfl⟩
          have hDH := Lib.hid hD
          have i1 : IntKind.i64.wrap ((d : Int) + 1) = (D : Int) := by rw [IntWalk.i64_in _ (by omega)]; omega
          obtain ⟨T, hT⟩ : ∃ T, t.length = T := ⟨_, rfl⟩
          have hTH := Lib.hid hT
          rw [hT] at hQc ht
          simp only [hT]
          clear hnw hD hT hown7
          have i2 : (0 : Int) < ((T + 1 : Nat) : Int) := by omega
          have i3 : (1 : Int) ≤ ((T + 1 : Nat) : Int) := by omega
          have i3' : (1 : Int) ≤ (T : Int) + 1 := by omega
          have i4 : ((T + 1 : Nat) : Int) ≤ (C6 : Int) := by omega
          have i4' : (T : Int) + 1 ≤ (C6 : Int) := by omega
          have i7 : ((T : Int) + 1 - 1).toNat = T := by omega
          have i5 : (((T + 1 : Nat) : Int) - 1).toNat = T := by omega
          have i6 : (T + 1 : Nat) - 1 = T := by omega
          go_region_law (refine step_append_manyF (by rfl) _ _ _ (by rfl) w7.heap.size 3 i0 _ 1 8 Try.underlying32 hi0 hz0 hz1 hz2 rfl (by decide) w7.heap.size 2 2 [.int .i64 0, .int .i64 (D : Int)] (by rfl) (by omega) (by simp) (World.ownsRow_lit w7 #[.int .i64 0, .int .i64 (D : Int)] 2 (Nat.le_refl _) (by decide) rfl) _ T _ (ivN t) (by rfl) (by simp [ivN, iv, hTH.out]) (newsF hQl7 hQc (by simp [ivN, iv, hTH.out]) hnwH.out) (fun u hu => by obtain ⟨z, _, rfl⟩ := List.mem_map.1 hu; rfl) (by unfold maxLen; omega) (by omega) (by simp) ?_; intro gg capA w9 hown9 hgrow hatg hltg)
          all_goals
            generalize (if C6 = 1 then some (⟨Q, 0, none⟩ : Addr) else some ⟨Q, 1, none⟩) = Y at *
            have hb9 : Below w7.heap.size w7 w9 := Below.grown (((Below.refl _ w7).alloc (Nat.le_refl _) _).drew) hgrow (by simp) (fun j hj => by cases hj; exact Nat.le_refl _)
            have hbw := Qtrans hb9 hzw hbw
            have hzw := hbw.size
            have hRI10 := rI_below hRI9 (Nat.le_refl _) hb9
            have hlist : [Value.int .i64 0, .int .i64 (D : Int)] ++ ivN t = iv (zN (eL d t)) := by rw [← hDH.out]; rfl
            rw [hlist] at hown9
            have hRe := rI_own (zs := zN (eL d t)) hown9 (by omega)
            have cF2 := fun w h => FracOf_yes (some ⟨gg, 0, none⟩) (2 + T) capA (eL d t) w h hE
            simp only [show 2 + T - 1 = t.length + 1 by rw [hTH.out]; omega, ← hvc, ← hvs] at cF2
            have hWB : isWB v = true := ((Bool.and_eq_true _ _).mp hvB).1
            have cCnt := fun w => CountB_any v (isW_of hWB) w
            have cBal : v.size ≤ 100 → ∀ w, Calls Try.prog 41 #[.string v] w fun e w' => e = .returned (.bool true) ∧ Below w.heap.size w w' := fun h w => by
              have := IsBalanced_any v w (by omega)
              rwa [balB_yes hvB (hvb h)] at this
            have cCen : 2 ≤ v.size → ∀ w, Calls Try.prog 42 #[.string (v.extract 0 (v.size - 2))] w fun e w' => e = .returned (.bool true) ∧ Below w.heap.size w w' := fun h w => by
              have := implCen_any (v.extract 0 (v.size - 2)) w (by rw [ByteArray.size_extract]; omega)
              rwa [cen_yes (hvq h)] at this
            generalize v.data.toList.count 98 = K at *
            have cBalH := Lib.hid cBal
            have cCenH := Lib.hid cCen
            clear cBal cCen hlist hown9 hgrow hatg hltg hRI9 hnwH hDH hTH hE h4 hvc hvs hvb hvq hvB hWB hd0 hb9 i1 i2 i3 i3' i4 i4' i5 i6 i7
            go_upto_region 23 with (go_at_call 36; refine (cF2 _ hRe).mono ?_; rintro e w10 ⟨rfl, hb10⟩; have hbw := Qtrans hb10 hzw hbw; have hzw := hbw.size)
            have hRI11 := rI_below hRI10 (Nat.le_refl _) hb10
            clear cF2 hRe hRI10 hb10
            go_cut [216] from 179 to 215 (fun z wx => z = .bool false ∧ Below w10.heap.size w10 wx)
            case first =>
              as_aux_lemma =>
                have hbx : Below w10.heap.size w10 w10 := Below.refl _ _
                have hzx : w10.heap.size ≤ w10.heap.size := Nat.le_refl _
                clear hbw hzw hPcH
                by_cases h100 : v.size ≤ 100
                · have g1 : (v.size : Int) ≤ 100 := by omega
                  have cB := cBalH.out h100
                  by_cases h2 : 2 ≤ v.size
                  · have g2 : (1 : Int) < (v.size : Int) := by omega
                    have cC := cCenH.out h2
                    have g3 : IntKind.i64.wrap ((v.size : Int) - 2) = ((v.size - 2 : Nat) : Int) := by rw [IntWalk.i64_in _ (by omega)]; omega
                    have g4 : ((v.size - 2 : Nat) : Int) ≤ (v.size : Int) := by omega
                    generalize v.size - 2 = M at *
                    clear h100 h2
                    go_wp2_with (first | (go_at_call 40; (with_reducible refine (cCnt _).mono ?_); rintro e wq ⟨rfl, hwq⟩; subst hwq; have hbq := Below.refl w10.heap.size w10; have hbx := Qtrans hbq hzx hbx; have hzx := hbx.size) | (go_at_call 41; (with_reducible refine (cB _).mono ?_); rintro e wq ⟨rfl, hbq⟩; have hbx := Qtrans hbq hzx hbx; have hzx := hbx.size) | (go_at_call 42; (with_reducible refine (cC _).mono ?_); rintro e wq ⟨rfl, hbq⟩; have hbx := Qtrans hbq hzx hbx; have hzx := hbx.size))
                    all_goals (go_meet; exact ⟨rfl, hbx⟩)
                  · have g2 : ¬ (1 : Int) < (v.size : Int) := by omega
                    clear h100 h2
                    go_wp2_with (first | (go_at_call 40; (with_reducible refine (cCnt _).mono ?_); rintro e wq ⟨rfl, hwq⟩; subst hwq; have hbq := Below.refl w10.heap.size w10; have hbx := Qtrans hbq hzx hbx; have hzx := hbx.size) | (go_at_call 41; (with_reducible refine (cB _).mono ?_); rintro e wq ⟨rfl, hbq⟩; have hbx := Qtrans hbq hzx hbx; have hzx := hbx.size))
                    all_goals (go_meet; exact ⟨rfl, hbx⟩)
                · have g1 : ¬ (v.size : Int) ≤ 100 := by omega
                  by_cases h2 : 2 ≤ v.size
                  · have g2 : (1 : Int) < (v.size : Int) := by omega
                    have cC := cCenH.out h2
                    have g3 : IntKind.i64.wrap ((v.size : Int) - 2) = ((v.size - 2 : Nat) : Int) := by rw [IntWalk.i64_in _ (by omega)]; omega
                    have g4 : ((v.size - 2 : Nat) : Int) ≤ (v.size : Int) := by omega
                    generalize v.size - 2 = M at *
                    clear h100 h2
                    go_wp2_with (first | (go_at_call 40; (with_reducible refine (cCnt _).mono ?_); rintro e wq ⟨rfl, hwq⟩; subst hwq; have hbq := Below.refl w10.heap.size w10; have hbx := Qtrans hbq hzx hbx; have hzx := hbx.size) | (go_at_call 41; (with_reducible refine (cB _).mono ?_); rintro e wq ⟨rfl, hbq⟩; have hbx := Qtrans hbq hzx hbx; have hzx := hbx.size) | (go_at_call 42; (with_reducible refine (cC _).mono ?_); rintro e wq ⟨rfl, hbq⟩; have hbx := Qtrans hbq hzx hbx; have hzx := hbx.size))
                    all_goals (go_meet; exact ⟨rfl, hbx⟩)
                  · have g2 : ¬ (1 : Int) < (v.size : Int) := by omega
                    clear h100 h2
                    go_wp2_with (first | (go_at_call 40; (with_reducible refine (cCnt _).mono ?_); rintro e wq ⟨rfl, hwq⟩; subst hwq; have hbq := Below.refl w10.heap.size w10; have hbx := Qtrans hbq hzx hbx; have hzx := hbx.size) | (go_at_call 41; (with_reducible refine (cB _).mono ?_); rintro e wq ⟨rfl, hbq⟩; have hbx := Qtrans hbq hzx hbx; have hzx := hbx.size))
                    all_goals (go_meet; exact ⟨rfl, hbx⟩)
            case rest =>
              rename World => w11
              obtain ⟨rfl, hb11⟩ := hcut
              have hbw := Qtrans hb11 hzw hbw
              have hzw := hbw.size
              have hRI12 := rI_below hRI11 (Nat.le_refl _) hb11
              clear cBalH cCenH cCnt hRI11 hb11 hQc hQl7 hv400
              as_aux_lemma =>
                have cSum : ∀ w, Below (w11).heap.size w11 w → Calls Try.prog 45 #[.slice (some ⟨g, 0, none⟩) (m + 1) c] w fun e w' => e = .returned (.int .i64 SM) ∧ w = w' := fun w hb => by
                  have := sum_any _ (m + 1) c l w (rI_below hRI12 (Nat.le_refl _) hb) n20 hfew1.out
                  rwa [hSMe.out] at this
                have hbx : Below (w11).heap.size w11 w11 := Below.refl _ _
                have hzx : (w11).heap.size ≤ (w11).heap.size := Nat.le_refl _
                have hbwH := Lib.hid hbw
                clear hbw
                rcases hPcH.out with h0 | ⟨h0, h1, h2⟩
                · have j0 : ¬ (0 : Int) < (a : Int) := by omega
                  have j0' : decide (0 < a) = false := decide_eq_false (by omega)
                  clear h0 hPcH
                  go_wp2_with (first | (go_at_call 43; (with_reducible refine (cP1 _).mono ?_); rintro e wq ⟨rfl, hbq⟩; have hbx := Qtrans hbq hzx hbx; have hzx := hbx.size) | (go_at_call 44; (with_reducible refine (cFA _).mono ?_); rintro e wq ⟨rfl, hbq⟩; have hbx := Qtrans hbq hzx hbx; have hzx := hbx.size) | (go_at_call 46; (with_reducible refine (cNS _).mono ?_); rintro e wq ⟨rfl, hbq⟩; have hbx := Qtrans hbq hzx hbx; have hzx := hbx.size) | (go_at_call 43; (with_reducible refine (cP2 _).mono ?_); rintro e wq ⟨rfl, hbq⟩; have hbx := Qtrans hbq hzx hbx; have hzx := hbx.size) | (go_at_call 43; (with_reducible refine (cP3 _).mono ?_); rintro e wq ⟨rfl, hbq⟩; have hbx := Qtrans hbq hzx hbx; have hzx := hbx.size))
                  go_ret
                  exact ⟨rfl, Qtrans hbx hzw hbwH.out⟩
                · have j0 : (0 : Int) < (a : Int) := by omega
                  have j0' : decide (0 < a) = true := decide_eq_true h0
                  have j1 : IntKind.i64.wrap ((SM : Int) - 1) = (s.size : Int) := by rw [IntWalk.i64_in _ (by omega)]; omega
                  subst h1
                  clear h0 hPcH h2
                  go_wp2_with (first | (go_at_call 43; (with_reducible refine (cP1 _).mono ?_); rintro e wq ⟨rfl, hbq⟩; have hbx := Qtrans hbq hzx hbx; have hzx := hbx.size) | (go_at_call 44; (with_reducible refine (cFA _).mono ?_); rintro e wq ⟨rfl, hbq⟩; have hbx := Qtrans hbq hzx hbx; have hzx := hbx.size) | (go_at_call 46; (with_reducible refine (cNS _).mono ?_); rintro e wq ⟨rfl, hbq⟩; have hbx := Qtrans hbq hzx hbx; have hzx := hbx.size) | (go_at_call 43; (with_reducible refine (cP2 _).mono ?_); rintro e wq ⟨rfl, hbq⟩; have hbx := Qtrans hbq hzx hbx; have hzx := hbx.size) | (go_at_call 43; (with_reducible refine (cP3 _).mono ?_); rintro e wq ⟨rfl, hbq⟩; have hbx := Qtrans hbq hzx hbx; have hzx := hbx.size) | (go_at_call 45; (with_reducible refine (cSum _ hbx).mono ?_); rintro e wq ⟨rfl, hwq⟩; subst hwq))
                  go_ret
                  exact ⟨rfl, Qtrans hbx hzw hbwH.out⟩
end Go.Proofs.Ytilbhingfnjppab
