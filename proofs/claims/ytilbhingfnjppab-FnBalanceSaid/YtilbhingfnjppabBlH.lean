/- The law on balanced words: the walk. -/
import Derived.Test.YtilbhingfnjppabBlR
import Derived.Deep.QuietTactic
import Derived.BigQuiet
import Derived.Deep.CutRange
import Derived.Deep.CutBlock
set_option linter.unusedSimpArgs false
set_option linter.unusedVariables false
namespace Go.Proofs.Ytilbhingfnjppab
open Go.RowKit
theorem rB_ofB {w : World} {x : Option Addr} {n cap : Nat} {zs : List Int} (h : IsRow .u8 w x n cap zs) : RB w.heap.size w x n := by
  obtain ⟨h1, h2, h3, h4, h5⟩ := h
  unfold maxLen at h3
  refine ⟨by omega, ?_⟩
  rcases h5 with h5 | ⟨b, off, e, hb, hj⟩
  · exact .inl h5
  · refine .inr ⟨b, off, e, hb, fun j q => ?_⟩
    have hm : zs.getD j 0 ∈ zs := by
      rw [List.getD_eq_getElem?_getD, List.getElem?_eq_getElem (by omega)]; exact List.getElem_mem _
    have hw := h4 _ hm
    simp [Lit.wf, IntKind.min, IntKind.max, IntKind.signed, IntKind.bits] at hw
    exact ⟨_, hw.1, hw.2, hj j q⟩
set_option maxRecDepth 20000 in
set_option maxHeartbeats 16000000 in
theorem FnBalance_law (wc : World) (px : Option Addr) (n cap : Nat) (cz : List Int) (hrow : IsRow .u8 wc px n cap cz) (gm : Int) (hgm : wc.cell? ⟨0, 0, none⟩ = some (.int .i64 gm)) :
    Calls Try.prog 6 #[.slice px n cap] wc fun e w' => e = .returned (.bool true) ∧ Below wc.heap.size wc w' := by
  have hr := rB_ofB hrow
  have hn := hr.1
  have hg0 : 0 < wc.heap.size := World.block_lt_of_cell? wc _ hgm
  clear hrow
  by_cases hbig : (1048576 : Int) < (n : Int)
  · clear hgm
    go_enter Try.func6, Try.ntmps6
    go_wp2
    go_ret
    exact ⟨rfl, by (repeat (first | with_reducible exact Below.refl _ _ | assumption | with_reducible refine Qdrew ?_ | with_reducible refine QdrewN ?_ | ((with_reducible refine Qset ?_ ?_); exact (by ((try simp only [World.size_alloc, World.size_setCell, World.size_drew, size_drewN]); (try dsimp only); omega))) | ((with_reducible refine Qalloc ?_ ?_); exact (by ((try simp only [World.size_alloc, World.size_setCell, World.size_drew, size_drewN]); (try dsimp only); omega))) | refine Qtrans (by assumption) (by ((try simp only [World.size_alloc, World.size_setCell, World.size_drew, size_drewN]); (try dsimp only); omega)) ?_))⟩
  have hgmH := Lib.hid hgm
  have hrH := Lib.hid hr
  have cMB := MakeBinary_any wc.heap.size px n cap 0 (by omega) wc (Nat.le_refl _) hr
  clear hgm hr
  go_enter Try.func6, Try.ntmps6
  go_upto_region 4 with (go_at_call 47; refine cMB.mono ?_; rintro e w1 ⟨s, rfl, hB, hs60, hb1⟩; have hbw := hb1; have hzw := hbw.size)
  clear cMB hb1
  have cIs := fun w => IsBalanced_any s w (by omega)
  obtain ⟨K, hK⟩ : ∃ K, balB s = K := ⟨_, rfl⟩
  rw [hK] at cIs
  have hKb : K = true ↔ balP s := by
    rw [← hK, balB_C hB]; exact balC_iff s
  have cRev := fun w => IsBalanced_any (rev s) w (by rw [rev_sizeB]; omega)
  rw [balB_rev hB, hK] at cRev
  have hKH := Lib.hid hKb
  clear hK hKb
  go_upto_region 5 with (go_at_call 41; refine (cIs _).mono ?_; rintro e w2 ⟨rfl, hb2⟩; have hbw := Qtrans hb2 hzw hbw; have hzw := hbw.size)
  have hgm2 := (hbw.cell (p := ⟨0, 0, none⟩) hg0).trans hgmH.out
  have cFU := FirstUnb_any s hB gm w2 hgm2
  clear cIs hb2 hgm2
  go_upto_region 6 with (go_at_call 48; refine cFU.mono ?_; rintro e w3 ⟨r, rfl, hr, hb3⟩; have hbw := Qtrans hb3 hzw hbw; have hzw := hbw.size)
  clear cFU hb3
  have hr' : Hid ((K = true ∧ r = ⟨#[]⟩) ∨ (K = false ∧ ∃ v m, Parts s r v m)) := by
    rcases hr with ⟨h1, h2⟩ | ⟨m, f, h1, h2, h3, h4⟩
    · left
      refine ⟨?_, h1⟩
      cases K
      · exfalso
        obtain ⟨m, f, q1, q2, q3⟩ := unbal_F hB (fun q => by have := hKH.out.2 q; cases this)
        exact h2 m f q1 q2 q3
      · rfl
    · right
      refine ⟨?_, f.extract 1 (m + 1), m, by rw [h4]; exact parts_of hB h1 h2 h3⟩
      cases K
      · rfl
      · exact absurd h3 (bal_noF (hKH.out.1 rfl) m f h1 h2)
  clear hr
  have cSl := SlopesOf_any s w3 hB
  go_upto_region 7 with (go_at_call 49; refine cSl.mono ?_; rintro e w4 ⟨A, B', C, D, rfl, hA, hB', hC, hD, hiff, hb4⟩; have hbw := Qtrans hb4 hzw hbw; have hzw := hbw.size)
  clear cSl hb4
  have hiffH := Lib.hid hiff
  clear hiff
  have hrne : Hid ((r.toList == (⟨#[]⟩ : ByteArray).toList) = K ∧ (r.toList == []) = K) := by
    rcases hr'.out with ⟨rfl, rfl⟩ | ⟨rfl, v, m, hp⟩
    · exact ⟨by simp, by rw [ByteArray.toList_eq]; rfl⟩
    · have h5 : r.data.toList.length = r.size := by simp
      have h6 := hp.rs
      refine ⟨?_, ?_⟩
      · rw [beq_eq_false_iff_ne, ByteArray.toList_eq, ByteArray.toList_eq]
        intro q
        rw [q] at h5
        have h7 : (⟨#[]⟩ : ByteArray).data.toList.length = 0 := rfl
        omega
      · rw [beq_eq_false_iff_ne, ByteArray.toList_eq]
        intro q
        rw [q, List.length_nil] at h5
        omega
  obtain ⟨hre1, hre2⟩ := hrne.out
  have hbw4H := Lib.hid hbw
  clear hrne
  go_cut [79] from 41 to 78 (fun z wx => z = .bool false ∧ Below w4.heap.size w4 wx)
  case first =>
    as_aux_lemma =>
      have hbx : Below w4.heap.size w4 w4 := Below.refl _ _
      have hzx : w4.heap.size ≤ w4.heap.size := Nat.le_refl _
      have cFl := fun w => flip_any s w (by omega)
      have p1 := mul_bound (A := A) (D := D) (m := 61) hA hD
      have p2 := mul_bound (A := C) (D := B') (m := 61) hC hB'
      have f1 : IntKind.i64.wrap (A * D) = A * D := IntWalk.i64_in _ (by omega)
      have f2 : IntKind.i64.wrap (C * B') = C * B' := IntWalk.i64_in _ (by omega)
      have g1 : (s.size : Int) ≤ 60 := by omega
      obtain ⟨t, ht⟩ : ∃ t, rev s = t := ⟨_, rfl⟩
      simp only [ht] at cFl cRev
      clear ht hbw hzw hr' hbw4H p1 p2
      by_cases h0 : s.size = 0
      · have he := empty_of0 h0
        have hse : (s.toList == (⟨#[]⟩ : ByteArray).toList) = true := by rw [he]; simp
        have hse2 : (s.toList == []) = true := by rw [he, ByteArray.toList_eq]; rfl
        clear he h0 hiffH hKH
        cases K
        · go_wp2_with (first | (go_at_call 50; (with_reducible refine (cFl _).mono ?_); rintro e wq ⟨rfl, hbq⟩; have hbx := Qtrans hbq hzx hbx; have hzx := hbx.size) | (go_at_call 41; (with_reducible refine (cRev _).mono ?_); rintro e wq ⟨rfl, hbq⟩; have hbx := Qtrans hbq hzx hbx; have hzx := hbx.size))
          all_goals (go_meet; exact ⟨rfl, hbx⟩)
        · go_wp2_with (first | (go_at_call 50; (with_reducible refine (cFl _).mono ?_); rintro e wq ⟨rfl, hbq⟩; have hbx := Qtrans hbq hzx hbx; have hzx := hbx.size) | (go_at_call 41; (with_reducible refine (cRev _).mono ?_); rintro e wq ⟨rfl, hbq⟩; have hbx := Qtrans hbq hzx hbx; have hzx := hbx.size))
          all_goals (go_meet; exact ⟨rfl, hbx⟩)
      · have hse : (s.toList == (⟨#[]⟩ : ByteArray).toList) = false := by
          rw [beq_eq_false_iff_ne, ByteArray.toList_eq, ByteArray.toList_eq]
          intro q
          have h5 : s.data.toList.length = s.size := by simp
          rw [q] at h5
          have h6 : (⟨#[]⟩ : ByteArray).data.toList.length = 0 := rfl
          omega
        have hse2 : (s.toList == []) = false := by
          rw [beq_eq_false_iff_ne, ByteArray.toList_eq]
          intro q
          have h5 : s.data.toList.length = s.size := by simp
          rw [q, List.length_nil] at h5
          omega
        obtain ⟨b1, d1, hif⟩ := hiffH.out (by omega) hs60
        have b2 : ¬ B' < 1 := by omega
        have d2 : ¬ D < 1 := by omega
        cases K
        · have l1 : ¬ A * D < C * B' := fun q => by
            have := hKH.out.2 (hif.1 q)
            cases this
          clear h0 hiffH hKH hif b1 d1
          go_wp2_with (first | (go_at_call 50; (with_reducible refine (cFl _).mono ?_); rintro e wq ⟨rfl, hbq⟩; have hbx := Qtrans hbq hzx hbx; have hzx := hbx.size) | (go_at_call 41; (with_reducible refine (cRev _).mono ?_); rintro e wq ⟨rfl, hbq⟩; have hbx := Qtrans hbq hzx hbx; have hzx := hbx.size))
          all_goals (go_meet; exact ⟨rfl, hbx⟩)
        · have l1 : A * D < C * B' := hif.2 (hKH.out.1 rfl)
          clear h0 hiffH hKH hif b1 d1
          go_wp2_with (first | (go_at_call 50; (with_reducible refine (cFl _).mono ?_); rintro e wq ⟨rfl, hbq⟩; have hbx := Qtrans hbq hzx hbx; have hzx := hbx.size) | (go_at_call 41; (with_reducible refine (cRev _).mono ?_); rintro e wq ⟨rfl, hbq⟩; have hbx := Qtrans hbq hzx hbx; have hzx := hbx.size))
          all_goals (go_meet; exact ⟨rfl, hbx⟩)
  case rest =>
    rename World => w5
    obtain ⟨rfl, hb5⟩ := hcut
    have hbw := Qtrans hb5 hzw hbw4H.out
    have hzw := hbw.size
    have hgm5 := (hbw.cell (p := ⟨0, 0, none⟩) hg0).trans hgmH.out
    clear hb5 hbw4H hiffH cRev
    go_upto_if 81 with (fail)
    go_cut [10] from 41 to 122 (fun _ wx => Below w5.heap.size w5 wx)
    case first =>
      as_aux_lemma =>
        have hbx : Below w5.heap.size w5 w5 := Below.refl _ _
        have hzx : w5.heap.size ≤ w5.heap.size := Nat.le_refl _
        have hg5 : 0 < w5.heap.size := by omega
        rcases hr'.out with ⟨rfl, rfl⟩ | ⟨rfl, v, m, hp⟩
        · go_wp2_with fail
          all_goals (go_meet; exact hbx)
        · obtain ⟨p1, p2, p3, p4, p5, p6, p7, p8, p9, p10, p11⟩ := hp
          have hWs := isWB_bin hB
          have cA : ∀ w, w.cell? ⟨0, 0, none⟩ = some (.int .i64 gm) → Calls Try.prog 29 #[.string s, .string ((⟨#[97]⟩ : ByteArray) ++ v ++ (⟨#[97]⟩ : ByteArray))] w fun e w' => e = .returned (.bool true) ∧ w = w' := fun w hm => isFactor_any s (aua v) gm w hWs p4 p5 hm
          have cB : ∀ w, w.cell? ⟨0, 0, none⟩ = some (.int .i64 gm) → Calls Try.prog 29 #[.string s, .string ((⟨#[98]⟩ : ByteArray) ++ v ++ (⟨#[98]⟩ : ByteArray))] w fun e w' => e = .returned (.bool true) ∧ w = w' := fun w hm => isFactor_any s (bub v) gm w hWs p6 p7 hm
          have cFv := fun w => flip_any v w (by omega)
          obtain ⟨t, ht⟩ : ∃ t, rev v = t := ⟨_, rfl⟩
          rw [ht] at cFv p3
          have hbr : ∀ j (h : j < r.size), ((r[j]'h).toNat : Int) = bt r j := fun j h => bt_eq r j h
          have q0 : 0 < r.size := by omega
          have q1 : m + 1 < r.size := by omega
          have hb0 := hbr 0 q0
          have hb1 := hbr (m + 1) q1
          rw [p9] at hb0
          rw [p10] at hb1
          have d1 : ¬ (r.size : Int) < 2 := by omega
          have d2 : (0 : Int) < (r.size : Int) := by omega
          have d3 : IntKind.i64.wrap ((r.size : Int) - 1) = ((m + 1 : Nat) : Int) := by rw [IntWalk.i64_in _ (by omega)]; omega
          have d4 : ((m + 1 : Nat) : Int) < (r.size : Int) := by omega
          have d5 : (0 : Int) ≤ ((m + 1 : Nat) : Int) := by omega
          have d6 : (m : Int) + 1 < (r.size : Int) := by omega
          have d7 : (0 : Int) ≤ (m : Int) + 1 := by omega
          have d8 : (1 : Int) ≤ (m : Int) + 1 := by omega
          have d9 : ((m : Int) + 1).toNat = m + 1 := by omega
          have dA : (m : Int) + 1 ≤ (r.size : Int) := by omega
          have v4 : v.size ≤ 400 := by omega
          have p2H := Lib.hid p2
          have p8H := Lib.hid p8
          clear p2 p8 p4 p5 p6 p7 p9 p10 ht hbr hr' hKH hbw hzw
          go_wp2_with (first | (go_at_call 50; (with_reducible refine (cFv _).mono ?_); rintro e wq ⟨rfl, hbq⟩; have hbx := Qtrans hbq hzx hbx; have hzx := hbx.size) | (go_at_call 29; (with_reducible refine (cA _ ((hbx.cell (p := ⟨0, 0, none⟩) hg5).trans hgm5)).mono ?_); rintro e wz ⟨rfl, hwz⟩; subst hwz) | (go_at_call 29; (with_reducible refine (cB _ ((hbx.cell (p := ⟨0, 0, none⟩) hg5).trans hgm5)).mono ?_); rintro e wz ⟨rfl, hwz⟩; subst hwz))
          all_goals (go_meet; exact hbx)
    case rest =>
      rename World => w6
      have hb6 := hcut
      have hbw := Qtrans hb6 hzw hbw
      have hzw := hbw.size
      clear hb6 hcut hr' hre1 hre2 hgm5 hgmH
      go_upto_region 15 with fail
      go_upto_block 0 with fail
      go_cut [11, 12, 13] from 123 to 150 (fun _ _ _ wx => Below w6.heap.size w6 wx)
      case first =>
        as_aux_lemma =>
          have hbx : Below w6.heap.size w6 w6 := Below.refl _ _
          go_wp2_with fail
          go_loopw [11, 12, 13] (fun i _ _ wr => ∃ k : Nat, 1 ≤ k ∧ k ≤ s.size + 1 ∧ i = .int .i64 k ∧ Below w6.heap.size w6 wr) (fun i _ _ _ => s.size + 1 - (intOf i).toNat)
          case atStart => exact ⟨1, by omega, by omega, rfl, hbx⟩
          case round =>
            obtain ⟨k, hk1, hk2, rfl, hbr⟩ := hrel
            have hzr := hbr.size
            cases K
            · go_wp2_with fail
              all_goals (go_meet; exact hbr)
            · by_cases hlt : k ≤ s.size
              · have hS := fun w => SpreadOf_any s k hB hk1 hlt w
                have h1 := hKH.out.1 rfl k hk1 hlt
                have h2 := lo_hi s k hlt
                have h3 := hiS_le s k hlt
                generalize hiS s k = hi at *
                generalize loS s k = lo at *
                have j1 : (k : Int) ≤ (s.size : Int) := by omega
                have j2 : ¬ (lo : Int) < 0 := by omega
                have j3 : ¬ (hi : Int) < (lo : Int) := by omega
                have j4 : IntKind.i64.wrap ((lo : Int) + 1) = (lo : Int) + 1 := IntWalk.i64_in _ (by omega)
                have j5 : ¬ (lo : Int) + 1 < (hi : Int) := by omega
                clear hKH hbw hzw
                go_wp2_with (go_at_call 51; (with_reducible refine (hS _).mono ?_); rintro e wq ⟨rfl, hbq⟩)
                exact ⟨⟨k + 1, by omega, by omega, by go_num, Qtrans hbq hzr hbr⟩, by simp [intOf]; omega⟩
              · have j1 : ¬ (k : Int) ≤ (s.size : Int) := by omega
                clear hKH hbw hzw
                go_wp2_with fail
                all_goals (go_meet; exact hbr)
      case rest =>
        rename World => w7
        have hbw := Qtrans hcut hzw hbw
        have hzw := hbw.size
        clear hcut hKH
        have cQ : ∀ w, Below wc.heap.size wc w → Calls Try.prog 21 #[.slice px n cap, .int .i64 30, .int .i64 1, .int .i64 20] w fun e w' => ∃ v : Int, e = .returned (.int .i64 v) ∧ (1 ≤ v ∧ v ≤ 20) ∧ Below w.heap.size w w' := fun w hb => MakeSize_any wc.heap.size px n cap 30 (by omega) 1 20 (by omega) (by omega) (by omega) w hb.size (rB_below hrH.out hb)
        go_upto_region 22 with (go_at_call 21; (with_reducible refine (cQ _ hbw).mono ?_); rintro e w8 ⟨v, rfl, ⟨hq1, hq2⟩, hb8⟩; have hbw := Qtrans hb8 hzw hbw; have hzw := hbw.size)
        obtain ⟨q, rfl⟩ : ∃ q : Nat, v = (q : Int) := ⟨v.toNat, by omega⟩
        have cP : ∀ w, Below wc.heap.size wc w → Calls Try.prog 21 #[.slice px n cap, .int .i64 31, .int .i64 0, .int .i64 q] w fun e w' => ∃ v : Int, e = .returned (.int .i64 v) ∧ (0 ≤ v ∧ v ≤ q) ∧ Below w.heap.size w w' := fun w hb => MakeSize_any wc.heap.size px n cap 31 (by omega) 0 q (by omega) (by omega) (by omega) w hb.size (rB_below hrH.out hb)
        have eq1 : IntKind.i64.wrap ((q : Int) - 1) = (q : Int) - 1 := IntWalk.i64_in _ (by omega)
        have cT : ∀ w, Below wc.heap.size wc w → Calls Try.prog 21 #[.slice px n cap, .int .i64 32, .int .i64 0, .int .i64 ((q : Int) - 1)] w fun e w' => ∃ v : Int, e = .returned (.int .i64 v) ∧ (0 ≤ v ∧ v ≤ (q : Int) - 1) ∧ Below w.heap.size w w' := fun w hb => MakeSize_any wc.heap.size px n cap 32 (by omega) 0 ((q : Int) - 1) (by omega) (by omega) (by omega) w hb.size (rB_below hrH.out hb)
        clear cQ hb8
        go_upto_region 24 with (first | (go_at_call 21; (with_reducible refine (cP _ hbw).mono ?_); rintro e w9 ⟨v, rfl, ⟨hp1, hp2⟩, hb9⟩; have hbw := Qtrans hb9 hzw hbw; have hzw := hbw.size) | (go_at_call 21; (with_reducible refine (cT _ hbw).mono ?_); rintro e w10 ⟨u, rfl, ⟨ht1, ht2⟩, hb10⟩; have hbw := Qtrans hb10 hzw hbw; have hzw := hbw.size))
        obtain ⟨p, rfl⟩ : ∃ q : Nat, v = (q : Int) := ⟨v.toNat, by omega⟩
        obtain ⟨t, rfl⟩ : ∃ q : Nat, u = (q : Int) := ⟨u.toNat, by omega⟩
        have hqq : 1 ≤ q ∧ q ≤ 20 ∧ p ≤ q ∧ t + 1 ≤ q := by omega
        obtain ⟨q1, q2, q3, q4⟩ := hqq
        clear cP cT hb9 hb10 hp1 hp2 ht1 ht2 hq1 hq2
        have cMe : ∀ w, Calls Try.prog 52 #[.int .i64 p, .int .i64 q, .int .i64 t, .int .i64 (2 * q : Nat)] w fun e w' => e = .returned (.tuple #[.string (mechW p q t (2 * q)), .bool true]) ∧ Below w.heap.size w w' := fun w => Mech_any p q t (2 * q) q1 q2 q3 q4 (by omega) w
        have x1 := mechW_size p q t (2 * q)
        have x2 := mechW_count p q t 2 q1 q3
        have x3 := mechW_twice p q t q1
        have x4 : balB (mechW p q t (2 * q)) = true := balB_yes (mechW_bin p q t (2 * q) (by omega)) (mechW_bal p q t (2 * q) q1 q3)
        have x5 := mechW_bin p q t (2 * q) (by omega)
        obtain ⟨x, hx⟩ : ∃ x, mechW p q t (2 * q) = x := ⟨_, rfl⟩
        rw [hx] at x1 x2 x3 x4 x5
        simp only [hx] at cMe
        have x40 : x.size ≤ 40 := by omega
        rw [← x1] at x3
        have e1 : IntKind.i64.wrap (2 * (q : Int)) = ((2 * q : Nat) : Int) := by rw [IntWalk.i64_in _ (by omega)]; omega
        have e2 : IntKind.i64.wrap (2 * (p : Int)) = ((2 * p : Nat) : Int) := by rw [IntWalk.i64_in _ (by omega)]; omega
        generalize hN2 : 2 * q = N2 at *
        generalize hM2 : 2 * p = M2 at *
        have hN2H := Lib.hid hN2
        have hM2H := Lib.hid hM2
        clear hN2 hM2 hx
        go_upto_region 25 with (go_at_call 52; (with_reducible refine (cMe _).mono ?_); rintro e w11 ⟨rfl, hb11⟩; have hbw := Qtrans hb11 hzw hbw; have hzw := hbw.size)
        clear cMe hb11
        go_cut [191] from 169 to 190 (fun z wx => z = .bool false ∧ Below w11.heap.size w11 wx)
        case first =>
          as_aux_lemma =>
            have cBx := fun w => IsBalanced_any x w (by omega)
            rw [x4] at cBx
            have cCx := fun w => CountB_any x (isW_of (isWB_bin x5)) w
            rw [x2] at cCx
            have x3' : ((x.extract 0 q).toList == (x.extract q x.size).toList) = true := by rw [x3]; simp
            have j1 : (q : Int) ≤ (x.size : Int) := by have := hN2H.out; omega
            clear x3 x4 x5 hbw hzw x2 hN2H hM2H hB eq1
            have x1H := Lib.hid x1
            clear x1
            go_region_held3 (fun wx => (∀ bk ofs, bk < w11.heap.size → wx.cell? ⟨bk, ofs, none⟩ = (w11).cell? ⟨bk, ofs, none⟩) ∧ Below (w11.heap.size) (w11) wx) ((refine stays ?_; ((repeat (first | with_reducible exact Below.refl _ _ | assumption | with_reducible refine Qdrew ?_ | with_reducible refine QdrewN ?_ | ((with_reducible refine Qset ?_ ?_); exact (by ((try simp only [World.size_alloc, World.size_setCell, World.size_drew, size_drewN]); (try dsimp only); omega))) | ((with_reducible refine Qalloc ?_ ?_); exact (by ((try simp only [World.size_alloc, World.size_setCell, World.size_drew, size_drewN]); (try dsimp only); omega))) | refine Qtrans (by assumption) (by ((try simp only [World.size_alloc, World.size_setCell, World.size_drew, size_drewN]); (try dsimp only); omega)) ?_)) <;> (go_split_ands; assumption)))) (first | (go_at_call 41; (with_reducible refine (cBx _).mono ?_); rintro e w6 ⟨rfl, hb6⟩; obtain ⟨hc6, hf6⟩ := bcell hb6; have hl6 := ltW hb6; have hz6 := hb6.size; (try simp only [World.size_drew] at hz6)) | (go_at_call 40; (with_reducible refine (cCx _).mono ?_); rintro e w6 ⟨rfl, rfl⟩))
            all_goals
              go_wp2_with fail
              go_meet
              refine ⟨rfl, by ((repeat (first | with_reducible exact Below.refl _ _ | assumption | with_reducible refine Qdrew ?_ | with_reducible refine QdrewN ?_ | ((with_reducible refine Qset ?_ ?_); exact (by ((try simp only [World.size_alloc, World.size_setCell, World.size_drew, size_drewN]); (try dsimp only); omega))) | ((with_reducible refine Qalloc ?_ ?_); exact (by ((try simp only [World.size_alloc, World.size_setCell, World.size_drew, size_drewN]); (try dsimp only); omega))) | refine Qtrans (by assumption) (by ((try simp only [World.size_alloc, World.size_setCell, World.size_drew, size_drewN]); (try dsimp only); omega)) ?_)) <;> (go_split_ands; assumption))⟩
        case rest =>
          rename World => w12
          obtain ⟨rfl, hb12⟩ := hcut
          have hbw := Qtrans hb12 hzw hbw
          have hzw := hbw.size
          clear hb12 x1 x2 x3 x4 x5 x40 hN2H hM2H e1 e2
          go_upto_region 27 with fail
          go_cut [19, 20] from 192 to 197 (fun a b wx => (∃ y f, a = .string y ∧ b = .bool f ∧ ((y = ⟨#[]⟩ ∧ f = false) ∨ (mechW p q 0 q = y ∧ f = true ∧ p < q ∧ Nat.gcd p q = 1))) ∧ Below w12.heap.size w12 wx)
          case first =>
            as_aux_lemma =>
              by_cases hch : p < q ∧ Nat.gcd p q = 1
              · have cCh := fun w => Christ_yes p q q2 hch.1 hch.2 w
                have hchH := Lib.hid hch
                obtain ⟨y, hy⟩ : ∃ y, mechW p q 0 q = y := ⟨_, rfl⟩
                simp only [hy] at cCh
                have hyH := Lib.hid hy
                clear hch hy hbw hzw
                go_wp2_with (go_at_call 53; (with_reducible refine (cCh _).mono ?_); rintro e w13 ⟨rfl, hb13⟩)
                all_goals (go_meet; exact ⟨⟨_, _, rfl, rfl, .inr ⟨hyH.out, rfl, hchH.out.1, hchH.out.2⟩⟩, hb13⟩)
              · have cCh := fun w => Christ_no p q q1 q2 q3 hch w
                clear hch hbw hzw
                go_wp2_with (go_at_call 53; (with_reducible refine (cCh _).mono ?_); rintro e w13 ⟨rfl, hb13⟩)
                all_goals (go_meet; exact ⟨⟨_, _, rfl, rfl, .inl ⟨rfl, rfl⟩⟩, hb13⟩)
          case rest =>
            rename World => w13
            obtain ⟨⟨y, f, rfl, rfl, hab⟩, hb13⟩ := hcut
            have hbw := Qtrans hb13 hzw hbw
            have hzw := hbw.size
            have habH := Lib.hid hab
            clear hb13 hab
            go_upto_region 28 with fail
            go_cut [227] from 198 to 226 (fun z wx => z = .bool false ∧ Below w13.heap.size w13 wx)
            case first =>
              as_aux_lemma =>
                have hbx : Below w13.heap.size w13 w13 := Below.refl _ _
                have hzx : w13.heap.size ≤ w13.heap.size := Nat.le_refl _
                clear hbw hzw
                rcases habH.out with ⟨rfl, rfl⟩ | ⟨hy, rfl, c1, c2⟩
                · clear habH
                  go_wp2_with fail
                  all_goals (go_meet; exact ⟨rfl, hbx⟩)
                · have y1 := mechW_size p q 0 q
                  have y2 := mechW_count p q 0 1 q1 q3
                  rw [Nat.one_mul, Nat.one_mul] at y2
                  have y3 := mechW_bin p q 0 q (by omega)
                  have y4 : ∀ w, Calls Try.prog 54 #[.string (mechW p q 0 q)] w fun e w' => e = .returned (.bool true) ∧ Below w.heap.size w w' := fun w => IsLyndon_yes (mechW p q 0 q) (isWB_bin y3) (by omega) (fun k h1 h2 => ch_lyn q2 c1 c2 k h1 (by rw [y1] at h2; exact h2)) w
                  have y5 : 1 < q → ∀ w, Calls Try.prog 42 #[.string ((mechW p q 0 q).extract 1 (q - 1))] w fun e w' => e = .returned (.bool true) ∧ Below w.heap.size w w' := fun h w => by
                    have := implCen_any ((mechW p q 0 q).extract 1 (q - 1)) w (by rw [ByteArray.size_extract]; omega)
                    rwa [cen_yes (ch_cen q2 c1 h c2)] at this
                  rw [hy] at y1 y2 y3
                  simp only [hy] at y4 y5
                  have y6 := fun w => CountB_any y (isW_of (isWB_bin y3)) w
                  rw [y2] at y6
                  have yq : (y.size : Int) = (q : Int) := by omega
                  have y5H := Lib.hid y5
                  clear y1 y2 y3 y5 hy c2 habH eq1
                  by_cases h1 : 1 < q
                  · have g1 : (1 : Int) < (q : Int) := by omega
                    have y7 := y5H.out h1
                    have g2 : IntKind.i64.wrap ((q : Int) - 1) = ((q - 1 : Nat) : Int) := by rw [IntWalk.i64_in _ (by omega)]; omega
                    have g3 : (1 : Int) ≤ ((q - 1 : Nat) : Int) := by omega
                    have g4 : ((q - 1 : Nat) : Int) ≤ (y.size : Int) := by omega
                    generalize q - 1 = Q1 at *
                    clear h1
                    go_wp2_with (first | (go_at_call 54; (with_reducible refine (y4 _).mono ?_); rintro e wq ⟨rfl, hbq⟩; have hbx := Qtrans hbq hzx hbx; have hzx := hbx.size) | (go_at_call 42; (with_reducible refine (y7 _).mono ?_); rintro e wq ⟨rfl, hbq⟩; have hbx := Qtrans hbq hzx hbx; have hzx := hbx.size) | (go_at_call 40; (with_reducible refine (y6 _).mono ?_); rintro e wz ⟨rfl, hwz⟩; subst hwz))
                    all_goals (go_meet; exact ⟨rfl, hbx⟩)
                  · have g1 : ¬ (1 : Int) < (q : Int) := by omega
                    clear h1 y5H
                    go_wp2_with (first | (go_at_call 54; (with_reducible refine (y4 _).mono ?_); rintro e wq ⟨rfl, hbq⟩; have hbx := Qtrans hbq hzx hbx; have hzx := hbx.size) | (go_at_call 40; (with_reducible refine (y6 _).mono ?_); rintro e wz ⟨rfl, hwz⟩; subst hwz))
                    all_goals (go_meet; exact ⟨rfl, hbx⟩)
            case rest =>
              rename World => w14
              obtain ⟨rfl, hb14⟩ := hcut
              have hbw := Qtrans hb14 hzw hbw
              have hzw := hbw.size
              have cN : Calls Try.prog 21 #[.slice px n cap, .int .i64 33, .int .i64 0, .int .i64 5] w14 fun e w' => ∃ v : Int, e = .returned (.int .i64 v) ∧ (0 ≤ v ∧ v ≤ 5) ∧ Below w14.heap.size w14 w' := MakeSize_any wc.heap.size px n cap 33 (by omega) 0 5 (by omega) (by omega) (by omega) w14 hbw.size (rB_below hrH.out hbw)
              clear hb14 habH eq1
              go_upto_region 31 with (go_at_call 21; (with_reducible refine cN.mono ?_); rintro e w15 ⟨v, rfl, ⟨hv1, hv2⟩, hb15⟩; have hbw := Qtrans hb15 hzw hbw; have hzw := hbw.size)
              obtain ⟨m, rfl⟩ : ∃ q : Nat, v = (q : Int) := ⟨v.toNat, by omega⟩
              have hm : m ≤ 5 := by omega
              have cA := fun w => MakeAll_any m w hm
              obtain ⟨tb1, tb2⟩ := table5_at hm
              have tb3 := wds_63 hm
              clear cN hb15
              go_wp2_with (go_at_call 55; (with_reducible refine (cA _).mono ?_); rintro e w16 ⟨g, c, rfl, hown, hb16⟩; have hbw := Qtrans hb16 hzw hbw; have hzw := hbw.size)
              clear cA hb16
              obtain ⟨L, hL⟩ : ∃ L, wds 2 m = L := ⟨_, rfl⟩
              rw [hL] at tb1 tb2 tb3 hown ⊢
              obtain ⟨N, hN⟩ : ∃ N, L.length = N := ⟨_, rfl⟩
              rw [hN] at tb3 hown ⊢
              have hNH := Lib.hid hN
              have tb1H := Lib.hid tb1
              have tb2H := Lib.hid tb2
              have hgl := (hown.lt g rfl).2
              clear hL hN tb1 tb2 hv1 hv2
              generalize w15.heap.size = B15 at *
              go_loopw [22, 24, 233] (fun cv _ i wr => ∃ k z : Nat, k ≤ N ∧ i = .int .i64 k ∧ cv = .int .i64 z ∧ Hid (((L.take k).filter (cntP m)).length = z) ∧ z ≤ k ∧ Below w16.heap.size w16 wr) (fun _ _ i _ => N - (intOf i).toNat)
              case atStart => exact ⟨0, 0, by omega, rfl, rfl, Lib.hid rfl, by omega, Below.refl _ _⟩
              case round =>
                obtain ⟨k, z, hk, rfl, rfl, hz, hzk, hbr⟩ := hrel
                have hzr := hbr.size
                by_cases hlt : k < N
                · have j1 : (k : Int) < (N : Int) := by omega
                  have j2 : (0 : Int) ≤ (k : Int) := by omega
                  have hck := (hbr.cell (p := ⟨g, k, none⟩) hgl).trans (own_cell hown k hlt)
                  rw [sv_at _ _ (by rw [hNH.out]; exact hlt)] at hck
                  have hmem : L.getD k ByteArray.empty ∈ L := by
                    rw [List.getD_eq_getElem?_getD, List.getElem?_eq_getElem (by rw [hNH.out]; exact hlt)]; exact List.getElem_mem _
                  obtain ⟨y5, yB⟩ := tb1H.out _ hmem
                  have hnx := filt_next L (cntP m) k (by rw [hNH.out]; exact hlt)
                  rw [hz.out] at hnx
                  obtain ⟨y, hy⟩ : ∃ y, L.getD k ByteArray.empty = y := ⟨_, rfl⟩
                  rw [hy] at hck y5 yB hnx
                  have cY := fun w => IsBalanced_any y w (by omega)
                  rw [balB_C yB] at cY
                  unfold cntP at hnx
                  have hnx1 : Hid (((L.take (k + 1)).filter (cntP m)).length = z + (if (y.size == m && balC y) = true then 1 else 0)) := hnx
                  clear hnx hy hmem yB hbw hzw hown
                  obtain ⟨Q, hQ⟩ : ∃ Q, balC y = Q := ⟨_, rfl⟩
                  rw [hQ] at cY hnx1
                  clear hQ
                  by_cases hs : y.size = m
                  · have i1 : (y.size : Int) = (m : Int) := by omega
                    cases Q
                    · have hn' : Hid (((L.take (k + 1)).filter (cntP m)).length = z) := by show _ = _; rw [hnx1.out]; simp
                      clear hnx1 hs
                      go_wp2_with (go_at_call 41; (with_reducible refine (cY _).mono ?_); rintro e wq ⟨rfl, hbq⟩)
                      exact ⟨⟨k + 1, z, by omega, by go_num, by go_num, hn', by omega, Qtrans hbq hzr hbr⟩, by simp [intOf]; omega⟩
                    · have hn' : Hid (((L.take (k + 1)).filter (cntP m)).length = z + 1) := by show _ = _; rw [hnx1.out]; simp [hs]
                      clear hnx1 hs
                      go_wp2_with (go_at_call 41; (with_reducible refine (cY _).mono ?_); rintro e wq ⟨rfl, hbq⟩)
                      exact ⟨⟨k + 1, z + 1, by omega, by go_num, by go_num, hn', by omega, Qtrans hbq hzr hbr⟩, by simp [intOf]; omega⟩
                  · have i1 : ¬ (y.size : Int) = (m : Int) := by omega
                    have hn' : Hid (((L.take (k + 1)).filter (cntP m)).length = z) := by show _ = _; rw [hnx1.out]; simp [hs]
                    clear hnx1 hs
                    go_wp2_with fail
                    exact ⟨⟨k + 1, z, by omega, by go_num, by go_num, hn', by omega, hbr⟩, by simp [intOf]; omega⟩
                · obtain rfl : k = N := by omega
                  have j1 : ¬ (k : Int) < (k : Int) := by omega
                  have hzz := hz.out
                  rw [List.take_of_length_le (by rw [hNH.out]; exact Nat.le_refl _), tb2H.out] at hzz
                  have cCB := fun w => CountBalanced_any m hm w
                  rw [hzz] at cCB
                  have cBi := fun w => implBin_any s w (by omega)
                  rw [hB] at cBi
                  clear hz hzz hown
                  go_wp2_with (first | (go_at_call 56; (with_reducible refine (cCB _).mono ?_); rintro e wq ⟨rfl, hbq⟩; have hzq := hbq.size) | (go_at_call 57; (with_reducible refine (cBi _).mono ?_); rintro e wy ⟨rfl, hby⟩))
                  go_ret
                  have hf1 := Qtrans hbr hbw.size hbw
                  have hf2 := Qtrans hbq hf1.size hf1
                  exact ⟨rfl, Qtrans hby hf2.size hf2⟩
end Go.Proofs.Ytilbhingfnjppab
