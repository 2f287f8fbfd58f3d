/- The laws' binary words: the walks of their draws. -/
import Derived.Test.YtilbhingfnjppabMFre
import Derived.Test.YtilbhingfnjppabMDrb
set_option linter.unusedSimpArgs false
set_option linter.unusedVariables false
namespace Go.Proofs.Ytilbhingfnjppab
open Go.RowKit
set_option maxRecDepth 20000 in
set_option maxHeartbeats 4000000 in
theorem l10Mech_any (p q st n : Nat) (hq1 : 1 ≤ q) (hq : q ≤ 20) (hp : p ≤ q) (hst : st + 1 ≤ q) (hn : n ≤ 40) (w : World) :
    Calls Try.prog 114 #[.int .i64 p, .int .i64 q, .int .i64 st, .int .i64 n] w fun e w' => e = .returned (.string ⟨(mechL p q st n).toArray⟩) ∧ Below w.heap.size w w' := by
  obtain ⟨i0, hi0, hz0, hz1, hz2⟩ := info_parts infoB
  have hown0 := World.ownsRow_lit (base := w.heap.size) (e := 5) (size := 1) w #[] 0 (Nat.le_refl _) (by decide) rfl
  go_enter Try.func114, Try.ntmps114
  go_wp2_with fail
  go_loopw [9, 10] (fun o i wr => ∃ k g c : Nat, k ≤ n ∧ i = .int .i64 k ∧ o = .slice (some ⟨g, 0, none⟩) k c ∧ wr.ownsRow w.heap.size 5 1 (.slice (some ⟨g, 0, none⟩) k c) k (bv (mechL p q st k)) ∧ w.heap.size ≤ wr.heap.size ∧ Below w.heap.size w wr) (fun _ i _ => n - (intOf i).toNat)
  case atStart => exact ⟨0, w.heap.size, 0, by omega, rfl, rfl, hown0, by ((try simp only [World.size_alloc, World.size_setCell, World.size_drew, size_drewN]); (try dsimp only); omega), by (repeat (first | with_reducible exact Below.refl _ _ | assumption | with_reducible refine Qdrew ?_ | with_reducible refine QdrewN ?_ | ((with_reducible refine Qset ?_ ?_); exact (by ((try simp only [World.size_alloc, World.size_setCell, World.size_drew, size_drewN]); (try dsimp only); omega))) | ((with_reducible refine Qalloc ?_ ?_); exact (by ((try simp only [World.size_alloc, World.size_setCell, World.size_drew, size_drewN]); (try dsimp only); omega))) | refine Qtrans (by assumption) (by ((try simp only [World.size_alloc, World.size_setCell, World.size_drew, size_drewN]); (try dsimp only); omega)) ?_))⟩
  case round =>
    clear hown0
    obtain ⟨k, g, c, hk, rfl, rfl, hown, hz, hbel⟩ := hrel
    by_cases hlt : k < n
    · have j1 : (k : Int) < (n : Int) := by omega
      have hnx := mechL_next p q st k
      have m1 : (k + 1) * p ≤ 40 * 20 := Nat.mul_le_mul (by omega) (by omega)
      have m2 : k * p ≤ 40 * 20 := Nat.mul_le_mul (by omega) (by omega)
      have a2 : IntKind.i64.wrap (((k : Int) + 1) * (p : Int)) = (((k + 1) * p : Nat) : Int) := by
        rw [show ((k : Int) + 1) * (p : Int) = (((k + 1) * p : Nat) : Int) by push_cast; rfl, IntWalk.i64_in _ (by omega)]
      have a3 : IntKind.i64.wrap ((k : Int) * (p : Int)) = ((k * p : Nat) : Int) := by rw [← Int.natCast_mul, IntWalk.i64_in _ (by omega)]
      unfold mlet at hnx
      generalize (k + 1) * p = X at *
      generalize k * p = Y at *
      obtain ⟨A, hA⟩ : ∃ A, st + X = A := ⟨_, rfl⟩
      obtain ⟨D, hD⟩ : ∃ D, st + Y = D := ⟨_, rfl⟩
      have a4 : IntKind.i64.wrap ((st : Int) + (X : Int)) = (A : Int) := by rw [IntWalk.i64_in _ (by omega)]; omega
      have a5 : IntKind.i64.wrap ((st : Int) + (Y : Int)) = (D : Int) := by rw [IntWalk.i64_in _ (by omega)]; omega
      have hA9 : A ≤ 900 := by omega
      have hD9 : D ≤ 900 := by omega
      rw [hA, hD] at hnx
      clear hA hD m1 m2
      have a6 : (A : Int).tdiv (q : Int) = ((A / q : Nat) : Int) := (Int.ofNat_tdiv _ _).symm
      have a7 : (D : Int).tdiv (q : Int) = ((D / q : Nat) : Int) := (Int.ofNat_tdiv _ _).symm
      have a6' : (A : Int) / (q : Int) = ((A / q : Nat) : Int) := (Int.natCast_ediv _ _).symm
      have a7' : (D : Int) / (q : Int) = ((D / q : Nat) : Int) := (Int.natCast_ediv _ _).symm
      have b6 : A / q ≤ 900 := Nat.le_trans (Nat.div_le_self _ _) hA9
      have b7 : D / q ≤ 900 := Nat.le_trans (Nat.div_le_self _ _) hD9
      generalize A / q = U at *
      generalize D / q = V at *
      have a8 : IntKind.i64.wrap (U : Int) = (U : Int) := IntWalk.i64_in _ (by omega)
      have a9 : IntKind.i64.wrap (V : Int) = (V : Int) := IntWalk.i64_in _ (by omega)
      have q0 : ¬ (q : Int) = 0 := by omega
      have q1 : ((q : Int) == 0) = false := by simpa using q0
      have hl := mechL_len p q st k
      generalize mechL p q st k = acc at *
      by_cases huv : V < U
      · have c1 : (V : Int) < (U : Int) := by omega
        rw [if_pos huv] at hnx
        have hnxH := Lib.hid hnx
        have hlH := Lib.hid hl
        clear hnx huv hl
        go_wp2_with fail
        go_region
        all_goals
          go_wp2_with (at_builtin; refine wpList_append_lies _ rfl _ _ _ rfl (w.heap.size) 5 i0 _ 1 1 Try.underlying22 hi0 hz0 hz1 hz2 rfl (by decide) (.slice (some ⟨g, 0, none⟩) k c) (k) (bv acc) (by rfl) (hown.alloc _) ⟨(wr).heap.size, 0, none⟩ 1 1 [.int .u8 98] (by rfl) (by rfl) (World.news_of_block (cs := #[.int .u8 98]) (t := 5) (fr := (0, 0)) (heap_alloc_new (wr) _)) (by simp [Value.oneCell']) (by omega) (by unfold maxLen; omega) (by omega) (by simp; omega) ((wr).heap.size + 1) (by simp) ?_; intro gg cap w1 hown1 hgrow hatg hltg)
          refine ⟨⟨k + 1, gg, cap, by omega, by go_num, rfl, ?_, by have := size_appD hgrow; omega, below_appD hbel hz hown hgrow⟩, by simp [intOf]; omega⟩
          rw [hnxH.out]
          simpa [bv] using hown1
      · have c1 : ¬ (V : Int) < (U : Int) := by omega
        rw [if_neg huv] at hnx
        have hnxH := Lib.hid hnx
        have hlH := Lib.hid hl
        clear hnx huv hl
        go_wp2_with fail
        go_region
        all_goals
          go_wp2_with (at_builtin; refine wpList_append_lies _ rfl _ _ _ rfl (w.heap.size) 5 i0 _ 1 1 Try.underlying22 hi0 hz0 hz1 hz2 rfl (by decide) (.slice (some ⟨g, 0, none⟩) k c) (k) (bv acc) (by rfl) (hown.alloc _) ⟨(wr).heap.size, 0, none⟩ 1 1 [.int .u8 97] (by rfl) (by rfl) (World.news_of_block (cs := #[.int .u8 97]) (t := 5) (fr := (0, 0)) (heap_alloc_new (wr) _)) (by simp [Value.oneCell']) (by omega) (by unfold maxLen; omega) (by omega) (by simp; omega) ((wr).heap.size + 1) (by simp) ?_; intro gg cap w1 hown1 hgrow hatg hltg)
          refine ⟨⟨k + 1, gg, cap, by omega, by go_num, rfl, ?_, by have := size_appD hgrow; omega, below_appD hbel hz hown hgrow⟩, by simp [intOf]; omega⟩
          rw [hnxH.out]
          simpa [bv] using hown1
    · obtain rfl : k = n := by omega
      have j1 : ¬ (k : Int) < (k : Int) := by omega
      have hcv := own_string (l := mechL p q st k) (by rw [mechL_len]; exact hown)
      rw [mechL_len] at hcv
      go_wp2_with fail
      go_ret
      exact ⟨rfl, hbel⟩
theorem size_ext0 (s : ByteArray) (k : Nat) (h : k ≤ s.size) : (s.extract 0 k).size = k := by rw [ByteArray.size_extract]; omega
theorem size_extT (s : ByteArray) (k : Nat) : (s.extract k s.size).size = s.size - k := by rw [ByteArray.size_extract]; omega
set_option maxRecDepth 20000 in
set_option maxHeartbeats 4000000 in
theorem l02Draw_any (B g : Nat) (x : Option Addr) (n cap : Nat) (w : World) (hB : B ≤ g) (hr : RB B w x n) (hc : Cur w g x n cap) :
    Calls Try.prog 127 #[.pointer (some ⟨g, 0, none⟩), .int .i64 12] w fun e w' => ∃ s : ByteArray, e = .returned (.string s) ∧ s.size ≤ 50 ∧ Cur w' g x n cap ∧ w.grownBy w' (some g) := by
  have hgw := cur_lt hc
  have hrH := Lib.hid hr
  have hg0 : w.grownBy w (some g) := World.grownBy.refl _ _
  have c1 := l01Below_any B g x n cap 3 (by omega) (by omega) w hB hr hc
  go_enter Try.func127, Try.ntmps127
  go_upto_region 2 with (go_at_call 61; refine c1.mono ?_; rintro e w1 ⟨u, rfl, ⟨hu0, hu1⟩, hc1, hg1⟩)
  clear c1 hr hc
  have c2 := l01Below_any B g x n cap 13 (by omega) (by omega) w1 hB (rB_grown hrH.out hg1 (by omega) hB) hc1
  have e0 : IntKind.i64.wrap (1 + u) = 1 + u := IntWalk.i64_in _ (by omega)
  go_wp2_with fail
  refine c2.mono ?_
  rintro e w2 ⟨v, rfl, ⟨hv0, hv1⟩, hc2, hg2⟩
  obtain ⟨N, rfl⟩ : ∃ N : Nat, v = (N : Int) := ⟨v.toNat, by omega⟩
  have hgB := hg1.trans hg2
  have c3 := l02Word_any B g x n cap N (by omega) (1 + u) (by omega) (by omega) w2 hB (rB_grown hrH.out hgB (by omega) hB) hc2
  clear c2 hc1 hg1 hg2
  go_wp2_with fail
  refine c3.mono ?_
  rintro e w3 ⟨l, rfl, hl, _, hc3, hg3⟩
  have hgC := hgB.trans hg3
  obtain ⟨s, hs⟩ : ∃ s, (⟨l.toArray⟩ : ByteArray) = s := ⟨_, rfl⟩
  have hs12 : s.size ≤ 12 := by
    have : s.size = l.length := by rw [← hs]; simp [ByteArray.size]
    omega
  rw [hs]
  clear c3 hc2 hgB hg3 hs hl
  go_upto_region 3 with fail
  go_wp2_with fail
  refine ((l01Once_any B g x n cap 4 (by omega) (by omega) _ hB (rB_grown hrH.out hgC (by omega) hB) hc3)).mono ?_
  rintro e w4 ⟨b1, rfl, hc4, hg4⟩
  have hgD := hgC.trans hg4
  clear hgC hg4 hc3
  cases b1
  · have _h : True := trivial
    go_wp2_with fail
    refine ((l01Once_any B g x n cap 6 (by omega) (by omega) _ hB (rB_grown hrH.out hgD (by omega) hB) hc4)).mono ?_
    rintro e w9 ⟨b2, rfl, hc9, hg9⟩
    have hgA := (hgD).trans hg9
    clear hg9
    cases b2
    · go_wp2_with fail
      go_ret
      exact ⟨_, rfl, by omega, hc9, hgA⟩
    · go_wp2_with fail
      go_loopw [7] (fun v wr => ∃ s : ByteArray, v = .string s ∧ 2 ≤ s.size ∧ s.size ≤ 30 ∧ w9 = wr) (fun v _ => 40 - (match v with | .string s => s.size | _ => 0))
      case atStart => exact ⟨⟨#[97, 98]⟩, rfl, by decide, by decide, by first | rfl | trivial⟩
      case round =>
        obtain ⟨s, rfl, hs2, hs3, rfl⟩ := hrel
        have e1 : (s.size : Int).tdiv 2 = ((s.size / 2 : Nat) : Int) := (Int.ofNat_tdiv s.size 2).symm
        by_cases hlt : s.size < 12
        · have j1 : (s.size : Int) < 12 := by omega
          obtain ⟨k, hk⟩ : ∃ k, s.size / 2 = k := ⟨_, rfl⟩
          have hk2 : k + 1 ≤ s.size ∧ k ≤ 6 := by omega
          rw [hk] at e1
          have e1' : (s.size : Int) / 2 = (k : Int) := by omega
          clear hk
          have hz := size_ext0 s (k + 1) hk2.1
          have e2 : IntKind.i64.wrap ((k : Int) + 1) = ((k + 1 : Nat) : Int) := by rw [IntWalk.i64_in _ (by omega)]; omega
          have e3 : ((k + 1 : Nat) : Int) ≤ (s.size : Int) := by omega
          have e4 : IntKind.i64.wrap (k : Int) = (k : Int) := IntWalk.i64_in _ (by omega)
          have e5 : (0 : Int) ≤ ((k + 1 : Nat) : Int) := by omega
          have e6 : ((k + 1 : Nat) : Int).toNat = k + 1 := by omega
          have hz2 := Lib.hid (show (s ++ s.extract 0 (k + 1)).size = s.size + (k + 1) by rw [ByteArray.size_append, hz])
          go_wp2_with fail
          have hz3 := hz2.out
          exact ⟨⟨_, rfl, by omega, by omega, by first | trivial | rfl⟩, by show 40 - (s ++ s.extract 0 (k + 1)).size < 40 - s.size; omega⟩
        · have hk12 : 12 ≤ s.size := by omega
          have j1 : ¬ (s.size : Int) < 12 := by omega
          have j2 : min (s.size : Int) 12 = 12 := by omega
          have hz := size_ext0 s 12 hk12
          have j3 : (12 : Int) ≤ (s.size : Int) := by omega
          clear e1
          go_wp2_with fail
          go_ret
          exact ⟨_, rfl, by omega, hc9, hgA⟩
  · by_cases h1 : 1 < s.size
    · have j1 : (1 : Int) < (s.size : Int) := by omega
      have e1 : (s.size : Int).tdiv 2 = ((s.size / 2 : Nat) : Int) := (Int.ofNat_tdiv s.size 2).symm
      obtain ⟨k, hk⟩ : ∃ k, s.size / 2 = k := ⟨_, rfl⟩
      have hk2 : k ≤ s.size ∧ k ≤ 6 := by omega
      rw [hk] at e1
      have e1' : (s.size : Int) / 2 = (k : Int) := by omega
      clear hk
      have hz := size_ext0 s k hk2.1
      have e3 : (k : Int) ≤ (s.size : Int) := by omega
      have e4 : IntKind.i64.wrap (k : Int) = (k : Int) := IntWalk.i64_in _ (by omega)
      obtain ⟨t, ht⟩ : ∃ t, s.extract 0 k = t := ⟨_, rfl⟩
      rw [ht] at hz
      have htH := Lib.hid ht
      have hz2 : (t ++ t).size = t.size + t.size := by rw [ByteArray.size_append]
      go_wp2_with fail
      go_region
      all_goals go_wp2_with fail
      have hgE := grown_drewG hgD
      have hcE := cur_drew hc4
      clear e1 e1' e3 e4 j1
      refine ((l01Once_any B g x n cap 6 (by omega) (by omega) _ hB (rB_grown hrH.out hgE (by omega) hB) hcE)).mono ?_
      rintro e w9 ⟨b2, rfl, hc9, hg9⟩
      have hgA := (hgE).trans hg9
      clear hg9
      cases b2
      · go_wp2_with fail
        go_ret
        exact ⟨_, rfl, by omega, hc9, hgA⟩
      · go_wp2_with fail
        go_loopw [7] (fun v wr => ∃ s : ByteArray, v = .string s ∧ 2 ≤ s.size ∧ s.size ≤ 30 ∧ w9 = wr) (fun v _ => 40 - (match v with | .string s => s.size | _ => 0))
        case atStart => exact ⟨⟨#[97, 98]⟩, rfl, by decide, by decide, by first | rfl | trivial⟩
        case round =>
          obtain ⟨s, rfl, hs2, hs3, rfl⟩ := hrel
          have e1 : (s.size : Int).tdiv 2 = ((s.size / 2 : Nat) : Int) := (Int.ofNat_tdiv s.size 2).symm
          by_cases hlt : s.size < 12
          · have j1 : (s.size : Int) < 12 := by omega
            obtain ⟨k, hk⟩ : ∃ k, s.size / 2 = k := ⟨_, rfl⟩
            have hk2 : k + 1 ≤ s.size ∧ k ≤ 6 := by omega
            rw [hk] at e1
            have e1' : (s.size : Int) / 2 = (k : Int) := by omega
            clear hk
            have hz := size_ext0 s (k + 1) hk2.1
            have e2 : IntKind.i64.wrap ((k : Int) + 1) = ((k + 1 : Nat) : Int) := by rw [IntWalk.i64_in _ (by omega)]; omega
            have e3 : ((k + 1 : Nat) : Int) ≤ (s.size : Int) := by omega
            have e4 : IntKind.i64.wrap (k : Int) = (k : Int) := IntWalk.i64_in _ (by omega)
            have e5 : (0 : Int) ≤ ((k + 1 : Nat) : Int) := by omega
            have e6 : ((k + 1 : Nat) : Int).toNat = k + 1 := by omega
            have hz2 := Lib.hid (show (s ++ s.extract 0 (k + 1)).size = s.size + (k + 1) by rw [ByteArray.size_append, hz])
            go_wp2_with fail
            have hz3 := hz2.out
            exact ⟨⟨_, rfl, by omega, by omega, by first | trivial | rfl⟩, by show 40 - (s ++ s.extract 0 (k + 1)).size < 40 - s.size; omega⟩
          · have hk12 : 12 ≤ s.size := by omega
            have j1 : ¬ (s.size : Int) < 12 := by omega
            have j2 : min (s.size : Int) 12 = 12 := by omega
            have hz := size_ext0 s 12 hk12
            have j3 : (12 : Int) ≤ (s.size : Int) := by omega
            clear e1
            go_wp2_with fail
            go_ret
            exact ⟨_, rfl, by omega, hc9, hgA⟩
    · have j1 : ¬ (1 : Int) < (s.size : Int) := by omega
      go_wp2_with fail
      refine ((l01Once_any B g x n cap 6 (by omega) (by omega) _ hB (rB_grown hrH.out hgD (by omega) hB) hc4)).mono ?_
      rintro e w9 ⟨b2, rfl, hc9, hg9⟩
      have hgA := (hgD).trans hg9
      clear hg9
      cases b2
      · go_wp2_with fail
        go_ret
        exact ⟨_, rfl, by omega, hc9, hgA⟩
      · go_wp2_with fail
        go_loopw [7] (fun v wr => ∃ s : ByteArray, v = .string s ∧ 2 ≤ s.size ∧ s.size ≤ 30 ∧ w9 = wr) (fun v _ => 40 - (match v with | .string s => s.size | _ => 0))
        case atStart => exact ⟨⟨#[97, 98]⟩, rfl, by decide, by decide, by first | rfl | trivial⟩
        case round =>
          obtain ⟨s, rfl, hs2, hs3, rfl⟩ := hrel
          have e1 : (s.size : Int).tdiv 2 = ((s.size / 2 : Nat) : Int) := (Int.ofNat_tdiv s.size 2).symm
          by_cases hlt : s.size < 12
          · have j1 : (s.size : Int) < 12 := by omega
            obtain ⟨k, hk⟩ : ∃ k, s.size / 2 = k := ⟨_, rfl⟩
            have hk2 : k + 1 ≤ s.size ∧ k ≤ 6 := by omega
            rw [hk] at e1
            have e1' : (s.size : Int) / 2 = (k : Int) := by omega
            clear hk
            have hz := size_ext0 s (k + 1) hk2.1
            have e2 : IntKind.i64.wrap ((k : Int) + 1) = ((k + 1 : Nat) : Int) := by rw [IntWalk.i64_in _ (by omega)]; omega
            have e3 : ((k + 1 : Nat) : Int) ≤ (s.size : Int) := by omega
            have e4 : IntKind.i64.wrap (k : Int) = (k : Int) := IntWalk.i64_in _ (by omega)
            have e5 : (0 : Int) ≤ ((k + 1 : Nat) : Int) := by omega
            have e6 : ((k + 1 : Nat) : Int).toNat = k + 1 := by omega
            have hz2 := Lib.hid (show (s ++ s.extract 0 (k + 1)).size = s.size + (k + 1) by rw [ByteArray.size_append, hz])
            go_wp2_with fail
            have hz3 := hz2.out
            exact ⟨⟨_, rfl, by omega, by omega, by first | trivial | rfl⟩, by show 40 - (s ++ s.extract 0 (k + 1)).size < 40 - s.size; omega⟩
          · have hk12 : 12 ≤ s.size := by omega
            have j1 : ¬ (s.size : Int) < 12 := by omega
            have j2 : min (s.size : Int) 12 = 12 := by omega
            have hz := size_ext0 s 12 hk12
            have j3 : (12 : Int) ≤ (s.size : Int) := by omega
            clear e1
            go_wp2_with fail
            go_ret
            exact ⟨_, rfl, by omega, hc9, hgA⟩
theorem own_strsF {w : World} {B g n cap : Nat} {zs : List ByteArray} (h : w.ownsRow B 9 1 (.slice (some ⟨g, 0, none⟩) n cap) n (sv zs)) (hl : zs.length = n) (hz : ∀ s ∈ zs, s.size ≤ maxLen) : IsStrs w (some ⟨g, 0, none⟩) n cap zs := isStrs_ownAny h hl hz
def bendA : List ByteArray := [⟨#[32]⟩, ⟨#[48]⟩, ⟨#[49]⟩, ⟨#[120]⟩, ⟨#[45]⟩, ⟨#[47]⟩, ⟨#[61]⟩]
def bendB : List ByteArray := [⟨#[32]⟩, ⟨#[48]⟩, ⟨#[32, 49]⟩, ⟨#[47]⟩]
theorem bendA_size : ∀ z ∈ bendA, z.size ≤ 2 := by decide
theorem bendB_size : ∀ z ∈ bendB, z.size ≤ 2 := by decide
set_option maxRecDepth 20000 in
set_option maxHeartbeats 4000000 in
theorem l01Bend_any (B g : Nat) (x : Option Addr) (n cap : Nat) (s : ByteArray) (hs : s.size ≤ 50) (w : World) (hB : B ≤ g) (hr : RB B w x n) (hc : Cur w g x n cap) :
    Calls Try.prog 128 #[.pointer (some ⟨g, 0, none⟩), .string s] w fun e w' => ∃ s : ByteArray, e = .returned (.string s) ∧ s.size ≤ 60 ∧ Cur w' g x n cap ∧ w.grownBy w' (some g) := by
  have hgw := cur_lt hc
  have hrH := Lib.hid hr
  have c1 := l01Once_any B g x n cap 3 (by omega) (by omega) w hB hr hc
  clear hr hc
  go_enter Try.func128, Try.ntmps128
  go_wp2_with fail
  refine c1.mono ?_
  rintro e w1 ⟨b1, rfl, hc1, hg1⟩
  clear c1
  cases b1
  · go_wp2_with fail
    go_ret
    exact ⟨_, rfl, by omega, hc1, hg1⟩
  by_cases h0 : s.size = 0
  · have j0 : (s.size : Int) = 0 := by omega
    clear h0
    go_wp2_with fail
    go_ret
    exact ⟨_, rfl, by omega, hc1, hg1⟩
  have j0 : ¬ (s.size : Int) = 0 := by omega
  have c2 := l01Below_any B g x n cap (s.size : Int) (by omega) (by omega) w1 hB (rB_grown hrH.out hg1 (by omega) hB) hc1
  clear h0
  go_wp2_with fail
  refine c2.mono ?_
  rintro e w2 ⟨v, rfl, ⟨hv0, hv1⟩, hc2, hg2⟩
  obtain ⟨k, rfl⟩ : ∃ k : Nat, v = (k : Int) := ⟨v.toNat, by omega⟩
  have hgB := hg1.trans hg2
  have c3 := l01Below_any B g x n cap 4 (by omega) (by omega) w2 hB (rB_grown hrH.out hgB (by omega) hB) hc2
  clear c2 hg1 hg2 hc1
  go_wp2_with fail
  refine c3.mono ?_
  rintro e w3 ⟨u, rfl, ⟨hu0, hu1⟩, hc3, hg3⟩
  have hgC := hgB.trans hg3
  clear c3 hgB hg3 hc2
  have hz1 := size_ext0 s k (by omega)
  have hz2 := size_extT s k
  have hz3 := size_extT s (k + 1)
  have i1 : IntKind.i64.wrap ((k : Int) + 1) = ((k + 1 : Nat) : Int) := by rw [IntWalk.i64_in _ (by omega)]; omega
  have i2 : (k : Int) ≤ (s.size : Int) := by omega
  have i3 : ((k + 1 : Nat) : Int) ≤ (s.size : Int) := by omega
  have i3' : (k : Int) + 1 ≤ (s.size : Int) := by omega
  have i4 : ((k : Int) + 1).toNat = k + 1 := by omega
  have i5 : (0 : Int) ≤ (k : Int) + 1 := by omega
  have hgw3 := hgC.size
  have hu : u = 0 ∨ u = 1 ∨ u = 2 ∨ u = 3 := by omega
  rcases hu with rfl | rfl | rfl | rfl
  · have hz4 := Lib.hid (show (s.extract 0 k ++ s.extract (k + 1) s.size).size ≤ 60 by rw [ByteArray.size_append]; omega)
    go_wp2_with fail
    go_region
    all_goals
      go_wp2_with fail
      go_ret
      exact ⟨_, rfl, by exact hz4.out, cur_drew hc3, grown_drewG hgC⟩
  · have _h : True := trivial
    have hcR := cur_below hc3 ((Below.refl _ w3).alloc (Nat.le_refl _) (.cells #[.string ⟨#[32]⟩, .string ⟨#[48]⟩, .string ⟨#[49]⟩, .string ⟨#[120]⟩, .string ⟨#[45]⟩, .string ⟨#[47]⟩, .string ⟨#[61]⟩] 9)) (cur_lt hc3)
    have hrR := rB_below (rB_grown hrH.out hgC (by omega) hB) ((Below.refl _ w3).alloc (by omega) (.cells #[.string ⟨#[32]⟩, .string ⟨#[48]⟩, .string ⟨#[49]⟩, .string ⟨#[120]⟩, .string ⟨#[45]⟩, .string ⟨#[47]⟩, .string ⟨#[61]⟩] 9))
    have hsR : IsStrs (w3.alloc (.cells #[.string ⟨#[32]⟩, .string ⟨#[48]⟩, .string ⟨#[49]⟩, .string ⟨#[120]⟩, .string ⟨#[45]⟩, .string ⟨#[47]⟩, .string ⟨#[61]⟩] 9)) (some ⟨w3.heap.size, 0, none⟩) 7 7 bendA := own_strsF (B := w3.heap.size) (World.ownsRow_lit w3 #[.string ⟨#[32]⟩, .string ⟨#[48]⟩, .string ⟨#[49]⟩, .string ⟨#[120]⟩, .string ⟨#[45]⟩, .string ⟨#[47]⟩, .string ⟨#[61]⟩] 7 (Nat.le_refl _) (by decide) rfl) rfl (fun z hz => by have := bendA_size z hz; unfold maxLen; omega)
    have hgR : w.grownBy (w3.alloc (.cells #[.string ⟨#[32]⟩, .string ⟨#[48]⟩, .string ⟨#[49]⟩, .string ⟨#[120]⟩, .string ⟨#[45]⟩, .string ⟨#[47]⟩, .string ⟨#[61]⟩] 9)) (some g) := grown_alloc hgC _
    have hg3 := cur_lt hc3
    have cS := l01Str_any B g x n cap (some ⟨w3.heap.size, 0, none⟩) 7 7 bendA (w3.alloc (.cells #[.string ⟨#[32]⟩, .string ⟨#[48]⟩, .string ⟨#[49]⟩, .string ⟨#[120]⟩, .string ⟨#[45]⟩, .string ⟨#[47]⟩, .string ⟨#[61]⟩] 9)) (by omega) (by omega) hsR (fun b off e => by cases e; omega) hB hrR hcR
    have cT := l01Str_any B g x n cap (some ⟨w3.heap.size, 0, none⟩) 7 7 bendA (w3.alloc (.cells #[.string ⟨#[32]⟩, .string ⟨#[48]⟩, .string ⟨#[49]⟩, .string ⟨#[120]⟩, .string ⟨#[45]⟩, .string ⟨#[47]⟩, .string ⟨#[61]⟩] 9)).drew (by omega) (by omega) hsR (fun b off e => by cases e; omega) hB (rB_drew hrR) (cur_drew hcR)
    clear hcR hrR hsR
    go_wp2_with fail
    go_region_law (go_simp; go_at_call 97; (first | (with_reducible refine cS.mono ?_) | (with_reducible refine cT.mono ?_)); rintro e w6 ⟨z, rfl, hz, hc6, hg6⟩; have hz9 := bendA_size z hz; have hq1 : ¬ 9223372036854775807 < k + z.size := (by omega); have hq2 : ¬ 9223372036854775807 < k + z.size + (s.size - k) := (by omega); have hz8 : (s.extract 0 k ++ z).size = (s.extract 0 k).size + z.size := ByteArray.size_append; have hzA := Lib.hid (show (s.extract 0 k ++ z ++ s.extract k s.size).size ≤ 60 by rw [ByteArray.size_append]; omega))
    all_goals
      go_wp2_with fail
      refine bodyPost_ret (v := .string (s.extract 0 k ++ z ++ s.extract k s.size)) (by simp [results, Try.results128, go_sem]) rfl ⟨_, rfl, hzA.out, hc6, by first | exact hgR.trans hg6 | exact grown_drewF hgR hg6⟩
  · have _h : True := trivial
    have hcR := cur_below hc3 ((Below.refl _ w3).alloc (Nat.le_refl _) (.cells #[.string ⟨#[32]⟩, .string ⟨#[48]⟩, .string ⟨#[32, 49]⟩, .string ⟨#[47]⟩] 9)) (cur_lt hc3)
    have hrR := rB_below (rB_grown hrH.out hgC (by omega) hB) ((Below.refl _ w3).alloc (by omega) (.cells #[.string ⟨#[32]⟩, .string ⟨#[48]⟩, .string ⟨#[32, 49]⟩, .string ⟨#[47]⟩] 9))
    have hsR : IsStrs (w3.alloc (.cells #[.string ⟨#[32]⟩, .string ⟨#[48]⟩, .string ⟨#[32, 49]⟩, .string ⟨#[47]⟩] 9)) (some ⟨w3.heap.size, 0, none⟩) 4 4 bendB := own_strsF (B := w3.heap.size) (World.ownsRow_lit w3 #[.string ⟨#[32]⟩, .string ⟨#[48]⟩, .string ⟨#[32, 49]⟩, .string ⟨#[47]⟩] 4 (Nat.le_refl _) (by decide) rfl) rfl (fun z hz => by have := bendB_size z hz; unfold maxLen; omega)
    have hgR : w.grownBy (w3.alloc (.cells #[.string ⟨#[32]⟩, .string ⟨#[48]⟩, .string ⟨#[32, 49]⟩, .string ⟨#[47]⟩] 9)) (some g) := grown_alloc hgC _
    have hg3 := cur_lt hc3
    have cS := l01Str_any B g x n cap (some ⟨w3.heap.size, 0, none⟩) 4 4 bendB (w3.alloc (.cells #[.string ⟨#[32]⟩, .string ⟨#[48]⟩, .string ⟨#[32, 49]⟩, .string ⟨#[47]⟩] 9)) (by omega) (by omega) hsR (fun b off e => by cases e; omega) hB hrR hcR
    have cT := l01Str_any B g x n cap (some ⟨w3.heap.size, 0, none⟩) 4 4 bendB (w3.alloc (.cells #[.string ⟨#[32]⟩, .string ⟨#[48]⟩, .string ⟨#[32, 49]⟩, .string ⟨#[47]⟩] 9)).drew (by omega) (by omega) hsR (fun b off e => by cases e; omega) hB (rB_drew hrR) (cur_drew hcR)
    clear hcR hrR hsR
    go_wp2_with (go_at_call 97; refine cS.mono ?_; rintro e w6 ⟨z, rfl, hz, hc6, hg6⟩; have hz9 := bendB_size z hz)
    go_ret
    exact ⟨_, rfl, by rw [ByteArray.size_append]; omega, hc6, hgR.trans hg6⟩
  · go_wp2_with fail
    go_ret
    exact ⟨_, rfl, by omega, hc3, hgC⟩
set_option maxRecDepth 20000 in
set_option maxHeartbeats 4000000 in
theorem l02Any_any (B g : Nat) (x : Option Addr) (n cap : Nat) (w : World) (hB : B ≤ g) (hr : RB B w x n) (hc : Cur w g x n cap) :
    Calls Try.prog 115 #[.pointer (some ⟨g, 0, none⟩), .int .i64 12] w fun e w' => ∃ s : ByteArray, e = .returned (.string s) ∧ s.size ≤ 60 ∧ Cur w' g x n cap ∧ w.grownBy w' (some g) := by
  have hgw := cur_lt hc
  have hrH := Lib.hid hr
  have c1 := l02Draw_any B g x n cap w hB hr hc
  clear hr hc
  go_enter Try.func115, Try.ntmps115
  go_wp2_with fail
  refine c1.mono ?_
  rintro e w1 ⟨s, rfl, hs, hc1, hg1⟩
  have c2 := l01Below_any B g x n cap 20 (by omega) (by omega) w1 hB (rB_grown hrH.out hg1 (by omega) hB) hc1
  clear c1
  go_wp2_with fail
  refine c2.mono ?_
  rintro e w2 ⟨u, rfl, ⟨hu0, hu1⟩, hc2, hg2⟩
  have hgB := hg1.trans hg2
  have c3 := l01Bend_any B g x n cap s hs w2 hB (rB_grown hrH.out hgB (by omega) hB) hc2
  clear c2 hg1 hg2 hc1
  by_cases h0 : u = 0
  · subst h0
    go_wp2_with fail
    refine c3.mono ?_
    rintro e w3 ⟨s3, rfl, hs3, hc3, hg3⟩
    have hgC := hgB.trans hg3
    go_wp2_with fail
    go_ret
    exact ⟨_, rfl, hs3, hc3, hgC⟩
  · by_cases h1 : u = 1
    · subst h1
      clear c3
      have hz : (s ++ (⟨#[101]⟩ : ByteArray)).size ≤ 60 := by
        rw [ByteArray.size_append]
        have : (⟨#[101]⟩ : ByteArray).size = 1 := rfl
        omega
      have hzH := Lib.hid hz
      clear hz
      go_wp2_with fail
      go_ret
      exact ⟨_, rfl, hzH.out, hc2, hgB⟩
    · clear c3
      go_wp2_with fail
      go_ret
      exact ⟨_, rfl, by omega, hc2, hgB⟩
set_option maxRecDepth 20000 in
set_option maxHeartbeats 4000000 in
theorem l10Word_any (B g : Nat) (x : Option Addr) (n cap : Nat) (w : World) (hB : B ≤ g) (hr : RB B w x n) (hc : Cur w g x n cap) :
    Calls Try.prog 88 #[.pointer (some ⟨g, 0, none⟩)] w fun e w' => ∃ s : ByteArray, e = .returned (.string s) ∧ s.size ≤ 60 ∧ Cur w' g x n cap ∧ w.grownBy w' (some g) := by
  have hgw := cur_lt hc
  have hrH := Lib.hid hr
  have c1 := l01Once_any B g x n cap 2 (by omega) (by omega) w hB hr hc
  clear hr hc
  go_enter Try.func88, Try.ntmps88
  go_wp2_with fail
  refine c1.mono ?_
  rintro e w1 ⟨b1, rfl, hc1, hg1⟩
  clear c1
  cases b1
  · have c2 := l01Once_any B g x n cap 8 (by omega) (by omega) w1 hB (rB_grown hrH.out hg1 (by omega) hB) hc1
    go_wp2_with fail
    refine c2.mono ?_
    rintro e w2 ⟨b2, rfl, hc2, hg2⟩
    have hgB := hg1.trans hg2
    clear c2 hg1 hg2 hc1
    cases b2
    · have c3 := l01Below_any B g x n cap 12 (by omega) (by omega) w2 hB (rB_grown hrH.out hgB (by omega) hB) hc2
      go_wp2_with fail
      refine c3.mono ?_
      rintro e w3 ⟨v, rfl, ⟨hv0, hv1⟩, hc3, hg3⟩
      obtain ⟨N, rfl⟩ : ∃ N : Nat, v = (N : Int) := ⟨v.toNat, by omega⟩
      have hgC := hgB.trans hg3
      have c4 := l02Word_any B g x n cap N (by omega) 2 (by omega) (by omega) w3 hB (rB_grown hrH.out hgC (by omega) hB) hc3
      clear c3 hgB hg3 hc2
      go_wp2_with fail
      refine c4.mono ?_
      rintro e w4 ⟨l, rfl, hl, _, hc4, hg4⟩
      have hgD := hgC.trans hg4
      have hz := Lib.hid (show (⟨l.toArray⟩ : ByteArray).size ≤ 60 by simp [ByteArray.size]; omega)
      clear c4
      go_wp2_with fail
      go_ret
      exact ⟨_, rfl, hz.out, hc4, hgD⟩
    · have c3 := l02Any_any B g x n cap w2 hB (rB_grown hrH.out hgB (by omega) hB) hc2
      go_wp2_with fail
      refine c3.mono ?_
      rintro e w3 ⟨s3, rfl, hs3, hc3, hg3⟩
      have hgC := hgB.trans hg3
      clear c3
      go_wp2_with fail
      go_ret
      exact ⟨_, rfl, hs3, hc3, hgC⟩
  · have c2 := l01Below_any B g x n cap 12 (by omega) (by omega) w1 hB (rB_grown hrH.out hg1 (by omega) hB) hc1
    go_wp2_with fail
    refine c2.mono ?_
    rintro e w2 ⟨v, rfl, ⟨hv0, hv1⟩, hc2, hg2⟩
    have hgB := hg1.trans hg2
    obtain ⟨q, hq⟩ : ∃ q : Nat, 1 + v = (q : Int) := ⟨(1 + v).toNat, by omega⟩
    have e0 : IntKind.i64.wrap (1 + v) = (q : Int) := by rw [IntWalk.i64_in _ (by omega)]; exact hq
    have hq1 : 1 ≤ q ∧ q ≤ 12 := by omega
    have e1 : IntKind.i64.wrap ((q : Int) + 1) = (q : Int) + 1 := IntWalk.i64_in _ (by omega)
    have c3 := l01Below_any B g x n cap ((q : Int) + 1) (by omega) (by omega) w2 hB (rB_grown hrH.out hgB (by omega) hB) hc2
    clear c2 hg1 hg2 hc1 hq hv0 hv1
    go_wp2_with fail
    refine c3.mono ?_
    rintro e w3 ⟨v, rfl, ⟨hv0, hv1⟩, hc3, hg3⟩
    obtain ⟨P, rfl⟩ : ∃ N : Nat, v = (N : Int) := ⟨v.toNat, by omega⟩
    have hgC := hgB.trans hg3
    have c4 := l01Below_any B g x n cap (q : Int) (by omega) (by omega) w3 hB (rB_grown hrH.out hgC (by omega) hB) hc3
    clear c3 hgB hg3 hc2
    go_wp2_with fail
    refine c4.mono ?_
    rintro e w4 ⟨v, rfl, ⟨hv2, hv3⟩, hc4, hg4⟩
    obtain ⟨T, rfl⟩ : ∃ N : Nat, v = (N : Int) := ⟨v.toNat, by omega⟩
    have hgD := hgC.trans hg4
    have c5 := l01Below_any B g x n cap 22 (by omega) (by omega) w4 hB (rB_grown hrH.out hgD (by omega) hB) hc4
    clear c4 hgC hg4 hc3
    go_wp2_with fail
    refine c5.mono ?_
    rintro e w5 ⟨v, rfl, ⟨hv4, hv5⟩, hc5, hg5⟩
    obtain ⟨K, rfl⟩ : ∃ N : Nat, v = (N : Int) := ⟨v.toNat, by omega⟩
    have hgE := hgD.trans hg5
    have c6 := l10Mech_any P q T K (by omega) (by omega) (by omega) (by omega) (by omega) w5
    clear c5 hgD hg5 hc4
    go_wp2_with fail
    refine c6.mono ?_
    rintro e w6 ⟨rfl, hb6⟩
    have hc6 := cur_below hc5 hb6 (cur_lt hc5)
    have hgF := grownG_below hgE hb6
    have hsz : (⟨(mechL P q T K).toArray⟩ : ByteArray).size = K := by simp [ByteArray.size, mechL_len]
    obtain ⟨s, hs⟩ : ∃ s, (⟨(mechL P q T K).toArray⟩ : ByteArray) = s := ⟨_, rfl⟩
    rw [hs] at hsz ⊢
    have hs60 : s.size ≤ 22 := by omega
    have c7 := l01Once_any B g x n cap 4 (by omega) (by omega) w6 hB (rB_grown hrH.out hgF (by omega) hB) hc6
    clear c6 hs hsz hb6 hgE hc5
    go_wp2_with fail
    refine c7.mono ?_
    rintro e w7 ⟨b7, rfl, hc7, hg7⟩
    have hgG := hgF.trans hg7
    clear c7 hgF hg7 hc6
    cases b7
    · go_wp2_with fail
      go_ret
      exact ⟨_, rfl, by omega, hc7, hgG⟩
    · by_cases h0 : 0 < s.size
      · have j0 : (0 : Int) < (s.size : Int) := by omega
        have c8 := l01Below_any B g x n cap (s.size : Int) (by omega) (by omega) w7 hB (rB_grown hrH.out hgG (by omega) hB) hc7
        go_wp2_with fail
        refine c8.mono ?_
        rintro e w8 ⟨v, rfl, ⟨hv6, hv7⟩, hc8, hg8⟩
        obtain ⟨k, rfl⟩ : ∃ k : Nat, v = (k : Int) := ⟨v.toNat, by omega⟩
        have hgH := hgG.trans hg8
        have hz1 := size_ext0 s k (by omega)
        have hz3 := size_extT s (k + 1)
        have i1 : IntKind.i64.wrap ((k : Int) + 1) = ((k + 1 : Nat) : Int) := by rw [IntWalk.i64_in _ (by omega)]; omega
        have i2 : (k : Int) ≤ (s.size : Int) := by omega
        have i3 : ((k + 1 : Nat) : Int) ≤ (s.size : Int) := by omega
        have i3' : (k : Int) + 1 ≤ (s.size : Int) := by omega
        have i4 : ((k : Int) + 1).toNat = k + 1 := by omega
        have i5 : (0 : Int) ≤ (k : Int) + 1 := by omega
        have hzA := Lib.hid (show (s.extract 0 k ++ (⟨#[98]⟩ : ByteArray) ++ s.extract (k + 1) s.size).size ≤ 60 by
          rw [ByteArray.size_append, ByteArray.size_append]
          have : (⟨#[98]⟩ : ByteArray).size = 1 := rfl
          omega)
        clear c8 hgG hg8 hc7 j0 h0
        go_wp2_with fail
        go_region
        all_goals
          go_wp2_with fail
          go_ret
          exact ⟨_, rfl, by exact hzA.out, cur_drew hc8, grown_drewG hgH⟩
      · have j0 : ¬ (0 : Int) < (s.size : Int) := by omega
        go_wp2_with fail
        go_ret
        exact ⟨_, rfl, by omega, hc7, hgG⟩
theorem binAb : binB ⟨#[97, 98]⟩ = true := by
  have hw : isWP ⟨#[97, 98]⟩ := ⟨by decide, fun j hj => by
    have : j < 2 := hj
    have : j = 0 ∨ j = 1 := by omega
    rcases this with rfl | rfl <;> exact ⟨by decide, by decide⟩⟩
  unfold binB
  rw [isWB_true hw, Bool.true_and]
  exact wiB_true (fun j hj => by
    have : j < 2 := hj
    have : j = 0 ∨ j = 1 := by omega
    rcases this with rfl | rfl <;> decide)
set_option maxRecDepth 20000 in
set_option maxHeartbeats 1000000 in
theorem MakeBinary_any (B : Nat) (x : Option Addr) (n cap m : Nat) (hm : m ≤ 1000) (w : World) (hB : B ≤ w.heap.size) (hr : RB B w x n) :
    Calls Try.prog 47 #[.slice x n cap, .int .i64 m] w fun e w' => ∃ s : ByteArray, e = .returned (.string s) ∧ binB s = true ∧ s.size ≤ 60 ∧ Below w.heap.size w w' := by
  have c1 := l31New_any B x n cap m hm w hB hr
  go_enter Try.func47, Try.ntmps47
  go_wp2_with fail
  refine c1.mono ?_
  rintro e w1 ⟨g, rfl, hg, hc1, hb1⟩
  have hz1 := hb1.size
  have hr1 := rB_below hr (hb1.mono hB)
  have c2 := l10Word_any B g x n cap w1 (by omega) hr1 hc1
  clear c1
  go_wp2_with fail
  refine c2.mono ?_
  rintro e w2 ⟨s, rfl, hs, hc2, hg2⟩
  have hbw : Below w.heap.size w w2 := hb1.grown hg2 hz1 (fun k hk => by cases hk; exact hg)
  have c3 := fun w => specBin_any s w (by omega)
  cases hbs : binB s
  · simp only [hbs] at c3
    clear c2
    go_wp2_with (go_at_call 89; (with_reducible refine (c3 _).mono ?_); rintro e w3 ⟨rfl, rfl⟩)
    go_ret
    exact ⟨⟨#[97, 98]⟩, rfl, binAb, by decide, hbw⟩
  · simp only [hbs] at c3
    clear c2
    go_wp2_with (go_at_call 89; (with_reducible refine (c3 _).mono ?_); rintro e w3 ⟨rfl, rfl⟩)
    go_ret
    exact ⟨s, rfl, hbs, hs, hbw⟩
end Go.Proofs.Ytilbhingfnjppab
