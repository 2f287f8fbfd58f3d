/- Several texts in one, in their order: FrE FrF CenB BlA. -/
import Derived.Test.YtilbhingfnjppabBal
import Derived.Test.YtilbhingfnjppabMFra
import Derived.Test.YtilbhingfnjppabCenA
import Derived.Test.YtilbhingfnjppabMDra
import Derived.Test.YtilbhingfnjppabAutosShelf
import Derived.Test.YtilbhingfnjppabBlP
set_option linter.unusedSimpArgs false
set_option linter.unusedVariables false
namespace Go.Proofs.Ytilbhingfnjppab
open Go.RowKit
theorem sumN_snoc (l : List Nat) (k : Nat) : sumN (l ++ [k]) = sumN l + k := by
  induction l with
  | nil => simp [sumN]
  | cons a l ih => simp only [List.cons_append, sumN, ih]; omega
theorem sumN_next (l : List Nat) (j : Nat) (h : j < l.length) : sumN (l.take (j + 1)) = sumN (l.take j) + l.getD j 0 := by
  rw [List.take_add_one, List.getElem?_eq_getElem h]
  show sumN (l.take j ++ [l[j]]) = _
  rw [sumN_snoc]
  simp [List.getD_eq_getElem?_getD, h]
set_option maxRecDepth 20000 in
set_option maxHeartbeats 1000000 in
theorem sum_any (x : Option Addr) (n cap : Nat) (l : List Nat) (w : World) (h : RI w x n (zN l)) (h20 : n ≤ 20) (h60 : ∀ j, j < n → l.getD j 0 ≤ 60) :
    Calls Try.prog 45 #[.slice x n cap] w fun e w' => e = .returned (.int .i64 (sumN l)) ∧ w = w' := by
  have hl : l.length = n := by have := h.1; rwa [zN_len] at this
  have h60H := Lib.hid h60
  have hlH := Lib.hid hl
  clear h60 hl
  go_enter Try.func45, Try.ntmps45
  go_wp2_with fail
  go_loopw [3, 8] (fun a i wr => ∃ k s : Nat, k ≤ n ∧ i = .int .i64 k ∧ a = .int .i64 s ∧ Hid (sumN (l.take k) = s) ∧ s ≤ 60 * k ∧ w = wr) (fun _ i _ => n - (intOf i).toNat)
  case atStart => exact ⟨0, 0, by omega, rfl, rfl, Lib.hid rfl, by omega, by first | rfl | trivial⟩
  case round =>
    obtain ⟨k, s, hkn, rfl, rfl, hs, hs60, rfl⟩ := hrel
    by_cases hlt : k < n
    · obtain ⟨b, off, rfl, hb, hc⟩ := rI_cell h (by omega)
      have hck := hc k hlt
      rw [zN_at] at hck
      have q2 := h60H.out k hlt
      have hnx := sumN_next l k (by rw [hlH.out]; exact hlt)
      rw [hs.out] at hnx
      obtain ⟨z, hz⟩ : ∃ z, l.getD k 0 = z := ⟨_, rfl⟩
      rw [hz] at hck q2 hnx
      have hnxH := Lib.hid hnx
      clear hz hnx hc
      have hk0 : (0 : Int) ≤ (k : Int) := by omega
      have hk1 : (k : Int) < (n : Int) := by omega
      go_wp2_with fail
      exact ⟨⟨k + 1, s + z, by omega, by go_num, by go_num, hnxH, by omega, by first | rfl | trivial⟩, by simp [intOf]; omega⟩
    · have hz : Hid (s = sumN l) := by show _ = _; rw [← hs.out, List.take_of_length_le (by rw [hlH.out]; omega)]
      have hge : ¬ (k : Int) < (n : Int) := by omega
      go_wp2_with fail
      go_ret
      exact ⟨by rw [hz.out]; rfl, rfl⟩
theorem belowN_any (B g : Nat) (x : Option Addr) (n cap m : Nat) (hm1 : 1 ≤ m) (hm2 : m ≤ 256) (w : World) (hB : B ≤ g) (hr : RB B w x n) (hc : Cur w g x n cap) :
    Calls Try.prog 61 #[.pointer (some ⟨g, 0, none⟩), .int .i64 m] w fun e w' => ∃ v : Nat, e = .returned (.int .i64 v) ∧ v < m ∧ Cur w' g x n cap ∧ w.grownBy w' (some g) := by
  refine (l01Below_any B g x n cap (m : Int) (by omega) (by omega) w hB hr hc).mono ?_
  rintro e w1 ⟨v, rfl, ⟨h0, h1⟩, h2, h3⟩
  exact ⟨v.toNat, by rw [Int.toNat_of_nonneg h0], by omega, h2, h3⟩
theorem ivN_one (v : Nat) : [Value.int .i64 v] = ivN [v] := rfl
theorem own_one (w : World) (B d : Nat) (hB : B ≤ w.heap.size) : (w.alloc (.cells #[.int .i64 (d : Int)] 3)).ownsRow B 3 1 (.slice (some ⟨w.heap.size, 0, none⟩) 1 1) 1 (ivN [d]) :=
  World.ownsRow_lit w #[.int .i64 (d : Int)] 1 hB (by decide) rfl
set_option maxRecDepth 20000 in
set_option maxHeartbeats 4000000 in
theorem l12Draw_any (B g : Nat) (x : Option Addr) (n cap : Nat) (w : World) (hB : B ≤ g) (hr : RB B w x n) (hc : Cur w g x n cap) :
    Calls Try.prog 79 #[.pointer (some ⟨g, 0, none⟩)] w fun e w' => ∃ (d : Nat) (t : List Nat) (q c : Nat), e = .returned (.slice (some ⟨q, 0, none⟩) (t.length + 1) c) ∧ d ≤ 3 ∧ t.length ≤ 5 ∧ (∀ k ∈ t, 1 ≤ k ∧ k ≤ 4) ∧ w'.ownsRow w.heap.size 3 1 (.slice (some ⟨q, 0, none⟩) (t.length + 1) c) (t.length + 1) (ivN (d :: t)) ∧ Cur w' g x n cap ∧ w.grownBy w' (some g) := by
  have hgw := cur_lt hc
  obtain ⟨i0, hi0, hz0, hz1, hz2⟩ := info_parts infoI
  have hC4 := fun w hr hc => belowN_any B g x n cap 4 (by omega) (by omega) w hB hr hc
  have hC6 := fun w hr hc => belowN_any B g x n cap 6 (by omega) (by omega) w hB hr hc
  go_enter Try.func79, Try.ntmps79
  go_upto_region 2 with (go_at_call 61; refine (hC4 _ hr hc).mono ?_; rintro e w1 ⟨d, rfl, hd, hc1, hg1⟩)
  have hz1' := hg1.size
  have hr1 := rB_grown hr hg1 (by omega) hB
  have hcA := cur_below hc1 ((Below.refl _ w1).alloc (Nat.le_refl _) (.cells #[.int .i64 (d : Int)] 3)) (cur_lt hc1)
  have hrA := rB_below hr1 ((Below.refl _ w1).alloc (by omega) (.cells #[.int .i64 (d : Int)] 3))
  have hoA := own_one w1 w.heap.size d hz1'
  obtain ⟨W, hW⟩ : ∃ W, w1.alloc (.cells #[.int .i64 (d : Int)] 3) = W := ⟨_, rfl⟩
  have hgW : w.grownBy W (some g) := by rw [← hW]; exact grown_alloc hg1 _
  have hzW : W.heap.size = w1.heap.size + 1 := by rw [← hW]; simp
  rw [hW] at hcA hrA hoA ⊢
  generalize w1.heap.size = g1 at *
  clear hc hr1 hc1 hW hg1
  go_wp2_with (go_at_call 61; refine (hC6 _ hrA hcA).mono ?_; rintro e w2 ⟨u, rfl, hu, hc2, hg2⟩)
  have hz2' := hg2.size
  have hgA := hgW.trans hg2
  have hoB := hoA.kept hg2 (.inr (by simp [Value.ownBlock]; omega))
  have hrH := Lib.hid hr
  clear hr hC6 hg2 hoA hcA hrA hgW
  go_loopw [3, 4] (fun o c wr => ∃ (k q cp : Nat) (t : List Nat), t.length + k ≤ 5 ∧ c = .int .i64 k ∧ o = .slice (some ⟨q, 0, none⟩) (t.length + 1) cp ∧ Hid (∀ k ∈ t, 1 ≤ k ∧ k ≤ 4) ∧ wr.ownsRow w.heap.size 3 1 (.slice (some ⟨q, 0, none⟩) (t.length + 1) cp) (t.length + 1) (ivN (d :: t)) ∧ Cur wr g x n cap ∧ w.grownBy wr (some g)) (fun _ c _ => (intOf c).toNat)
  case atStart => exact ⟨u, g1, 1, [], by simp; omega, rfl, rfl, Lib.hid (by simp), hoB, hc2, hgA⟩
  case round =>
    clear hoB hgA hc2
    obtain ⟨k, q, cp, t, hk5, rfl, rfl, ht, hown, hc, hg⟩ := hrel
    have hwz := hg.size
    have hqb := (hown.lt q rfl).1
    have hql := (hown.lt q rfl).2
    by_cases h0 : k = 0
    · subst h0
      go_wp2_with fail
      go_ret
      exact ⟨d, t, q, cp, rfl, by omega, by omega, ht.out, hown, hc, hg⟩
    · have hC := hC4 wr (rB_grown hrH.out hg (by omega) hB) hc
      obtain ⟨V, hV⟩ : ∃ V, ivN (d :: t) = V := ⟨_, rfl⟩
      obtain ⟨L, hL⟩ : ∃ L, t.length = L := ⟨_, rfl⟩
      have hVH := Lib.hid hV
      have hLH := Lib.hid hL
      rw [hV, hL] at hown
      rw [hL] at hk5
      simp only [hL]
      clear hV hL
      have i1 : (0 : Int) < (k : Int) := by omega
      have i8 : IntKind.i64.wrap ((k : Int) - 1) = (k : Int) - 1 := IntWalk.i64_in _ (by omega)
      clear hc hC4
      go_wp2_with (first | (go_at_call 61; refine hC.mono ?_; rintro e w6 ⟨y, rfl, hy, hc6, hg6⟩; have hz6 := hg6.size; have hown6 := hown.kept hg6 (.inr (by simp [Value.ownBlock]; omega)); have i7 : IntKind.i64.wrap (1 + (y : Int)) = ((y + 1 : Nat) : Int) := (by rw [IntWalk.i64_in _ (by omega)]; omega)) | (at_builtin; refine wpList_append_lies _ rfl _ _ _ rfl (w.heap.size) 3 i0 _ 1 8 Try.underlying32 hi0 hz0 hz1 hz2 rfl (by decide) (.slice (some ⟨q, 0, none⟩) (L + 1) cp) (L + 1) (V) (by rfl) (hown6.alloc _) ⟨(w6).heap.size, 0, none⟩ 1 1 [.int .i64 ((y + 1 : Nat) : Int)] (by rfl) (by rfl) (World.news_of_block (cs := #[.int .i64 ((y + 1 : Nat) : Int)]) (t := 3) (fr := (0, 0)) (heap_alloc_new (w6) _)) (by simp [Value.oneCell']) (by omega) (by unfold maxLen; omega) (by omega) (by simp; omega) ((w6).heap.size + 1) (by simp) ?_; intro gg cap w1 hown1 hgrow hatg hltg))
      have e1 : V ++ [Value.int .i64 ((y + 1 : Nat) : Int)] = ivN (d :: (t ++ [y + 1])) := by
        rw [← hVH.out]; simp [ivN, iv]
      rw [e1] at hown1
      refine ⟨⟨k - 1, gg, cap, t ++ [y + 1], by simp [hLH.out]; omega, by go_num, by simp [hLH.out], Lib.hid ?_, by simpa [hLH.out] using hown1, cur_far (cur_below hc6 ((Below.refl _ w6).alloc (Nat.le_refl _) _) (cur_lt hc6)) hgrow (by simp [Value.ownBlock]; omega), grown_new (grown_alloc (grown_gg hg hg6) _) hgrow (fun k' hk' => by simp [Value.ownBlock] at hk'; omega)⟩, by simp [intOf]; omega⟩
      intro b hb
      rcases List.mem_append.1 hb with h | h
      · exact ht.out b h
      · rw [List.mem_singleton] at h; subst h; omega
set_option maxRecDepth 20000 in
set_option maxHeartbeats 1000000 in
theorem MakeQ_any (B : Nat) (x : Option Addr) (n cap m : Nat) (hm : m ≤ 1000) (w : World) (hB : B ≤ w.heap.size) (hr : RB B w x n) :
    Calls Try.prog 38 #[.slice x n cap, .int .i64 m] w fun e w' => ∃ (d : Nat) (t : List Nat) (q c : Nat), e = .returned (.slice (some ⟨q, 0, none⟩) (t.length + 1) c) ∧ d ≤ 3 ∧ t.length ≤ 5 ∧ (∀ k ∈ t, 1 ≤ k ∧ k ≤ 4) ∧ w'.ownsRow w.heap.size 3 1 (.slice (some ⟨q, 0, none⟩) (t.length + 1) c) (t.length + 1) (ivN (d :: t)) ∧ Below w.heap.size w w' := by
  go_enter Try.func38, Try.ntmps38
  go_wp2_with (first | (go_at_call 59; refine (l31New_any B x n cap m hm w hB hr).mono ?_; rintro e w1 ⟨g, rfl, hg, hc1, hb1⟩; have hz1 := hb1.size; have hr1 := rB_below hr (hb1.mono hB)) | (go_at_call 79; refine (l12Draw_any B g x n cap w1 (by omega) hr1 hc1).mono ?_; rintro e w2 ⟨d, t, q, c, rfl, hd, ht, htm, hown, hc2, hg2⟩))
  go_ret
  exact ⟨d, t, q, c, rfl, hd, ht, htm, hown.mono hz1, hb1.grown hg2 hz1 (fun k hk => by cases hk; exact hg)⟩
/-! ### Letters counted -/
theorem wB_word : isWP ⟨#[98]⟩ := ⟨by decide, fun j hj => by
  have h1 : j < 1 := hj
  obtain rfl : j = 0 := by omega
  exact ⟨by decide, by decide⟩⟩
theorem isLetterB_any (w : World) :
    Calls Try.prog 80 #[.string ⟨#[98]⟩] w fun e w' => e = .returned (.bool true) ∧ w = w' := by
  have hI := fun w => isWord_any ⟨#[98]⟩ w (by decide)
  rw [isWB_true wB_word] at hI
  have h1 : ((⟨#[98]⟩ : ByteArray).size : Int) = 1 := rfl
  go_enter Try.func80, Try.ntmps80
  go_wp2_with (go_at_call 62; refine (hI _).mono ?_; rintro e w1 ⟨rfl, rfl⟩)
  go_ret
  exact ⟨rfl, rfl⟩
theorem CountB_any (s : ByteArray) (hs : isWP s) (w : World) :
    Calls Try.prog 40 #[.string s, .string ⟨#[98]⟩] w fun e w' => e = .returned (.int .i64 (s.data.toList.count 98 : Nat)) ∧ w = w' := by
  have hI := fun w => isWord_any s w (by have := hs.1; omega)
  rw [isWB_true hs] at hI
  go_enter Try.func40, Try.ntmps40
  go_wp2_with (first | (go_at_call 62; refine (hI _).mono ?_; rintro e w1 ⟨rfl, rfl⟩) | (go_at_call 80; refine (isLetterB_any _).mono ?_; rintro e w1 ⟨rfl, rfl⟩) | (go_at_call 81; refine (Try.strings_Count_one _ 98 _).mono ?_; rintro e w1 ⟨rfl, rfl⟩))
  go_ret
  exact ⟨rfl, rfl⟩
end Go.Proofs.Ytilbhingfnjppab

namespace Go.Proofs.Ytilbhingfnjppab
open Go.RowKit
set_option maxRecDepth 20000 in
set_option maxHeartbeats 2000000 in
theorem spread_any (s : ByteArray) (n : Nat) (hs : s.size ≤ 400) (hn1 : 1 ≤ n) (hn : n ≤ s.size) (w : World) :
    Calls Try.prog 82 #[.string s, .int .i64 n] w fun e w' => e = .returned (.tuple #[.int .i64 (loS s n), .int .i64 (hiS s n)]) ∧ w = w' := by
  go_enter Try.func82, Try.ntmps82
  go_wp2_with fail
  go_loopw [6, 7, 8] (fun a b i wr => ∃ k lo hi : Nat, k + n ≤ s.size + 1 ∧ i = .int .i64 k ∧ a = .int .i64 lo ∧ b = .int .i64 hi ∧ Hid (loF s n k = lo) ∧ Hid (hiF s n k = hi) ∧ w = wr) (fun _ _ i _ => s.size + 1 - (intOf i).toNat)
  case atStart => exact ⟨0, n, 0, by omega, rfl, rfl, rfl, Lib.hid rfl, Lib.hid rfl, by first | rfl | trivial⟩
  case round =>
    obtain ⟨k, lo, hi, hkn, rfl, rfl, rfl, hlo, hhi, rfl⟩ := hrel
    by_cases hlt : k + n ≤ s.size
    · have hwc := win_count s n k
      have hl1 : Hid (loF s n (k + 1) = min lo (win s n k)) := by show _ = _; rw [loF, hlo.out]
      have hl2 : Hid (hiF s n (k + 1) = max hi (win s n k)) := by show _ = _; rw [hiF, hhi.out]
      have hle := win_le s n k hlt
      obtain ⟨z, hz⟩ : ∃ z, win s n k = z := ⟨_, rfl⟩
      rw [hz] at hwc hl1 hl2 hle
      have hwc' : Lib.countByte (s.extract k (k + n)).data.toList 98 = z := hwc
      have e1 : IntKind.i64.wrap ((k : Int) + (n : Int)) = ((k + n : Nat) : Int) := by rw [IntWalk.i64_in _ (by omega)]; omega
      have e2 : ((k + n : Nat) : Int) ≤ (s.size : Int) := by omega
      have e3 : ((k + n : Nat) : Int).toNat = k + n := by omega
      clear hwc hz
      go_wp2_with (go_at_call 81; refine (Try.strings_Count_one _ 98 _).mono ?_; rintro e w1 ⟨rfl, rfl⟩; rw [hwc'])
      exact ⟨⟨k + 1, min lo z, max hi z, by omega, by go_num, by (first | (congr 1; omega) | (simp only [Value.int.injEq, true_and]; omega) | (apply vi64; omega)), by (first | (congr 1; omega) | (simp only [Value.int.injEq, true_and]; omega) | (apply vi64; omega)), hl1, hl2, by first | rfl | trivial⟩, by simp [intOf]; omega⟩
    · obtain rfl : k = s.size + 1 - n := by omega
      have e1 : IntKind.i64.wrap (((s.size + 1 - n : Nat) : Int) + (n : Int)) = ((s.size + 1 : Nat) : Int) := by rw [IntWalk.i64_in _ (by omega)]; omega
      go_wp2_with fail
      refine bodyPost_ret (v := .tuple #[.int .i64 (loS s n), .int .i64 (hiS s n)]) (by rw [show loS s n = lo from hlo.out, show hiS s n = hi from hhi.out]; simp [results, Try.results82, go_sem, *]) rfl ⟨rfl, rfl⟩
open Classical in
noncomputable def balB (s : ByteArray) : Bool := binB s && decide (balP s)
theorem balB_no {s : ByteArray} {n : Nat} (h1 : 1 ≤ n) (h2 : n ≤ s.size) (h : ¬ hiS s n ≤ loS s n + 1) : balB s = false := by
  have : ¬ balP s := fun q => h (q n h1 h2)
  simp [balB, this]
theorem balB_yes {s : ByteArray} (hb : binB s = true) (h : balP s) : balB s = true := by simp [balB, hb, h]
set_option maxRecDepth 20000 in
set_option maxHeartbeats 2000000 in
theorem IsBalanced_any (s : ByteArray) (w : World) (hs : s.size ≤ 9223372036854775807) :
    Calls Try.prog 41 #[.string s] w fun e w' => e = .returned (.bool (balB s)) ∧ Below w.heap.size w w' := by
  cases hB : binB s
  · have hf : Hid (balB s = false) := by show _ = _; simp [balB, hB]
    go_enter Try.func41, Try.ntmps41
    go_wp2_with ((go_at_call 57; refine (implBin_any s _ hs).mono ?_; rintro e w1 ⟨rfl, hb1⟩; have hz1 := hb1.size))
    go_ret
    exact ⟨by rw [hf.out]; rfl, by (repeat (first | with_reducible exact Below.refl _ _ | assumption | with_reducible refine Qdrew ?_ | with_reducible refine QdrewN ?_ | ((with_reducible refine Qset ?_ ?_); exact (by ((try simp only [World.size_alloc, World.size_setCell, World.size_drew, size_drewN]); (try dsimp only); omega))) | ((with_reducible refine Qalloc ?_ ?_); exact (by ((try simp only [World.size_alloc, World.size_setCell, World.size_drew, size_drewN]); (try dsimp only); omega))) | refine Qtrans (by assumption) (by ((try simp only [World.size_alloc, World.size_setCell, World.size_drew, size_drewN]); (try dsimp only); omega)) ?_))⟩
  have h400 : s.size ≤ 400 := by
    have : isWB s = true := ((Bool.and_eq_true _ _).mp hB).1
    exact (isW_of this).1
  go_enter Try.func41, Try.ntmps41
  go_wp2_with ((go_at_call 57; refine (implBin_any s _ hs).mono ?_; rintro e w1 ⟨rfl, hb1⟩; have hz1 := hb1.size))
  go_loopw [3] (fun i wr => ∃ n : Nat, 1 ≤ n ∧ n ≤ s.size + 1 ∧ i = .int .i64 n ∧ Hid (∀ m, 1 ≤ m → m < n → hiS s m ≤ loS s m + 1) ∧ Below w.heap.size w wr) (fun i _ => s.size + 1 - (intOf i).toNat)
  case atStart => exact ⟨1, by omega, by omega, rfl, Lib.hid (fun _ h1 h2 => absurd h2 (by omega)), by (repeat (first | with_reducible exact Below.refl _ _ | assumption | with_reducible refine Qdrew ?_ | with_reducible refine QdrewN ?_ | ((with_reducible refine Qset ?_ ?_); exact (by ((try simp only [World.size_alloc, World.size_setCell, World.size_drew, size_drewN]); (try dsimp only); omega))) | ((with_reducible refine Qalloc ?_ ?_); exact (by ((try simp only [World.size_alloc, World.size_setCell, World.size_drew, size_drewN]); (try dsimp only); omega))) | refine Qtrans (by assumption) (by ((try simp only [World.size_alloc, World.size_setCell, World.size_drew, size_drewN]); (try dsimp only); omega)) ?_))⟩
  case round =>
    obtain ⟨n, hn1, hn2, rfl, hall, hbel⟩ := hrel
    by_cases hlt : n ≤ s.size
    · have hS := fun w => spread_any s n h400 hn1 hlt w
      have hlh := lo_hi s n hlt
      have hle := hiS_le s n hlt
      have hnx := Lib.hid (fun (hq : hiS s n ≤ loS s n + 1) => (fun m (h1 : 1 ≤ m) (h2 : m < n + 1) => by
        by_cases e : m = n
        · subst e; exact hq
        · exact hall.out m h1 (by omega) : ∀ m, 1 ≤ m → m < n + 1 → hiS s m ≤ loS s m + 1))
      have hno := Lib.hid (balB_no (s := s) hn1 hlt)
      generalize hiS s n = hi at *
      generalize loS s n = lo at *
      have hlt' : (n : Int) ≤ (s.size : Int) := by omega
      have e1 : IntKind.i64.wrap ((hi : Int) - (lo : Int)) = ((hi - lo : Nat) : Int) := by rw [IntWalk.i64_in _ (by omega)]; omega
      by_cases hd : hi ≤ lo + 1
      · have hall' := Lib.hid (hnx.out hd)
        have e2 : ¬ (1 : Int) < ((hi - lo : Nat) : Int) := by omega
        clear hnx hno
        go_wp2_with (go_at_call 82; refine (hS _).mono ?_; rintro e w1 ⟨rfl, rfl⟩)
        exact ⟨⟨n + 1, by omega, by omega, by go_num, hall', hbel⟩, by simp [intOf]; omega⟩
      · have hf := Lib.hid (hno.out hd)
        have e2 : (1 : Int) < ((hi - lo : Nat) : Int) := by omega
        clear hnx hno
        go_wp2_with (go_at_call 82; refine (hS _).mono ?_; rintro e w1 ⟨rfl, rfl⟩)
        go_ret
        exact ⟨by rw [hf.out]; rfl, by (repeat (first | with_reducible exact Below.refl _ _ | assumption | with_reducible refine Qdrew ?_ | with_reducible refine QdrewN ?_ | ((with_reducible refine Qset ?_ ?_); exact (by ((try simp only [World.size_alloc, World.size_setCell, World.size_drew, size_drewN]); (try dsimp only); omega))) | ((with_reducible refine Qalloc ?_ ?_); exact (by ((try simp only [World.size_alloc, World.size_setCell, World.size_drew, size_drewN]); (try dsimp only); omega))) | refine Qtrans (by assumption) (by ((try simp only [World.size_alloc, World.size_setCell, World.size_drew, size_drewN]); (try dsimp only); omega)) ?_))⟩
    · have hf := Lib.hid (balB_yes (s := s) hB (fun m h1 h2 => hall.out m h1 (by omega)))
      have hlt' : ¬ (n : Int) ≤ (s.size : Int) := by omega
      go_wp2_with fail
      go_ret
      exact ⟨by rw [hf.out]; rfl, hbel⟩
end Go.Proofs.Ytilbhingfnjppab

namespace Go.Proofs.Ytilbhingfnjppab
open Go.RowKit
open Classical in
noncomputable def perB (s : ByteArray) (p : Nat) : Bool := decide (∀ j, j + p < s.size → bt s j = bt s (j + p))
open Classical in
theorem perB_big {s : ByteArray} {p : Nat} (h : s.size ≤ p) : perB s p = true := decide_eq_true (fun j hj => by omega)
open Classical in
theorem perB_all {s : ByteArray} {p : Nat} (h : ∀ j, j + p < s.size → bt s j = bt s (j + p)) : perB s p = true := decide_eq_true h
open Classical in
theorem perB_no {s : ByteArray} {p k : Nat} (hk : k + p < s.size) (h : bt s k ≠ bt s (k + p)) : perB s p = false := decide_eq_false (fun q => h (q k hk))
open Classical in
theorem per_ext (s : ByteArray) (p m : Nat) (hm : m + p = s.size) : ((s.extract 0 m).toList == (s.extract p s.size).toList) = perB s p := by
  have e1 : (s.extract 0 m).toList = s.data.toList.take m := by
    rw [Lib.extract_toList]; simp
  have e2 : (s.extract p s.size).toList = s.data.toList.drop p := by
    rw [Lib.extract_toList, List.take_of_length_le]
    simp
  rw [e1, e2]
  by_cases hall : ∀ j, j + p < s.size → bt s j = bt s (j + p)
  · rw [perB_all hall, beq_iff_eq]
    apply List.ext_getElem?
    intro j
    by_cases hj : j < m
    · rw [List.getElem?_take, if_pos hj, List.getElem?_drop, list_at s j (by omega), list_at s (p + j) (by omega)]
      have := hall j (by omega)
      rw [byteAt_bt s j (by omega), byteAt_bt s (j + p) (by omega)] at this
      rw [Nat.add_comm p j]
      congr 1
      exact UInt8.toNat_inj.1 (by omega)
    · rw [List.getElem?_eq_none (by simp; omega), List.getElem?_eq_none (by simp; omega)]
  · have : perB s p = false := decide_eq_false hall
    rw [this]
    apply Bool.eq_false_iff.2
    intro he
    rw [beq_iff_eq] at he
    apply hall
    intro j hj
    have h1 : (s.data.toList.take m)[j]? = (s.data.toList.drop p)[j]? := by rw [he]
    rw [List.getElem?_take, if_pos (by omega), List.getElem?_drop, list_at s j (by omega), list_at s (p + j) (by omega)] at h1
    rw [byteAt_bt s j (by omega), byteAt_bt s (j + p) hj, Nat.add_comm j p]
    have := Option.some.inj h1
    rw [this]
set_option maxRecDepth 20000 in
set_option maxHeartbeats 1000000 in
theorem isPower_any (s : ByteArray) (p : Nat) (w : World) (hs : s.size ≤ 400) (hp0 : 1 ≤ p) (hp : p ≤ 1000) :
    Calls Try.prog 85 #[.string s, .int .i64 0, .int .i64 s.size, .int .i64 p] w fun e w' => e = .returned (.bool (perB s p)) ∧ Below w.heap.size w w' := by
  have hb : ∀ j (h : j < s.size), ((s[j]'h).toNat : Int) = bt s j := fun j h => bt_eq s j h
  go_enter Try.func85, Try.ntmps85
  go_wp2
  go_loopw [9] (fun i wr => ∃ k : Nat, k ≤ s.size ∧ i = .int .i64 k ∧ Hid (∀ j, j < k → j + p < s.size → bt s j = bt s (j + p)) ∧ Below w.heap.size w wr) (fun i _ => s.size - (intOf i).toNat)
  case atStart => exact ⟨0, by omega, rfl, Lib.hid (fun _ h => absurd h (by omega)), Below.refl _ _⟩
  case round =>
    obtain ⟨k, hk, rfl, hall, hbel⟩ := hrel
    by_cases hlt : k + p < s.size
    · have hlt' : (k : Int) + (p : Int) < (s.size : Int) := by omega
      have hk0 : (0 : Int) ≤ (k : Int) := by omega
      have hk1 : (k : Int) < (s.size : Int) := by omega
      have hkp : (0 : Int) ≤ (k : Int) + (p : Int) := by omega
      by_cases heq : bt s k = bt s (k + p)
      · have hall' := Lib.hid (fun j (h1 : j < k + 1) (h2 : j + p < s.size) => by
          by_cases e : j = k
          · subst e; exact heq
          · exact hall.out j (by omega) h2 : ∀ j, j < k + 1 → j + p < s.size → bt s j = bt s (j + p))
        go_wp2
        go_region
        go_wp2
        go_roundw
        case rel => exact ⟨k + 1, by omega, by go_num, hall', by (repeat (first | with_reducible exact Below.refl _ _ | assumption | with_reducible refine Qdrew ?_ | with_reducible refine QdrewN ?_ | ((with_reducible refine Qset ?_ ?_); exact (by ((try simp only [World.size_alloc, World.size_setCell, World.size_drew, size_drewN]); (try dsimp only); omega))) | ((with_reducible refine Qalloc ?_ ?_); exact (by ((try simp only [World.size_alloc, World.size_setCell, World.size_drew, size_drewN]); (try dsimp only); omega))) | refine Qtrans (by assumption) (by ((try simp only [World.size_alloc, World.size_setCell, World.size_drew, size_drewN]); (try dsimp only); omega)) ?_))⟩
        case measure => (simp [intOf]) <;> omega
      · have hf := Lib.hid (perB_no hlt heq)
        go_wp2
        go_region
        go_wp2
        go_ret
        exact ⟨by rw [hf.out]; rfl, by (repeat (first | with_reducible exact Below.refl _ _ | assumption | with_reducible refine Qdrew ?_ | with_reducible refine QdrewN ?_ | ((with_reducible refine Qset ?_ ?_); exact (by ((try simp only [World.size_alloc, World.size_setCell, World.size_drew, size_drewN]); (try dsimp only); omega))) | ((with_reducible refine Qalloc ?_ ?_); exact (by ((try simp only [World.size_alloc, World.size_setCell, World.size_drew, size_drewN]); (try dsimp only); omega))) | refine Qtrans (by assumption) (by ((try simp only [World.size_alloc, World.size_setCell, World.size_drew, size_drewN]); (try dsimp only); omega)) ?_))⟩
    · have hf := Lib.hid (perB_all (s := s) (p := p) (fun j hj => hall.out j (by omega) hj))
      have hlt' : ¬ (k : Int) + (p : Int) < (s.size : Int) := by omega
      go_wp2
      go_ret
      exact ⟨by rw [hf.out]; rfl, hbel⟩
set_option maxRecDepth 20000 in
set_option maxHeartbeats 1000000 in
theorem fits_any (s : ByteArray) (p bn bw : Nat) (w : World) (hs : s.size ≤ 400) (hp0 : 1 ≤ p) (hp : p ≤ s.size + 1) (hcn : w.cell? ⟨bn, 0, none⟩ = some (.int .i64 s.size)) (hcw : w.cell? ⟨bw, 0, none⟩ = some (.string s)) :
    Calls Try.prog 84 #[.int .i64 p, .pointer (some ⟨bn, 0, none⟩), .pointer (some ⟨bw, 0, none⟩)] w fun e w' => e = .returned (.bool (perB s p)) ∧ Below w.heap.size w w' := by
  by_cases h1 : p = s.size + 1
  · have hf := Lib.hid (perB_big (s := s) (p := p) (by omega))
    have h1' : (p : Int) = (s.size : Int) + 1 := by omega
    clear h1
    rw [h1']
    go_enter Try.func84, Try.ntmps84
    go_wp2
    go_ret
    exact ⟨by rw [hf.out]; rfl, by (repeat (first | with_reducible exact Below.refl _ _ | assumption | with_reducible refine Qdrew ?_ | with_reducible refine QdrewN ?_ | ((with_reducible refine Qset ?_ ?_); exact (by ((try simp only [World.size_alloc, World.size_setCell, World.size_drew, size_drewN]); (try dsimp only); omega))) | ((with_reducible refine Qalloc ?_ ?_); exact (by ((try simp only [World.size_alloc, World.size_setCell, World.size_drew, size_drewN]); (try dsimp only); omega))) | refine Qtrans (by assumption) (by ((try simp only [World.size_alloc, World.size_setCell, World.size_drew, size_drewN]); (try dsimp only); omega)) ?_))⟩
  · have h1' : ¬ (p : Int) = (s.size : Int) + 1 := by omega
    have h2' : ¬ (p : Int) = (s.size : Int) + 2 := by omega
    have h3' : inB (p : Int) 1 (s.size : Int) = true := inB_true.2 (by omega)
    go_enter Try.func84, Try.ntmps84
    go_wp2_with (first | (go_at_call 65; refine (within_any _ _ _ _).mono ?_; rintro e w1 ⟨rfl, rfl⟩) | (go_at_call 85; refine (isPower_any s p _ hs hp0 (by omega)).mono ?_; rintro e w1 ⟨rfl, hb1⟩; have hz1 := hb1.size))
    go_ret
    exact ⟨ret_bool (by rw [beq_false_of_ne h1', beq_false_of_ne h2']; rfl), by (repeat (first | with_reducible exact Below.refl _ _ | assumption | with_reducible refine Qdrew ?_ | with_reducible refine QdrewN ?_ | ((with_reducible refine Qset ?_ ?_); exact (by ((try simp only [World.size_alloc, World.size_setCell, World.size_drew, size_drewN]); (try dsimp only); omega))) | ((with_reducible refine Qalloc ?_ ?_); exact (by ((try simp only [World.size_alloc, World.size_setCell, World.size_drew, size_drewN]); (try dsimp only); omega))) | refine Qtrans (by assumption) (by ((try simp only [World.size_alloc, World.size_setCell, World.size_drew, size_drewN]); (try dsimp only); omega)) ?_))⟩
def cenP (s : ByteArray) (p : Nat) : Prop := Nat.gcd p (s.size + 2 - p) = 1 ∧ perB s p = true ∧ perB s (s.size + 2 - p) = true
def cenQ (s : ByteArray) : Prop := binB s = true ∧ palB s = true ∧ ∃ p, 1 ≤ p ∧ p ≤ s.size + 1 ∧ cenP s p
open Classical in
noncomputable def cenB (s : ByteArray) : Bool := decide (cenQ s)
theorem cen_no {s : ByteArray} (h : ¬ cenQ s) : cenB s = false := by simp [cenB, h]
theorem cen_yes {s : ByteArray} (h : cenQ s) : cenB s = true := by simp [cenB, h]
set_option maxRecDepth 20000 in
set_option maxHeartbeats 2000000 in
theorem implCen_any (s : ByteArray) (w : World) (hs : s.size ≤ 9223372036854775807) :
    Calls Try.prog 42 #[.string s] w fun e w' => e = .returned (.bool (cenB s)) ∧ Below w.heap.size w w' := by
  skip
  cases hB : binB s
  · have hf := Lib.hid (cen_no (s := s) (fun q => by have := q.1; rw [hB] at this; cases this))
    go_enter Try.func42, Try.ntmps42
    go_wp2_with ((go_at_call 57; refine (implBin_any _ _ hs).mono ?_; rintro e w1 ⟨rfl, hb1⟩; have hz1 := hb1.size; simp only [World.size_alloc] at hz1; obtain ⟨hc1, hf1⟩ := bcell hb1; have hl1 := ltW hb1))
    go_ret
    exact ⟨by rw [hf.out]; rfl, by (repeat (first | with_reducible exact Below.refl _ _ | assumption | with_reducible refine Qdrew ?_ | with_reducible refine QdrewN ?_ | ((with_reducible refine Qset ?_ ?_); exact (by ((try simp only [World.size_alloc, World.size_setCell, World.size_drew, size_drewN]); (try dsimp only); omega))) | ((with_reducible refine Qalloc ?_ ?_); exact (by ((try simp only [World.size_alloc, World.size_setCell, World.size_drew, size_drewN]); (try dsimp only); omega))) | refine Qtrans (by assumption) (by ((try simp only [World.size_alloc, World.size_setCell, World.size_drew, size_drewN]); (try dsimp only); omega)) ?_))⟩
  have h400 : s.size ≤ 400 := by
    have : isWB s = true := ((Bool.and_eq_true _ _).mp hB).1
    exact (isW_of this).1
  cases hP : palB s
  · have hf := Lib.hid (cen_no (s := s) (fun q => by have := q.2.1; rw [hP] at this; cases this))
    go_enter Try.func42, Try.ntmps42
    go_wp2_with (first | (go_at_call 57; refine (implBin_any _ _ hs).mono ?_; rintro e w1 ⟨rfl, hb1⟩; have hz1 := hb1.size; simp only [World.size_alloc] at hz1; obtain ⟨hc1, hf1⟩ := bcell hb1; have hl1 := ltW hb1) | (go_at_call 83; refine (isTurned_any _ _ h400).mono ?_; rintro e w2 ⟨rfl, hb2⟩; have hz2 := hb2.size; obtain ⟨hc2, hf2⟩ := bcell hb2; have hl2 := ltW hb2))
    go_ret
    exact ⟨by rw [hf.out]; rfl, by (repeat (first | with_reducible exact Below.refl _ _ | assumption | with_reducible refine Qdrew ?_ | with_reducible refine QdrewN ?_ | ((with_reducible refine Qset ?_ ?_); exact (by ((try simp only [World.size_alloc, World.size_setCell, World.size_drew, size_drewN]); (try dsimp only); omega))) | ((with_reducible refine Qalloc ?_ ?_); exact (by ((try simp only [World.size_alloc, World.size_setCell, World.size_drew, size_drewN]); (try dsimp only); omega))) | refine Qtrans (by assumption) (by ((try simp only [World.size_alloc, World.size_setCell, World.size_drew, size_drewN]); (try dsimp only); omega)) ?_))⟩
  go_enter Try.func42, Try.ntmps42
  go_wp2_with (first | (go_at_call 57; refine (implBin_any _ _ hs).mono ?_; rintro e w1 ⟨rfl, hb1⟩; have hz1 := hb1.size; simp only [World.size_alloc] at hz1; obtain ⟨hc1, hf1⟩ := bcell hb1; have hl1 := ltW hb1) | (go_at_call 83; refine (isTurned_any _ _ h400).mono ?_; rintro e w2 ⟨rfl, hb2⟩; have hz2 := hb2.size; obtain ⟨hc2, hf2⟩ := bcell hb2; have hl2 := ltW hb2))
  have hcw1 : w1.cell? ⟨w.heap.size, 0, none⟩ = some (.string s) := (hc1 _ _ (by simp)).trans (World.cell?_alloc_at _ _ _ _ rfl)
  have hcw2 : w2.cell? ⟨w.heap.size, 0, none⟩ = some (.string s) := (hc2 _ _ (by omega)).trans hcw1
  have hcw0 : (w2.alloc (.cells #[.int .i64 s.size] 3)).cell? ⟨w.heap.size, 0, none⟩ = some (.string s) := (calloc (by omega)).trans hcw2
  have hcn0 : (w2.alloc (.cells #[.int .i64 s.size] 3)).cell? ⟨w2.heap.size, 0, none⟩ = some (.int .i64 s.size) := by simp [go_sem]
  go_loopw [5] (fun i wr => ∃ p : Nat, 1 ≤ p ∧ p ≤ s.size + 2 ∧ i = .int .i64 p ∧ Hid (∀ j, 1 ≤ j → j < p → ¬ cenP s j) ∧ Below w.heap.size w wr ∧ wr.cell? ⟨w.heap.size, 0, none⟩ = some (.string s) ∧ wr.cell? ⟨w2.heap.size, 0, none⟩ = some (.int .i64 s.size) ∧ w.heap.size < wr.heap.size ∧ w2.heap.size < wr.heap.size) (fun i _ => s.size + 2 - (intOf i).toNat)
  case atStart => exact ⟨1, by omega, by omega, rfl, Lib.hid (fun _ h1 h2 => absurd h2 (by omega)), by (repeat (first | with_reducible exact Below.refl _ _ | assumption | with_reducible refine Qdrew ?_ | with_reducible refine QdrewN ?_ | ((with_reducible refine Qset ?_ ?_); exact (by ((try simp only [World.size_alloc, World.size_setCell, World.size_drew, size_drewN]); (try dsimp only); omega))) | ((with_reducible refine Qalloc ?_ ?_); exact (by ((try simp only [World.size_alloc, World.size_setCell, World.size_drew, size_drewN]); (try dsimp only); omega))) | refine Qtrans (by assumption) (by ((try simp only [World.size_alloc, World.size_setCell, World.size_drew, size_drewN]); (try dsimp only); omega)) ?_)), hcw0, hcn0, by ((try simp only [World.size_alloc, World.size_setCell, World.size_drew, size_drewN]); (try dsimp only); omega), by ((try simp only [World.size_alloc, World.size_setCell, World.size_drew, size_drewN]); (try dsimp only); omega)⟩
  case round =>
    obtain ⟨p, hp1, hp2, rfl, hall, hbel, hcw, hcn, hwl, hnl⟩ := hrel
    have hzb := hbel.size
    by_cases hlt : p ≤ s.size + 1
    · have hlt' : (p : Int) ≤ (s.size : Int) + 1 := by omega
      obtain ⟨q, hq⟩ : ∃ q, q + p = s.size + 2 := ⟨s.size + 2 - p, by omega⟩
      have hqi : (s.size : Int) + 2 - (p : Int) = (q : Int) := by omega
      have hqd : s.size + 2 - p = q := by omega
      have hcp : Hid (cenP s p ↔ Nat.gcd p q = 1 ∧ perB s p = true ∧ perB s q = true) := by
        show _ ↔ _; unfold cenP; rw [hqd]
      have hnext := Lib.hid (fun (hn : ¬ cenP s p) => (fun j (h1 : 1 ≤ j) (h2 : j < p + 1) => by
        by_cases e : j = p
        · subst e; exact hn
        · exact hall.out j h1 (by omega) : ∀ j, 1 ≤ j → j < p + 1 → ¬ cenP s j))
      have hyes := Lib.hid (fun (hy : cenP s p) => cen_yes (s := s) ⟨hB, hP, p, hp1, hlt, hy⟩)
      have hpq : p ≤ 1000 ∧ q ≤ 1000 ∧ 1 ≤ q ∧ q ≤ s.size + 1 := by omega
      obtain ⟨hp1000, hq1000, hq1, hqn⟩ := hpq
      clear hqd hq
      by_cases hg : Nat.gcd p q = 1
      · have hg' : ((Nat.gcd p q : Nat) : Int) = 1 := by omega
        cases hpp : perB s p
        · have hall' := Lib.hid (hnext.out (fun c => by have := (hcp.out.1 c).2.1; rw [hpp] at this; cases this))
          clear hcp hnext hyes hg
          go_wp2_with (first | (go_at_call 86; refine (divisor_any _ _ _ (by assumption) (by assumption)).mono ?_; rintro e w3 ⟨rfl, hb3⟩; have hz3 := hb3.size; have hcn3 := (hb3.cell hnl).trans hcn; have hcw3 := (hb3.cell hwl).trans hcw; have hnl3 := Nat.lt_of_lt_of_le hnl hz3; have hwl3 := Nat.lt_of_lt_of_le hwl hz3) | first | (go_at_call 84; refine (fits_any s _ _ _ _ h400 (by assumption) (by assumption) hcn3 hcw3).mono ?_; rintro e w4 ⟨rfl, hb4⟩; have hz4 := hb4.size; have hcn4 := (hb4.cell hnl3).trans hcn3; have hcw4 := (hb4.cell hwl3).trans hcw3) | (go_at_call 84; refine (fits_any s _ _ _ _ h400 (by assumption) (by assumption) hcn4 hcw4).mono ?_; rintro e w5 ⟨rfl, hb5⟩; have hz5 := hb5.size; have hcn5 := (hb5.cell (Nat.lt_of_lt_of_le hnl3 hz4)).trans hcn4; have hcw5 := (hb5.cell (Nat.lt_of_lt_of_le hwl3 hz4)).trans hcw4))
          go_roundw
          case rel => exact ⟨p + 1, by omega, by omega, by go_num, hall', by (repeat (first | with_reducible exact Below.refl _ _ | assumption | with_reducible refine Qdrew ?_ | with_reducible refine QdrewN ?_ | ((with_reducible refine Qset ?_ ?_); exact (by ((try simp only [World.size_alloc, World.size_setCell, World.size_drew, size_drewN]); (try dsimp only); omega))) | ((with_reducible refine Qalloc ?_ ?_); exact (by ((try simp only [World.size_alloc, World.size_setCell, World.size_drew, size_drewN]); (try dsimp only); omega))) | refine Qtrans (by assumption) (by ((try simp only [World.size_alloc, World.size_setCell, World.size_drew, size_drewN]); (try dsimp only); omega)) ?_)), hcw4, hcn4, by omega, by omega⟩
          case measure => (simp [intOf]) <;> omega
        · cases hpq : perB s q
          · have hall' := Lib.hid (hnext.out (fun c => by have := (hcp.out.1 c).2.2; rw [hpq] at this; cases this))
            clear hcp hnext hyes hg
            go_wp2_with (first | (go_at_call 86; refine (divisor_any _ _ _ (by assumption) (by assumption)).mono ?_; rintro e w3 ⟨rfl, hb3⟩; have hz3 := hb3.size; have hcn3 := (hb3.cell hnl).trans hcn; have hcw3 := (hb3.cell hwl).trans hcw; have hnl3 := Nat.lt_of_lt_of_le hnl hz3; have hwl3 := Nat.lt_of_lt_of_le hwl hz3) | first | (go_at_call 84; refine (fits_any s _ _ _ _ h400 (by assumption) (by assumption) hcn3 hcw3).mono ?_; rintro e w4 ⟨rfl, hb4⟩; have hz4 := hb4.size; have hcn4 := (hb4.cell hnl3).trans hcn3; have hcw4 := (hb4.cell hwl3).trans hcw3) | (go_at_call 84; refine (fits_any s _ _ _ _ h400 (by assumption) (by assumption) hcn4 hcw4).mono ?_; rintro e w5 ⟨rfl, hb5⟩; have hz5 := hb5.size; have hcn5 := (hb5.cell (Nat.lt_of_lt_of_le hnl3 hz4)).trans hcn4; have hcw5 := (hb5.cell (Nat.lt_of_lt_of_le hwl3 hz4)).trans hcw4))
            go_roundw
            case rel => exact ⟨p + 1, by omega, by omega, by go_num, hall', by (repeat (first | with_reducible exact Below.refl _ _ | assumption | with_reducible refine Qdrew ?_ | with_reducible refine QdrewN ?_ | ((with_reducible refine Qset ?_ ?_); exact (by ((try simp only [World.size_alloc, World.size_setCell, World.size_drew, size_drewN]); (try dsimp only); omega))) | ((with_reducible refine Qalloc ?_ ?_); exact (by ((try simp only [World.size_alloc, World.size_setCell, World.size_drew, size_drewN]); (try dsimp only); omega))) | refine Qtrans (by assumption) (by ((try simp only [World.size_alloc, World.size_setCell, World.size_drew, size_drewN]); (try dsimp only); omega)) ?_)), hcw5, hcn5, by omega, by omega⟩
            case measure => (simp [intOf]) <;> omega
          · have hf := Lib.hid (hyes.out (hcp.out.2 ⟨hg, hpp, hpq⟩))
            clear hcp hnext hyes hg
            go_wp2_with (first | (go_at_call 86; refine (divisor_any _ _ _ (by assumption) (by assumption)).mono ?_; rintro e w3 ⟨rfl, hb3⟩; have hz3 := hb3.size; have hcn3 := (hb3.cell hnl).trans hcn; have hcw3 := (hb3.cell hwl).trans hcw; have hnl3 := Nat.lt_of_lt_of_le hnl hz3; have hwl3 := Nat.lt_of_lt_of_le hwl hz3) | first | (go_at_call 84; refine (fits_any s _ _ _ _ h400 (by assumption) (by assumption) hcn3 hcw3).mono ?_; rintro e w4 ⟨rfl, hb4⟩; have hz4 := hb4.size; have hcn4 := (hb4.cell hnl3).trans hcn3; have hcw4 := (hb4.cell hwl3).trans hcw3) | (go_at_call 84; refine (fits_any s _ _ _ _ h400 (by assumption) (by assumption) hcn4 hcw4).mono ?_; rintro e w5 ⟨rfl, hb5⟩; have hz5 := hb5.size; have hcn5 := (hb5.cell (Nat.lt_of_lt_of_le hnl3 hz4)).trans hcn4; have hcw5 := (hb5.cell (Nat.lt_of_lt_of_le hwl3 hz4)).trans hcw4))
            go_ret
            exact ⟨by rw [hf.out]; rfl, by (repeat (first | with_reducible exact Below.refl _ _ | assumption | with_reducible refine Qdrew ?_ | with_reducible refine QdrewN ?_ | ((with_reducible refine Qset ?_ ?_); exact (by ((try simp only [World.size_alloc, World.size_setCell, World.size_drew, size_drewN]); (try dsimp only); omega))) | ((with_reducible refine Qalloc ?_ ?_); exact (by ((try simp only [World.size_alloc, World.size_setCell, World.size_drew, size_drewN]); (try dsimp only); omega))) | refine Qtrans (by assumption) (by ((try simp only [World.size_alloc, World.size_setCell, World.size_drew, size_drewN]); (try dsimp only); omega)) ?_))⟩
      · have hg' : ¬ ((Nat.gcd p q : Nat) : Int) = 1 := by omega
        have hall' := Lib.hid (hnext.out (fun c => hg (hcp.out.1 c).1))
        clear hcp hnext hyes hg
        go_wp2_with (first | (go_at_call 86; refine (divisor_any _ _ _ (by assumption) (by assumption)).mono ?_; rintro e w3 ⟨rfl, hb3⟩; have hz3 := hb3.size; have hcn3 := (hb3.cell hnl).trans hcn; have hcw3 := (hb3.cell hwl).trans hcw; have hnl3 := Nat.lt_of_lt_of_le hnl hz3; have hwl3 := Nat.lt_of_lt_of_le hwl hz3) | first | (go_at_call 84; refine (fits_any s _ _ _ _ h400 (by assumption) (by assumption) hcn3 hcw3).mono ?_; rintro e w4 ⟨rfl, hb4⟩; have hz4 := hb4.size; have hcn4 := (hb4.cell hnl3).trans hcn3; have hcw4 := (hb4.cell hwl3).trans hcw3) | (go_at_call 84; refine (fits_any s _ _ _ _ h400 (by assumption) (by assumption) hcn4 hcw4).mono ?_; rintro e w5 ⟨rfl, hb5⟩; have hz5 := hb5.size; have hcn5 := (hb5.cell (Nat.lt_of_lt_of_le hnl3 hz4)).trans hcn4; have hcw5 := (hb5.cell (Nat.lt_of_lt_of_le hwl3 hz4)).trans hcw4))
        go_roundw
        case rel => exact ⟨p + 1, by omega, by omega, by go_num, hall', by (repeat (first | with_reducible exact Below.refl _ _ | assumption | with_reducible refine Qdrew ?_ | with_reducible refine QdrewN ?_ | ((with_reducible refine Qset ?_ ?_); exact (by ((try simp only [World.size_alloc, World.size_setCell, World.size_drew, size_drewN]); (try dsimp only); omega))) | ((with_reducible refine Qalloc ?_ ?_); exact (by ((try simp only [World.size_alloc, World.size_setCell, World.size_drew, size_drewN]); (try dsimp only); omega))) | refine Qtrans (by assumption) (by ((try simp only [World.size_alloc, World.size_setCell, World.size_drew, size_drewN]); (try dsimp only); omega)) ?_)), hcw3, hcn3, by omega, by omega⟩
        case measure => (simp [intOf]) <;> omega
    · have hf := Lib.hid (cen_no (s := s) (fun q => by obtain ⟨_, _, j, h1, h2, h3⟩ := q; exact hall.out j h1 (by omega) h3))
      have hlt' : ¬ (p : Int) ≤ (s.size : Int) + 1 := by omega
      go_wp2
      go_ret
      exact ⟨by rw [hf.out]; rfl, by (repeat (first | with_reducible exact Below.refl _ _ | assumption | with_reducible refine Qdrew ?_ | with_reducible refine QdrewN ?_ | ((with_reducible refine Qset ?_ ?_); exact (by ((try simp only [World.size_alloc, World.size_setCell, World.size_drew, size_drewN]); (try dsimp only); omega))) | ((with_reducible refine Qalloc ?_ ?_); exact (by ((try simp only [World.size_alloc, World.size_setCell, World.size_drew, size_drewN]); (try dsimp only); omega))) | refine Qtrans (by assumption) (by ((try simp only [World.size_alloc, World.size_setCell, World.size_drew, size_drewN]); (try dsimp only); omega)) ?_))⟩
end Go.Proofs.Ytilbhingfnjppab

namespace Go.Proofs.Ytilbhingfnjppab
open Go.RowKit
theorem bin_400 {s : ByteArray} (h : binB s = true) : s.size ≤ 400 := by
  have : isWB s = true := ((Bool.and_eq_true _ _).mp h).1
  exact (isW_of this).1
set_option maxRecDepth 20000 in
set_option maxHeartbeats 2000000 in
theorem SpreadOf_any (s : ByteArray) (n : Nat) (hB : binB s = true) (hn1 : 1 ≤ n) (hn : n ≤ s.size) (w : World) :
    Calls Try.prog 51 #[.string s, .int .i64 n] w fun e w' => e = .returned (.tuple #[.int .i64 (loS s n), .int .i64 (hiS s n)]) ∧ Below w.heap.size w w' := by
  have h400 := bin_400 hB
  have hBin := fun w => implBin_any s w (by omega)
  rw [hB] at hBin
  have hIn : ∀ w, Calls Try.prog 65 #[.int .i64 n, .int .i64 1, .int .i64 400] w fun e w' => e = .returned (.bool true) ∧ w = w' := fun w => by
    have := within_any (n : Int) 1 400 w
    rwa [inB_true.2 (by omega)] at this
  have hS := fun w => spread_any s n h400 hn1 hn w
  generalize loS s n = lo at *
  generalize hiS s n = hi at *
  have h1 : ¬ (s.size : Int) < (n : Int) := by omega
  clear hB
  go_enter Try.func51, Try.ntmps51
  go_wp2_with (first | (go_at_call 57; refine (hBin _).mono ?_; rintro e w1 ⟨rfl, hb1⟩; have hz1 := hb1.size) | (go_at_call 65; (with_reducible refine (hIn _).mono ?_); rintro e w2 ⟨rfl, rfl⟩) | (go_at_call 82; (with_reducible refine (hS _).mono ?_); rintro e w2 ⟨rfl, rfl⟩))
  refine bodyPost_ret (v := .tuple #[.int .i64 lo, .int .i64 hi]) (by simp [results, Try.results51, go_sem, *]) rfl ⟨rfl, by (repeat (first | with_reducible exact Below.refl _ _ | assumption | with_reducible refine Qdrew ?_ | with_reducible refine QdrewN ?_ | ((with_reducible refine Qset ?_ ?_); exact (by ((try simp only [World.size_alloc, World.size_setCell, World.size_drew, size_drewN]); (try dsimp only); omega))) | ((with_reducible refine Qalloc ?_ ?_); exact (by ((try simp only [World.size_alloc, World.size_setCell, World.size_drew, size_drewN]); (try dsimp only); omega))) | refine Qtrans (by assumption) (by ((try simp only [World.size_alloc, World.size_setCell, World.size_drew, size_drewN]); (try dsimp only); omega)) ?_))⟩
/-! ### Mechanical words -/
def mlet (p q st i : Nat) : UInt8 := if (st + i * p) / q < (st + (i + 1) * p) / q then 98 else 97
def mechL (p q st k : Nat) : List UInt8 := (List.range k).map (mlet p q st)
theorem mechL_len (p q st k : Nat) : (mechL p q st k).length = k := by simp [mechL]
theorem mechL_next (p q st k : Nat) : mechL p q st (k + 1) = mechL p q st k ++ [mlet p q st k] := by simp [mechL, List.range_succ]
theorem mechL_at (p q st k j : Nat) (h : j < k) : (mechL p q st k).getD j 0 = mlet p q st j := by simp [mechL, List.getD_eq_getElem?_getD, h]
set_option maxRecDepth 20000 in
set_option maxHeartbeats 4000000 in
theorem Mech_any (p q st n : Nat) (hq1 : 1 ≤ q) (hq : q ≤ 20) (hp : p ≤ q) (hst : st + 1 ≤ q) (hn : n ≤ 40) (w : World) :
    Calls Try.prog 52 #[.int .i64 p, .int .i64 q, .int .i64 st, .int .i64 n] w fun e w' => e = .returned (.tuple #[.string ⟨(mechL p q st n).toArray⟩, .bool true]) ∧ Below w.heap.size w w' := by
  obtain ⟨i0, hi0, hz0, hz1, hz2⟩ := info_parts infoB
  have hI1 : ∀ w, Calls Try.prog 65 #[.int .i64 q, .int .i64 1, .int .i64 100] w fun e w' => e = .returned (.bool true) ∧ w = w' := fun w => by
    have := within_any (q : Int) 1 100 w
    rwa [inB_true.2 (by omega)] at this
  have hI2 : ∀ w, Calls Try.prog 65 #[.int .i64 p, .int .i64 0, .int .i64 q] w fun e w' => e = .returned (.bool true) ∧ w = w' := fun w => by
    have := within_any (p : Int) 0 q w
    rwa [inB_true.2 (by omega)] at this
  have hI3 : ∀ w, Calls Try.prog 65 #[.int .i64 st, .int .i64 0, .int .i64 ((q : Int) - 1)] w fun e w' => e = .returned (.bool true) ∧ w = w' := fun w => by
    have := within_any (st : Int) 0 ((q : Int) - 1) w
    rwa [inB_true.2 (by omega)] at this
  have hI4 : ∀ w, Calls Try.prog 65 #[.int .i64 n, .int .i64 0, .int .i64 400] w fun e w' => e = .returned (.bool true) ∧ w = w' := fun w => by
    have := within_any (n : Int) 0 400 w
    rwa [inB_true.2 (by omega)] at this
  have e0 : IntKind.i64.wrap ((q : Int) - 1) = (q : Int) - 1 := IntWalk.i64_in _ (by omega)
  have hown0 := World.ownsRow_lit (base := w.heap.size) (e := 5) (size := 1) w #[] 0 (Nat.le_refl _) (by decide) rfl
  go_enter Try.func52, Try.ntmps52
  go_wp2_with (first | (go_at_call 65; (with_reducible refine (hI1 _).mono ?_); rintro e w1 ⟨rfl, rfl⟩) | (go_at_call 65; (with_reducible refine (hI2 _).mono ?_); rintro e w1 ⟨rfl, rfl⟩) | (go_at_call 65; (with_reducible refine (hI3 _).mono ?_); rintro e w1 ⟨rfl, rfl⟩) | (go_at_call 65; (with_reducible refine (hI4 _).mono ?_); rintro e w1 ⟨rfl, rfl⟩))
  clear hI1 hI2 hI3 hI4
  go_loopw [10, 35] (fun o i wr => ∃ k g c : Nat, k ≤ n ∧ i = .int .i64 k ∧ o = .slice (some ⟨g, 0, none⟩) k c ∧ wr.ownsRow w.heap.size 5 1 (.slice (some ⟨g, 0, none⟩) k c) k (bv (mechL p q st k)) ∧ w.heap.size ≤ wr.heap.size ∧ Below w.heap.size w wr) (fun _ i _ => n - (intOf i).toNat)
  case atStart => exact ⟨0, w.heap.size, 0, by omega, rfl, rfl, hown0, by ((try simp only [World.size_alloc, World.size_setCell, World.size_drew, size_drewN]); (try dsimp only); omega), by (repeat (first | with_reducible exact Below.refl _ _ | assumption | with_reducible refine Qdrew ?_ | with_reducible refine QdrewN ?_ | ((with_reducible refine Qset ?_ ?_); exact (by ((try simp only [World.size_alloc, World.size_setCell, World.size_drew, size_drewN]); (try dsimp only); omega))) | ((with_reducible refine Qalloc ?_ ?_); exact (by ((try simp only [World.size_alloc, World.size_setCell, World.size_drew, size_drewN]); (try dsimp only); omega))) | refine Qtrans (by assumption) (by ((try simp only [World.size_alloc, World.size_setCell, World.size_drew, size_drewN]); (try dsimp only); omega)) ?_))⟩
  case round =>
    clear hown0
    obtain ⟨k, g, c, hk, rfl, rfl, hown, hz, hbel⟩ := hrel
    by_cases hlt : k < n
    · have j1 : (k : Int) < (n : Int) := by omega
      have hnx := mechL_next p q st k
      have m1 : (k + 1) * p ≤ 40 * 20 := Nat.mul_le_mul (by omega) (by omega)
      have m2 : k * p ≤ 40 * 20 := Nat.mul_le_mul (by omega) (by omega)
      have a2 : IntKind.i64.wrap (((k : Int) + 1) * (p : Int)) = (((k + 1) * p : Nat) : Int) := by
        rw [show ((k : Int) + 1) * (p : Int) = (((k + 1) * p : Nat) : Int) by push_cast; rfl, IntWalk.i64_in _ (by omega)]
      have a3 : IntKind.i64.wrap ((k : Int) * (p : Int)) = ((k * p : Nat) : Int) := by rw [← Int.natCast_mul, IntWalk.i64_in _ (by omega)]
      unfold mlet at hnx
      generalize (k + 1) * p = X at *
      generalize k * p = Y at *
      obtain ⟨A, hA⟩ : ∃ A, st + X = A := ⟨_, rfl⟩
      obtain ⟨D, hD⟩ : ∃ D, st + Y = D := ⟨_, rfl⟩
      have a4 : IntKind.i64.wrap ((st : Int) + (X : Int)) = (A : Int) := by rw [IntWalk.i64_in _ (by omega)]; omega
      have a5 : IntKind.i64.wrap ((st : Int) + (Y : Int)) = (D : Int) := by rw [IntWalk.i64_in _ (by omega)]; omega
      have hA9 : A ≤ 900 := by omega
      have hD9 : D ≤ 900 := by omega
      rw [hA, hD] at hnx
      clear hA hD m1 m2
      have a6 : (A : Int).tdiv (q : Int) = ((A / q : Nat) : Int) := (Int.ofNat_tdiv _ _).symm
      have a7 : (D : Int).tdiv (q : Int) = ((D / q : Nat) : Int) := (Int.ofNat_tdiv _ _).symm
      have a6' : (A : Int) / (q : Int) = ((A / q : Nat) : Int) := (Int.natCast_ediv _ _).symm
      have a7' : (D : Int) / (q : Int) = ((D / q : Nat) : Int) := (Int.natCast_ediv _ _).symm
      have b6 : A / q ≤ 900 := Nat.le_trans (Nat.div_le_self _ _) hA9
      have b7 : D / q ≤ 900 := Nat.le_trans (Nat.div_le_self _ _) hD9
      generalize A / q = U at *
      generalize D / q = V at *
      have a8 : IntKind.i64.wrap (U : Int) = (U : Int) := IntWalk.i64_in _ (by omega)
      have a9 : IntKind.i64.wrap (V : Int) = (V : Int) := IntWalk.i64_in _ (by omega)
      have q0 : ¬ (q : Int) = 0 := by omega
      have q1 : ((q : Int) == 0) = false := by simpa using q0
      have hl := mechL_len p q st k
      generalize mechL p q st k = acc at *
      by_cases huv : V < U
      · have c1 : (V : Int) < (U : Int) := by omega
        rw [if_pos huv] at hnx
        have hnxH := Lib.hid hnx
        have hlH := Lib.hid hl
        clear hnx huv hl
        go_wp2_with fail
        go_region
        all_goals
          go_wp2_with (at_builtin; refine wpList_append_lies _ rfl _ _ _ rfl (w.heap.size) 5 i0 _ 1 1 Try.underlying22 hi0 hz0 hz1 hz2 rfl (by decide) (.slice (some ⟨g, 0, none⟩) k c) (k) (bv acc) (by rfl) (hown.alloc _) ⟨(wr).heap.size, 0, none⟩ 1 1 [.int .u8 98] (by rfl) (by rfl) (World.news_of_block (cs := #[.int .u8 98]) (t := 5) (fr := (0, 0)) (heap_alloc_new (wr) _)) (by simp [Value.oneCell']) (by omega) (by unfold maxLen; omega) (by omega) (by simp; omega) ((wr).heap.size + 1) (by simp) ?_; intro gg cap w1 hown1 hgrow hatg hltg)
          refine ⟨⟨k + 1, gg, cap, by omega, by go_num, rfl, ?_, by have := size_appD hgrow; omega, below_appD hbel hz hown hgrow⟩, by simp [intOf]; omega⟩
          rw [hnxH.out]
          simpa [bv] using hown1
      · have c1 : ¬ (V : Int) < (U : Int) := by omega
        rw [if_neg huv] at hnx
        have hnxH := Lib.hid hnx
        have hlH := Lib.hid hl
        clear hnx huv hl
        go_wp2_with fail
        go_region
        all_goals
          go_wp2_with (at_builtin; refine wpList_append_lies _ rfl _ _ _ rfl (w.heap.size) 5 i0 _ 1 1 Try.underlying22 hi0 hz0 hz1 hz2 rfl (by decide) (.slice (some ⟨g, 0, none⟩) k c) (k) (bv acc) (by rfl) (hown.alloc _) ⟨(wr).heap.size, 0, none⟩ 1 1 [.int .u8 97] (by rfl) (by rfl) (World.news_of_block (cs := #[.int .u8 97]) (t := 5) (fr := (0, 0)) (heap_alloc_new (wr) _)) (by simp [Value.oneCell']) (by omega) (by unfold maxLen; omega) (by omega) (by simp; omega) ((wr).heap.size + 1) (by simp) ?_; intro gg cap w1 hown1 hgrow hatg hltg)
          refine ⟨⟨k + 1, gg, cap, by omega, by go_num, rfl, ?_, by have := size_appD hgrow; omega, below_appD hbel hz hown hgrow⟩, by simp [intOf]; omega⟩
          rw [hnxH.out]
          simpa [bv] using hown1
    · obtain rfl : k = n := by omega
      have j1 : ¬ (k : Int) < (k : Int) := by omega
      have hcv := own_string (l := mechL p q st k) (by rw [mechL_len]; exact hown)
      rw [mechL_len] at hcv
      go_wp2_with fail
      refine bodyPost_ret (v := .tuple #[.string ⟨(mechL p q st k).toArray⟩, .bool true]) (by simp [results, Try.results52, go_sem, *]) rfl ⟨rfl, hbel⟩
end Go.Proofs.Ytilbhingfnjppab
