/- Sums, drawn quotients, letters counted, balanced words: the walks. -/
import Derived.Test.YtilbhingfnjppabBal
import Derived.Test.YtilbhingfnjppabFrP
import Derived.Test.YtilbhingfnjppabCenA
import Derived.Test.YtilbhingfnjppabDrA
import Derived.Test.YtilbhingfnjppabAutosShelf
set_option linter.unusedSimpArgs false
set_option linter.unusedVariables false
namespace Go.Proofs.Ytilbhingfnjppab
open Go.RowKit
theorem sumN_snoc (l : List Nat) (k : Nat) : sumN (l ++ [k]) = sumN l + k := by
  induction l with
  | nil => simp [sumN]
  | cons a l ih => simp only [List.cons_append, sumN, ih]; omega
theorem sumN_next (l : List Nat) (j : Nat) (h : j < l.length) : sumN (l.take (j + 1)) = sumN (l.take j) + l.getD j 0 := by
  rw [List.take_add_one, List.getElem?_eq_getElem h]
  show sumN (l.take j ++ [l[j]]) = _
  rw [sumN_snoc]
  simp [List.getD_eq_getElem?_getD, h]
set_option maxRecDepth 20000 in
set_option maxHeartbeats 1000000 in
theorem sum_any (x : Option Addr) (n cap : Nat) (l : List Nat) (w : World) (h : RI w x n (zN l)) (h20 : n ≤ 20) (h60 : ∀ j, j < n → l.getD j 0 ≤ 60) :
    Calls Try.prog 45 #[.slice x n cap] w fun e w' => e = .returned (.int .i64 (sumN l)) ∧ w = w' := by
  have hl : l.length = n := by have := h.1; rwa [zN_len] at this
  have h60H := Lib.hid h60
  have hlH := Lib.hid hl
  clear h60 hl
  go_enter Try.func45, Try.ntmps45
  go_wp2_with fail
  go_loopw [3, 8] (fun a i wr => ∃ k s : Nat, k ≤ n ∧ i = .int .i64 k ∧ a = .int .i64 s ∧ Hid (sumN (l.take k) = s) ∧ s ≤ 60 * k ∧ w = wr) (fun _ i _ => n - (intOf i).toNat)
  case atStart => exact ⟨0, 0, by omega, rfl, rfl, Lib.hid rfl, by omega, by first | rfl | trivial⟩
  case round =>
    obtain ⟨k, s, hkn, rfl, rfl, hs, hs60, rfl⟩ := hrel
    by_cases hlt : k < n
    · obtain ⟨b, off, rfl, hb, hc⟩ := rI_cell h (by omega)
      have hck := hc k hlt
      rw [zN_at] at hck
      have q2 := h60H.out k hlt
      have hnx := sumN_next l k (by rw [hlH.out]; exact hlt)
      rw [hs.out] at hnx
      obtain ⟨z, hz⟩ : ∃ z, l.getD k 0 = z := ⟨_, rfl⟩
      rw [hz] at hck q2 hnx
      have hnxH := Lib.hid hnx
      clear hz hnx hc
      have hk0 : (0 : Int) ≤ (k : Int) := by omega
      have hk1 : (k : Int) < (n : Int) := by omega
      go_wp2_with fail
      exact ⟨⟨k + 1, s + z, by omega, by go_num, by go_num, hnxH, by omega, by first | rfl | trivial⟩, by simp [intOf]; omega⟩
    · have hz : Hid (s = sumN l) := by show _ = _; rw [← hs.out, List.take_of_length_le (by rw [hlH.out]; omega)]
      have hge : ¬ (k : Int) < (n : Int) := by omega
      go_wp2_with fail
      go_ret
      exact ⟨by rw [hz.out]; rfl, rfl⟩
theorem belowN_any (B g : Nat) (x : Option Addr) (n cap m : Nat) (hm1 : 1 ≤ m) (hm2 : m ≤ 256) (w : World) (hB : B ≤ g) (hr : RB B w x n) (hc : Cur w g x n cap) :
    Calls Try.prog 61 #[.pointer (some ⟨g, 0, none⟩), .int .i64 m] w fun e w' => ∃ v : Nat, e = .returned (.int .i64 v) ∧ v < m ∧ Cur w' g x n cap ∧ w.grownBy w' (some g) := by
  refine (l01Below_any B g x n cap (m : Int) (by omega) (by omega) w hB hr hc).mono ?_
  rintro e w1 ⟨v, rfl, ⟨h0, h1⟩, h2, h3⟩
  exact ⟨v.toNat, by rw [Int.toNat_of_nonneg h0], by omega, h2, h3⟩
theorem ivN_one (v : Nat) : [Value.int .i64 v] = ivN [v] := rfl
theorem own_one (w : World) (B d : Nat) (hB : B ≤ w.heap.size) : (w.alloc (.cells #[.int .i64 (d : Int)] 3)).ownsRow B 3 1 (.slice (some ⟨w.heap.size, 0, none⟩) 1 1) 1 (ivN [d]) :=
  World.ownsRow_lit w #[.int .i64 (d : Int)] 1 hB (by decide) rfl
set_option maxRecDepth 20000 in
set_option maxHeartbeats 4000000 in
theorem l12Draw_any (B g : Nat) (x : Option Addr) (n cap : Nat) (w : World) (hB : B ≤ g) (hr : RB B w x n) (hc : Cur w g x n cap) :
    Calls Try.prog 79 #[.pointer (some ⟨g, 0, none⟩)] w fun e w' => ∃ (d : Nat) (t : List Nat) (q c : Nat), e = .returned (.slice (some ⟨q, 0, none⟩) (t.length + 1) c) ∧ d ≤ 3 ∧ t.length ≤ 5 ∧ (∀ k ∈ t, 1 ≤ k ∧ k ≤ 4) ∧ w'.ownsRow w.heap.size 3 1 (.slice (some ⟨q, 0, none⟩) (t.length + 1) c) (t.length + 1) (ivN (d :: t)) ∧ Cur w' g x n cap ∧ w.grownBy w' (some g) := by
  have hgw := cur_lt hc
  obtain ⟨i0, hi0, hz0, hz1, hz2⟩ := info_parts infoI
  have hC4 := fun w hr hc => belowN_any B g x n cap 4 (by omega) (by omega) w hB hr hc
  have hC6 := fun w hr hc => belowN_any B g x n cap 6 (by omega) (by omega) w hB hr hc
  go_enter Try.func79, Try.ntmps79
  go_upto_region 2 with (go_at_call 61; refine (hC4 _ hr hc).mono ?_; rintro e w1 ⟨d, rfl, hd, hc1, hg1⟩)
  have hz1' := hg1.size
  have hr1 := rB_grown hr hg1 (by omega) hB
  have hcA := cur_below hc1 ((Below.refl _ w1).alloc (Nat.le_refl _) (.cells #[.int .i64 (d : Int)] 3)) (cur_lt hc1)
  have hrA := rB_below hr1 ((Below.refl _ w1).alloc (by omega) (.cells #[.int .i64 (d : Int)] 3))
  have hoA := own_one w1 w.heap.size d hz1'
  obtain ⟨W, hW⟩ : ∃ W, w1.alloc (.cells #[.int .i64 (d : Int)] 3) = W := ⟨_, rfl⟩
  have hgW : w.grownBy W (some g) := by rw [← hW]; exact grown_alloc hg1 _
  have hzW : W.heap.size = w1.heap.size + 1 := by rw [← hW]; simp
  rw [hW] at hcA hrA hoA ⊢
  generalize w1.heap.size = g1 at *
  clear hc hr1 hc1 hW hg1
  go_wp2_with (go_at_call 61; refine (hC6 _ hrA hcA).mono ?_; rintro e w2 ⟨u, rfl, hu, hc2, hg2⟩)
  have hz2' := hg2.size
  have hgA := hgW.trans hg2
  have hoB := hoA.kept hg2 (.inr (by simp [Value.ownBlock]; omega))
  have hrH := Lib.hid hr
  clear hr hC6 hg2 hoA hcA hrA hgW
  go_loopw [3, 4] (fun o c wr => ∃ (k q cp : Nat) (t : List Nat), t.length + k ≤ 5 ∧ c = .int .i64 k ∧ o = .slice (some ⟨q, 0, none⟩) (t.length + 1) cp ∧ Hid (∀ k ∈ t, 1 ≤ k ∧ k ≤ 4) ∧ wr.ownsRow w.heap.size 3 1 (.slice (some ⟨q, 0, none⟩) (t.length + 1) cp) (t.length + 1) (ivN (d :: t)) ∧ Cur wr g x n cap ∧ w.grownBy wr (some g)) (fun _ c _ => (intOf c).toNat)
  case atStart => exact ⟨u, g1, 1, [], by simp; omega, rfl, rfl, Lib.hid (by simp), hoB, hc2, hgA⟩
  case round =>
    clear hoB hgA hc2
    obtain ⟨k, q, cp, t, hk5, rfl, rfl, ht, hown, hc, hg⟩ := hrel
    have hwz := hg.size
    have hqb := (hown.lt q rfl).1
    have hql := (hown.lt q rfl).2
    by_cases h0 : k = 0
    · subst h0
      go_wp2_with fail
      go_ret
      exact ⟨d, t, q, cp, rfl, by omega, by omega, ht.out, hown, hc, hg⟩
    · have hC := hC4 wr (rB_grown hrH.out hg (by omega) hB) hc
      obtain ⟨V, hV⟩ : ∃ V, ivN (d :: t) = V := ⟨_, rfl⟩
      obtain ⟨L, hL⟩ : ∃ L, t.length = L := ⟨_, rfl⟩
      have hVH := Lib.hid hV
      have hLH := Lib.hid hL
      rw [hV, hL] at hown
      rw [hL] at hk5
      simp only [hL]
      clear hV hL
      have i1 : (0 : Int) < (k : Int) := by omega
      have i8 : IntKind.i64.wrap ((k : Int) - 1) = (k : Int) - 1 := IntWalk.i64_in _ (by omega)
      clear hc hC4
      go_wp2_with (first | (go_at_call 61; refine hC.mono ?_; rintro e w6 ⟨y, rfl, hy, hc6, hg6⟩; have hz6 := hg6.size; have hown6 := hown.kept hg6 (.inr (by simp [Value.ownBlock]; omega)); have i7 : IntKind.i64.wrap (1 + (y : Int)) = ((y + 1 : Nat) : Int) := (by rw [IntWalk.i64_in _ (by omega)]; omega)) | (at_builtin; refine wpList_append_lies _ rfl _ _ _ rfl (w.heap.size) 3 i0 _ 1 8 Try.underlying32 hi0 hz0 hz1 hz2 rfl (by decide) (.slice (some ⟨q, 0, none⟩) (L + 1) cp) (L + 1) (V) (by rfl) (hown6.alloc _) ⟨(w6).heap.size, 0, none⟩ 1 1 [.int .i64 ((y + 1 : Nat) : Int)] (by rfl) (by rfl) (World.news_of_block (cs := #[.int .i64 ((y + 1 : Nat) : Int)]) (t := 3) (fr := (0, 0)) (heap_alloc_new (w6) _)) (by simp [Value.oneCell']) (by omega) (by unfold maxLen; omega) (by omega) (by simp; omega) ((w6).heap.size + 1) (by simp) ?_; intro gg cap w1 hown1 hgrow hatg hltg))
      have e1 : V ++ [Value.int .i64 ((y + 1 : Nat) : Int)] = ivN (d :: (t ++ [y + 1])) := by
        rw [← hVH.out]; simp [ivN, iv]
      rw [e1] at hown1
      refine ⟨⟨k - 1, gg, cap, t ++ [y + 1], by simp [hLH.out]; omega, by go_num, by simp [hLH.out], Lib.hid ?_, by simpa [hLH.out] using hown1, cur_far (cur_below hc6 ((Below.refl _ w6).alloc (Nat.le_refl _) _) (cur_lt hc6)) hgrow (by simp [Value.ownBlock]; omega), grown_new (grown_alloc (grown_gg hg hg6) _) hgrow (fun k' hk' => by simp [Value.ownBlock] at hk'; omega)⟩, by simp [intOf]; omega⟩
      intro b hb
      rcases List.mem_append.1 hb with h | h
      · exact ht.out b h
      · rw [List.mem_singleton] at h; subst h; omega
set_option maxRecDepth 20000 in
set_option maxHeartbeats 1000000 in
theorem MakeQ_any (B : Nat) (x : Option Addr) (n cap m : Nat) (hm : m ≤ 1000) (w : World) (hB : B ≤ w.heap.size) (hr : RB B w x n) :
    Calls Try.prog 38 #[.slice x n cap, .int .i64 m] w fun e w' => ∃ (d : Nat) (t : List Nat) (q c : Nat), e = .returned (.slice (some ⟨q, 0, none⟩) (t.length + 1) c) ∧ d ≤ 3 ∧ t.length ≤ 5 ∧ (∀ k ∈ t, 1 ≤ k ∧ k ≤ 4) ∧ w'.ownsRow w.heap.size 3 1 (.slice (some ⟨q, 0, none⟩) (t.length + 1) c) (t.length + 1) (ivN (d :: t)) ∧ Below w.heap.size w w' := by
  go_enter Try.func38, Try.ntmps38
  go_wp2_with (first | (go_at_call 59; refine (l31New_any B x n cap m hm w hB hr).mono ?_; rintro e w1 ⟨g, rfl, hg, hc1, hb1⟩; have hz1 := hb1.size; have hr1 := rB_below hr (hb1.mono hB)) | (go_at_call 79; refine (l12Draw_any B g x n cap w1 (by omega) hr1 hc1).mono ?_; rintro e w2 ⟨d, t, q, c, rfl, hd, ht, htm, hown, hc2, hg2⟩))
  go_ret
  exact ⟨d, t, q, c, rfl, hd, ht, htm, hown.mono hz1, hb1.grown hg2 hz1 (fun k hk => by cases hk; exact hg)⟩
/-! ### Letters counted -/
theorem wB_word : isWP ⟨#[98]⟩ := ⟨by decide, fun j hj => by
  have h1 : j < 1 := hj
  obtain rfl : j = 0 := by omega
  exact ⟨by decide, by decide⟩⟩
theorem isLetterB_any (w : World) :
    Calls Try.prog 80 #[.string ⟨#[98]⟩] w fun e w' => e = .returned (.bool true) ∧ w = w' := by
  have hI := fun w => isWord_any ⟨#[98]⟩ w (by decide)
  rw [isWB_true wB_word] at hI
  have h1 : ((⟨#[98]⟩ : ByteArray).size : Int) = 1 := rfl
  go_enter Try.func80, Try.ntmps80
  go_wp2_with (go_at_call 62; refine (hI _).mono ?_; rintro e w1 ⟨rfl, rfl⟩)
  go_ret
  exact ⟨rfl, rfl⟩
theorem CountB_any (s : ByteArray) (hs : isWP s) (w : World) :
    Calls Try.prog 40 #[.string s, .string ⟨#[98]⟩] w fun e w' => e = .returned (.int .i64 (s.data.toList.count 98 : Nat)) ∧ w = w' := by
  have hI := fun w => isWord_any s w (by have := hs.1; omega)
  rw [isWB_true hs] at hI
  go_enter Try.func40, Try.ntmps40
  go_wp2_with (first | (go_at_call 62; refine (hI _).mono ?_; rintro e w1 ⟨rfl, rfl⟩) | (go_at_call 80; refine (isLetterB_any _).mono ?_; rintro e w1 ⟨rfl, rfl⟩) | (go_at_call 81; refine (Try.strings_Count_one _ 98 _).mono ?_; rintro e w1 ⟨rfl, rfl⟩))
  go_ret
  exact ⟨rfl, rfl⟩
end Go.Proofs.Ytilbhingfnjppab
