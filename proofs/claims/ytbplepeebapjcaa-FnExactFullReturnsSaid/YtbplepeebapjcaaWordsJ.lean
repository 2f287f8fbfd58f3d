/- Full returns: the walks and the law. -/
import Derived.Test.YtbplepeebapjcaaWordsI
import Derived.Test.YtbplepeebapjcaaWordsH
set_option linter.unusedSimpArgs false
set_option linter.unusedVariables false
namespace Go.Proofs.Ytbplepeebapjcaa
open Go.RowKit
theorem R_le (s f : ByteArray) : ∀ z ∈ dd (R s f), z.size ≤ s.size := by
  intro z hz
  have hz' := (mem_dd _ _).1 hz
  obtain ⟨i, _, rfl⟩ := List.mem_map.1 hz'
  simp [ByteArray.size_extract]; omega
def fu (f : ByteArray) (D : List ByteArray) (k : Nat) : List ByteArray := (D.take k).map (fun z => z ++ f)
theorem fu_next (f : ByteArray) (D : List ByteArray) (k : Nat) (h : k < D.length) : fu f D (k + 1) = fu f D k ++ [D.getD k ByteArray.empty ++ f] := by
  unfold fu; rw [take_next D k ByteArray.empty h]; simp
theorem fu_len (f : ByteArray) (D : List ByteArray) (k : Nat) (h : k ≤ D.length) : (fu f D k).length = k := by simp [fu]; omega
theorem size_getD {D : List ByteArray} {N : Nat} (h : ∀ z ∈ D, z.size ≤ N) (k : Nat) : (D.getD k ByteArray.empty).size ≤ N := by
  by_cases hk : k < D.length
  · exact h _ (getD_mem hk)
  · rw [List.getD_eq_getElem?_getD, List.getElem?_eq_none (by omega)]; exact Nat.zero_le _
theorem ne_app2 {g b gg n cap H : Nat} (hne : b ≠ g) (hgl : b < H) (hat : (Value.slice (some ⟨g, 0, none⟩) n cap).ownBlock = some gg ∨ gg = H + 1) : b ≠ gg := by
  rcases hat with e | e
  · have : g = gg := by simpa [Value.ownBlock] using e
    omega
  · omega
set_option maxHeartbeats 2000000 in
theorem specFull_any (s f : ByteArray) (w : World) (hs : s.size ≤ 1048576) (hf : f.size ≤ 1048576) :
    Calls Try.prog 28 #[.string s, .string f] w fun e w' => ∃ x cap, e = .returned (.slice x (dd (R s f)).length cap) ∧ w'.ownsRow w.heap.size 9 1 (.slice x (dd (R s f)).length cap) (dd (R s f)).length (sv (fu f (dd (R s f)) (dd (R s f)).length)) ∧ Below w.heap.size w w' := by
  obtain ⟨i0, hi0, hz0, hz1, hz2⟩ := info_parts infoS
  have hrc := fun w => specReturns_any s f w (by omega) (by omega)
  have hn1 : (dd (R s f)).length ≤ 401 := Nat.le_trans (ddl _) (R_len s f (by omega))
  have hsz := R_le s f
  unfold RowS at hrc
  obtain ⟨D, hD⟩ : ∃ D, dd (R s f) = D := ⟨_, rfl⟩
  rw [hD] at hrc hn1 hsz ⊢
  obtain ⟨n, hn⟩ : ∃ n, D.length = n := ⟨_, rfl⟩
  rw [hn] at hrc hn1 ⊢
  have hn' := Lib.hid hn
  have hDs := Lib.hid (show ∀ z ∈ D, z.size ≤ maxLen from fun z hz => by have := hsz z hz; unfold maxLen; omega)
  have hsz' := Lib.hid hsz
  clear hD hn hsz
  go_enter Try.func28, Try.ntmps28
  go_wp2_with (go_at_call 24; refine (hrc _).mono ?_; rintro e wA ⟨xr, cr, rfl, hrow, hbA⟩)
  have hst0 := rowS_strs' hrow hDs.out
  have hx : ∀ b off, xr = some ⟨b, off, none⟩ → w.heap.size < b ∧ b < wA.heap.size := fun b off e => by
    subst e; have := hrow.lt b rfl; simp at this; omega
  have hx' := Lib.hid hx
  have hownA := own_below (World.ownsRow_lit (base := w.heap.size) (e := 9) (size := 1) w #[] 0 (Nat.le_refl _) (by decide) rfl) hbA
  have hbA' : Below w.heap.size w wA := Qtrans hbA (by simp) ((Below.refl _ w).alloc (Nat.le_refl _) _)
  have hzA := hbA'.size
  clear hrow hx
  go_loopw [5, 13] (fun out i wr => ∃ k g cap : Nat, k ≤ n ∧ i = .int .i64 k ∧ out = .slice (some ⟨g, 0, none⟩) k cap ∧ wr.ownsRow w.heap.size 9 1 (.slice (some ⟨g, 0, none⟩) k cap) k (sv (fu f D k)) ∧ Hid (∀ b off, xr = some ⟨b, off, none⟩ → b ≠ g) ∧ IsStrs wr xr n cr D ∧ wA.heap.size ≤ wr.heap.size ∧ Below w.heap.size w wr) (fun _ i _ => n - (intOf i).toNat)
  case atStart => exact ⟨0, w.heap.size, 0, by omega, rfl, rfl, hownA, Lib.hid (fun b off e => by have := hx'.out b off e; omega), hst0, Nat.le_refl _, hbA'⟩
  case round =>
    clear hownA hst0
    obtain ⟨k, g, cap, hk, rfl, rfl, hown, hne, hst, hz, hbel⟩ := hrel
    by_cases hlt : k < n
    · obtain ⟨b, off, rfl, hb, hcl⟩ := isStrs_cell hst (by omega)
      have hck := hcl k hlt
      have hnext := fu_next f D k (by rw [hn'.out]; exact hlt)
      have hzs := size_getD hsz'.out k
      obtain ⟨z, hzz⟩ : ∃ z, D.getD k ByteArray.empty = z := ⟨_, rfl⟩
      rw [hzz] at hck hnext hzs
      have hnext' := Lib.hid hnext
      have hrun := fun w => run_string_add_sum (P := Try.prog) w z f (by omega)
      have hk0 : (0 : Int) ≤ (k : Int) := by omega
      have hk1 : (k : Int) < (n : Int) := by omega
      clear hzz hcl hnext
      go_wp2_with (at_builtin; refine wpList_append_lies _ rfl _ _ _ rfl (w.heap.size) 9 i0 _ 1 16 Try.underlying22 hi0 hz0 hz1 hz2 rfl (by decide) (.slice (some ⟨g, 0, none⟩) k cap) (k) (sv (fu f D k)) (by rfl) (hown.alloc _) ⟨(wr).heap.size, 0, none⟩ 1 1 [.string (z ++ f)] (by rfl) (by rfl) (World.news_of_block (cs := #[.string (z ++ f)]) (t := 9) (fr := (0, 0)) (heap_alloc_new (wr) _)) (by simp [Value.oneCell']) (by omega) (by unfold maxLen; omega) (by omega) (by simp; omega) ((wr).heap.size + 1) (by simp) ?_; intro gg cap w1 hown1 hgrow hatg hltg)
      go_roundw
      case rel => exact ⟨k + 1, gg, _, by omega, by go_num, rfl, by rw [hnext'.out, sv_snoc]; exact hown1, Lib.hid (fun b' off' e => ne_app2 (hne.out b' off' e) (by have := hx'.out b' off' e; omega) hatg), isStrs_grow hst (fun b' off' e => hne.out b' off' e) hgrow, by have := size_app hgrow; omega, below_app hbel (by omega) hown hgrow⟩
      case measure => (simp [intOf]) <;> omega
    · obtain rfl : n = k := by omega
      have hlt' : ¬ (n : Int) < (n : Int) := by omega
      go_wp2
      go_ret
      exact ⟨_, cap, rfl, hown, hbel⟩
set_option maxHeartbeats 2000000 in
theorem implFull_any (s f : ByteArray) (w : World) (hs : s.size ≤ 1048576) (hf : f.size ≤ 1048576) :
    Calls Try.prog 29 #[.string s, .string f] w fun e w' => ∃ x cap, e = .returned (.slice x (dd (R s f)).length cap) ∧ w'.ownsRow w.heap.size 9 1 (.slice x (dd (R s f)).length cap) (dd (R s f)).length (sv (fu f (dd (R s f)) (dd (R s f)).length)) ∧ Below w.heap.size w w' := by
  obtain ⟨i0, hi0, hz0, hz1, hz2⟩ := info_parts infoS
  have hrc := fun w => implReturns_any s f w (by omega) (by omega)
  have hn1 : (dd (R s f)).length ≤ 401 := Nat.le_trans (ddl _) (R_len s f (by omega))
  have hsz := R_le s f
  unfold RowS at hrc
  obtain ⟨D, hD⟩ : ∃ D, dd (R s f) = D := ⟨_, rfl⟩
  rw [hD] at hrc hn1 hsz ⊢
  obtain ⟨n, hn⟩ : ∃ n, D.length = n := ⟨_, rfl⟩
  rw [hn] at hrc hn1 ⊢
  have hn' := Lib.hid hn
  have hDs := Lib.hid (show ∀ z ∈ D, z.size ≤ maxLen from fun z hz => by have := hsz z hz; unfold maxLen; omega)
  have hsz' := Lib.hid hsz
  clear hD hn hsz
  go_enter Try.func29, Try.ntmps29
  go_wp2_with (go_at_call 25; refine (hrc _).mono ?_; rintro e wA ⟨xr, cr, rfl, hrow, hbA⟩)
  have hst0 := rowS_strs' hrow hDs.out
  have hx : ∀ b off, xr = some ⟨b, off, none⟩ → w.heap.size < b ∧ b < wA.heap.size := fun b off e => by
    subst e; have := hrow.lt b rfl; simp at this; omega
  have hx' := Lib.hid hx
  have hownA := own_below (World.ownsRow_lit (base := w.heap.size) (e := 9) (size := 1) w #[] 0 (Nat.le_refl _) (by decide) rfl) hbA
  have hbA' : Below w.heap.size w wA := Qtrans hbA (by simp) ((Below.refl _ w).alloc (Nat.le_refl _) _)
  have hzA := hbA'.size
  clear hrow hx
  go_loopw [5, 13] (fun out i wr => ∃ k g cap : Nat, k ≤ n ∧ i = .int .i64 k ∧ out = .slice (some ⟨g, 0, none⟩) k cap ∧ wr.ownsRow w.heap.size 9 1 (.slice (some ⟨g, 0, none⟩) k cap) k (sv (fu f D k)) ∧ Hid (∀ b off, xr = some ⟨b, off, none⟩ → b ≠ g) ∧ IsStrs wr xr n cr D ∧ wA.heap.size ≤ wr.heap.size ∧ Below w.heap.size w wr) (fun _ i _ => n - (intOf i).toNat)
  case atStart => exact ⟨0, w.heap.size, 0, by omega, rfl, rfl, hownA, Lib.hid (fun b off e => by have := hx'.out b off e; omega), hst0, Nat.le_refl _, hbA'⟩
  case round =>
    clear hownA hst0
    obtain ⟨k, g, cap, hk, rfl, rfl, hown, hne, hst, hz, hbel⟩ := hrel
    by_cases hlt : k < n
    · obtain ⟨b, off, rfl, hb, hcl⟩ := isStrs_cell hst (by omega)
      have hck := hcl k hlt
      have hnext := fu_next f D k (by rw [hn'.out]; exact hlt)
      have hzs := size_getD hsz'.out k
      obtain ⟨z, hzz⟩ : ∃ z, D.getD k ByteArray.empty = z := ⟨_, rfl⟩
      rw [hzz] at hck hnext hzs
      have hnext' := Lib.hid hnext
      have hrun := fun w => run_string_add_sum (P := Try.prog) w z f (by omega)
      have hk0 : (0 : Int) ≤ (k : Int) := by omega
      have hk1 : (k : Int) < (n : Int) := by omega
      clear hzz hcl hnext
      go_wp2_with (at_builtin; refine wpList_append_lies _ rfl _ _ _ rfl (w.heap.size) 9 i0 _ 1 16 Try.underlying22 hi0 hz0 hz1 hz2 rfl (by decide) (.slice (some ⟨g, 0, none⟩) k cap) (k) (sv (fu f D k)) (by rfl) (hown.alloc _) ⟨(wr).heap.size, 0, none⟩ 1 1 [.string (z ++ f)] (by rfl) (by rfl) (World.news_of_block (cs := #[.string (z ++ f)]) (t := 9) (fr := (0, 0)) (heap_alloc_new (wr) _)) (by simp [Value.oneCell']) (by omega) (by unfold maxLen; omega) (by omega) (by simp; omega) ((wr).heap.size + 1) (by simp) ?_; intro gg cap w1 hown1 hgrow hatg hltg)
      go_roundw
      case rel => exact ⟨k + 1, gg, _, by omega, by go_num, rfl, by rw [hnext'.out, sv_snoc]; exact hown1, Lib.hid (fun b' off' e => ne_app2 (hne.out b' off' e) (by have := hx'.out b' off' e; omega) hatg), isStrs_grow hst (fun b' off' e => hne.out b' off' e) hgrow, by have := size_app hgrow; omega, below_app hbel (by omega) hown hgrow⟩
      case measure => (simp [intOf]) <;> omega
    · obtain rfl : n = k := by omega
      have hlt' : ¬ (n : Int) < (n : Int) := by omega
      go_wp2
      go_ret
      exact ⟨_, cap, rfl, hown, hbel⟩
set_option maxHeartbeats 2000000 in
theorem FullReturns_law (s : ByteArray) (hs : s.size ≤ maxLen) (f : ByteArray) (hf : f.size ≤ maxLen) (w : World) :
    Calls Try.prog 7 #[.string s, .string f] w fun e w' => e = .returned (.bool true) ∧ Below w.heap.size w w' := by
  have hs' : s.size ≤ 9223372036854775807 := hs
  have hf' : f.size ≤ 9223372036854775807 := hf
  clear hs hf
  by_cases hbig : (1048576 : Int) < (s.size : Int)
  · go_enter Try.func7, Try.ntmps7
    go_wp2
    go_ret
    exact ⟨rfl, by (repeat (first | with_reducible exact Below.refl _ _ | assumption | with_reducible refine Qdrew ?_ | with_reducible refine QdrewN ?_ | ((with_reducible refine Qset ?_ ?_); exact (by ((try simp only [World.size_alloc, World.size_setCell, World.size_drew, size_drewN]); (try dsimp only); omega))) | ((with_reducible refine Qalloc ?_ ?_); exact (by ((try simp only [World.size_alloc, World.size_setCell, World.size_drew, size_drewN]); (try dsimp only); omega))) | refine Qtrans (by assumption) (by ((try simp only [World.size_alloc, World.size_setCell, World.size_drew, size_drewN]); (try dsimp only); omega)) ?_))⟩
  · by_cases hbig2 : (1048576 : Int) < (f.size : Int)
    · go_enter Try.func7, Try.ntmps7
      go_wp2
      go_ret
      exact ⟨rfl, by (repeat (first | with_reducible exact Below.refl _ _ | assumption | with_reducible refine Qdrew ?_ | with_reducible refine QdrewN ?_ | ((with_reducible refine Qset ?_ ?_); exact (by ((try simp only [World.size_alloc, World.size_setCell, World.size_drew, size_drewN]); (try dsimp only); omega))) | ((with_reducible refine Qalloc ?_ ?_); exact (by ((try simp only [World.size_alloc, World.size_setCell, World.size_drew, size_drewN]); (try dsimp only); omega))) | refine Qtrans (by assumption) (by ((try simp only [World.size_alloc, World.size_setCell, World.size_drew, size_drewN]); (try dsimp only); omega)) ?_))⟩
    have hspec := fun w => specFull_any s f w (by omega) (by omega)
    have himpl := fun w => implFull_any s f w (by omega) (by omega)
    have hn1 : (dd (R s f)).length ≤ 401 := Nat.le_trans (ddl _) (R_len s f hs')
    have hDs : ∀ z ∈ fu f (dd (R s f)) (dd (R s f)).length, z.size ≤ maxLen := by
      intro z hz
      obtain ⟨y, hy, rfl⟩ := List.mem_map.1 hz
      have := R_le s f y (List.mem_of_mem_take hy)
      rw [ByteArray.size_append]; unfold maxLen; omega
    have hfl := fu_len f (dd (R s f)) (dd (R s f)).length (Nat.le_refl _)
    obtain ⟨D, hD⟩ : ∃ D, fu f (dd (R s f)) (dd (R s f)).length = D := ⟨_, rfl⟩
    obtain ⟨n, hn⟩ : ∃ n, (dd (R s f)).length = n := ⟨_, rfl⟩
    rw [hD] at hspec himpl hDs
    rw [hn] at hspec himpl hn1
    have hDs' := Lib.hid hDs
    clear hD hn hDs hfl
    go_enter Try.func7, Try.ntmps7
    go_wp2_with (go_at_call 28; refine (hspec _).mono ?_; rintro e w1 ⟨x1, c1, rfl, h1, hb1⟩)
    have z1 := hb1.size
    have a1 := rowS_strs' h1 hDs'.out
    go_wp2_with (go_at_call 29; refine (himpl _).mono ?_; rintro e w2 ⟨x2, c2, rfl, h2, hb2⟩)
    have z2 := hb2.size
    have a2 := isStrs_below a1 (Nat.le_refl _) hb2
    have b2 := rowS_strs' h2 hDs'.out
    go_wp2_with (go_at_call 19; refine (eqStringS_same _ _ _ _ _ _ _ b2 a2).mono ?_; rintro e w3 ⟨rfl, hb3⟩)
    have z3 := hb3.size
    have a3 := isStrs_below a2 (Nat.le_refl _) hb3
    have h3 := own_below h2 hb3
    go_wp2_with (go_at_call 26; refine (markStringS_any _ _ _ 1 _ _ _ h3 (by omega)).mono ?_; rintro e w4 ⟨rfl, h4, hg4⟩)
    have z4 := hg4.size
    have a4 := isStrs_grownBy a3 hg4 (fun b off e1 => own_apart h1 h2 z1 e1)
    have b4 := rowS_strs' h4 (mk_small 1 n (by omega))
    have d4 : Below w.heap.size w w4 := (Qtrans hb3 (by omega) (Qtrans hb2 z1 hb1)).grown hg4 (by omega) (fun k hk => by have := (h2.lt k hk).1; omega)
    go_wp2_with (go_at_call 27; refine (heldStringS_any _ _ _ 1 _ b4 (by omega)).mono ?_; rintro e w5 ⟨rfl, hb5⟩)
    have z5 := hb5.size
    have a5 := isStrs_below a4 (Nat.le_refl _) hb5
    have b5 := isStrs_below b4 (Nat.le_refl _) hb5
    go_wp2_with (go_at_call 29; refine (himpl _).mono ?_; rintro e w6 ⟨x6, c6, rfl, h6, hb6⟩)
    have z6 := hb6.size
    have a6 := isStrs_below a5 (Nat.le_refl _) hb6
    have b6 := isStrs_below b5 (Nat.le_refl _) hb6
    have c6' := rowS_strs' h6 hDs'.out
    go_wp2_with (go_at_call 19; refine (eqStringS_same _ _ _ _ _ _ _ c6' a6).mono ?_; rintro e w7 ⟨rfl, hb7⟩)
    have z7 := hb7.size
    have b7 := isStrs_below b6 (Nat.le_refl _) hb7
    go_wp2_with (go_at_call 27; refine (heldStringS_any _ _ _ 1 _ b7 (by omega)).mono ?_; rintro e w8 ⟨rfl, hb8⟩)
    go_wp2
    go_ret
    exact ⟨rfl, Qtrans hb8 (by omega) (Qtrans hb7 (by omega) (Qtrans hb6 (by omega) (Qtrans hb5 (by omega) d4)))⟩
end Go.Proofs.Ytbplepeebapjcaa
