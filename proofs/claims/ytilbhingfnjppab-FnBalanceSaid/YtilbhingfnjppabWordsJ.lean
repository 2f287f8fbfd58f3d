/- Full returns: the walks and the law. -/
import Derived.Test.YtilbhingfnjppabWordsI
import Derived.Test.YtilbhingfnjppabWordsH
set_option linter.unusedSimpArgs false
set_option linter.unusedVariables false
namespace Go.Proofs.Ytilbhingfnjppab
open Go.RowKit
theorem R_le (s f : ByteArray) : ∀ z ∈ dd (R s f), z.size ≤ s.size := by
  intro z hz
  have hz' := (mem_dd _ _).1 hz
  obtain ⟨i, _, rfl⟩ := List.mem_map.1 hz'
  simp [ByteArray.size_extract]; omega
def fu (f : ByteArray) (D : List ByteArray) (k : Nat) : List ByteArray := (D.take k).map (fun z => z ++ f)
theorem fu_next (f : ByteArray) (D : List ByteArray) (k : Nat) (h : k < D.length) : fu f D (k + 1) = fu f D k ++ [D.getD k ByteArray.empty ++ f] := by
  unfold fu; rw [take_next D k ByteArray.empty h]; simp
theorem fu_len (f : ByteArray) (D : List ByteArray) (k : Nat) (h : k ≤ D.length) : (fu f D k).length = k := by simp [fu]; omega
theorem size_getD {D : List ByteArray} {N : Nat} (h : ∀ z ∈ D, z.size ≤ N) (k : Nat) : (D.getD k ByteArray.empty).size ≤ N := by
  by_cases hk : k < D.length
  · exact h _ (getD_mem hk)
  · rw [List.getD_eq_getElem?_getD, List.getElem?_eq_none (by omega)]; exact Nat.zero_le _
theorem ne_app2 {g b gg n cap H : Nat} (hne : b ≠ g) (hgl : b < H) (hat : (Value.slice (some ⟨g, 0, none⟩) n cap).ownBlock = some gg ∨ gg = H + 1) : b ≠ gg := by
  rcases hat with e | e
  · have : g = gg := by simpa [Value.ownBlock] using e
    omega
  · omega
set_option maxRecDepth 20000 in
set_option maxHeartbeats 2000000 in
theorem implFull_any (s f : ByteArray) (w : World) (hs : s.size ≤ 1048576) (hf : f.size ≤ 1048576) :
    Calls Try.prog 28 #[.string s, .string f] w fun e w' => ∃ x cap, e = .returned (.slice x (dd (R s f)).length cap) ∧ w'.ownsRow w.heap.size 9 1 (.slice x (dd (R s f)).length cap) (dd (R s f)).length (sv (fu f (dd (R s f)) (dd (R s f)).length)) ∧ Below w.heap.size w w' := by
  obtain ⟨i0, hi0, hz0, hz1, hz2⟩ := info_parts infoS
  have hrc := fun w => implReturns_any s f w (by omega) (by omega)
  have hn1 : (dd (R s f)).length ≤ 401 := Nat.le_trans (ddl _) (R_len s f (by omega))
  have hsz := R_le s f
  unfold RowS at hrc
  obtain ⟨D, hD⟩ : ∃ D, dd (R s f) = D := ⟨_, rfl⟩
  rw [hD] at hrc hn1 hsz ⊢
  obtain ⟨n, hn⟩ : ∃ n, D.length = n := ⟨_, rfl⟩
  rw [hn] at hrc hn1 ⊢
  have hn' := Lib.hid hn
  have hDs := Lib.hid (show ∀ z ∈ D, z.size ≤ maxLen from fun z hz => by have := hsz z hz; unfold maxLen; omega)
  have hsz' := Lib.hid hsz
  clear hD hn hsz
  go_enter Try.func28, Try.ntmps28
  go_wp2_with (go_at_call 22; refine (hrc _).mono ?_; rintro e wA ⟨xr, cr, rfl, hrow, hbA⟩)
  have hst0 := rowS_strs' hrow hDs.out
  have hx : ∀ b off, xr = some ⟨b, off, none⟩ → w.heap.size < b ∧ b < wA.heap.size := fun b off e => by
    subst e; have := hrow.lt b rfl; simp at this; omega
  have hx' := Lib.hid hx
  have hownA := own_below (World.ownsRow_lit (base := w.heap.size) (e := 9) (size := 1) w #[] 0 (Nat.le_refl _) (by decide) rfl) hbA
  have hbA' : Below w.heap.size w wA := Qtrans hbA (by simp) ((Below.refl _ w).alloc (Nat.le_refl _) _)
  have hzA := hbA'.size
  clear hrow hx
  go_loopw [5, 13] (fun out i wr => ∃ k g cap : Nat, k ≤ n ∧ i = .int .i64 k ∧ out = .slice (some ⟨g, 0, none⟩) k cap ∧ wr.ownsRow w.heap.size 9 1 (.slice (some ⟨g, 0, none⟩) k cap) k (sv (fu f D k)) ∧ Hid (∀ b off, xr = some ⟨b, off, none⟩ → b ≠ g) ∧ IsStrs wr xr n cr D ∧ wA.heap.size ≤ wr.heap.size ∧ Below w.heap.size w wr) (fun _ i _ => n - (intOf i).toNat)
  case atStart => exact ⟨0, w.heap.size, 0, by omega, rfl, rfl, hownA, Lib.hid (fun b off e => by have := hx'.out b off e; omega), hst0, Nat.le_refl _, hbA'⟩
  case round =>
    clear hownA hst0
    obtain ⟨k, g, cap, hk, rfl, rfl, hown, hne, hst, hz, hbel⟩ := hrel
    by_cases hlt : k < n
    · obtain ⟨b, off, rfl, hb, hcl⟩ := isStrs_cell hst (by omega)
      have hck := hcl k hlt
      have hnext := fu_next f D k (by rw [hn'.out]; exact hlt)
      have hzs := size_getD hsz'.out k
      obtain ⟨z, hzz⟩ : ∃ z, D.getD k ByteArray.empty = z := ⟨_, rfl⟩
      rw [hzz] at hck hnext hzs
      have hnext' := Lib.hid hnext
      have hrun := fun w => run_string_add_sum (P := Try.prog) w z f (by omega)
      have hk0 : (0 : Int) ≤ (k : Int) := by omega
      have hk1 : (k : Int) < (n : Int) := by omega
      clear hzz hcl hnext
      go_wp2_with (at_builtin; refine wpList_append_lies _ rfl _ _ _ rfl (w.heap.size) 9 i0 _ 1 16 Try.underlying23 hi0 hz0 hz1 hz2 rfl (by decide) (.slice (some ⟨g, 0, none⟩) k cap) (k) (sv (fu f D k)) (by rfl) (hown.alloc _) ⟨(wr).heap.size, 0, none⟩ 1 1 [.string (z ++ f)] (by rfl) (by rfl) (World.news_of_block (cs := #[.string (z ++ f)]) (t := 9) (fr := (0, 0)) (heap_alloc_new (wr) _)) (by simp [Value.oneCell']) (by omega) (by unfold maxLen; omega) (by omega) (by simp; omega) ((wr).heap.size + 1) (by simp) ?_; intro gg cap w1 hown1 hgrow hatg hltg)
      go_roundw
      case rel => exact ⟨k + 1, gg, _, by omega, by go_num, rfl, by rw [hnext'.out, sv_snoc]; exact hown1, Lib.hid (fun b' off' e => ne_app2 (hne.out b' off' e) (by have := hx'.out b' off' e; omega) hatg), isStrs_grow hst (fun b' off' e => hne.out b' off' e) hgrow, by have := size_app hgrow; omega, below_app hbel (by omega) hown hgrow⟩
      case measure => (simp [intOf]) <;> omega
    · obtain rfl : n = k := by omega
      have hlt' : ¬ (n : Int) < (n : Int) := by omega
      go_wp2
      go_ret
      exact ⟨_, cap, rfl, hown, hbel⟩
end Go.Proofs.Ytilbhingfnjppab
