/- Return words and the longest of them: the walks and the law. -/
import Derived.Test.YtilbhingfnjppabWordsF
set_option linter.unusedSimpArgs false
set_option linter.unusedVariables false
namespace Go.Proofs.Ytilbhingfnjppab
open Go.RowKit
theorem R_nil {s f : ByteArray} (h : (P s f).length = 0) : R s f = [] := by unfold R; rw [h]; rfl
theorem R_len (s f : ByteArray) (hs : s.size ≤ 9223372036854775807) : (R s f).length ≤ 401 := by
  unfold R; rw [rt_len]
  cases hp : pOk s f
  · rw [P_no hp]; simp
  · have := pl_len400 (f := f) (isW_of (pOk_true hp).1).1; omega
theorem R_small (s f : ByteArray) (hs : s.size ≤ 9223372036854775807) : ∀ z ∈ R s f, z.size ≤ maxLen := rt_small hs _ _
theorem pOk_of {s f : ByteArray} (h : (P s f).length ≠ 0) : pOk s f = true := by
  cases hp : pOk s f
  · rw [P_no hp] at h; simp at h
  · rfl
set_option maxRecDepth 20000 in
set_option maxHeartbeats 1000000 in
theorem implReturns_any (s f : ByteArray) (w : World) (hs : s.size ≤ 9223372036854775807) (hf : f.size ≤ 9223372036854775807) :
    Calls Try.prog 22 #[.string s, .string f] w fun e w' => ∃ x cap, e = .returned (.slice x (dd (R s f)).length cap) ∧ RowS w' w.heap.size x cap (dd (R s f)) ∧ Below w.heap.size w w' := by
  by_cases h0 : (P s f).length = 0
  · have hpl : plB s f = false := by simp [plB, h0]
    have hR := Lib.hid (R_nil h0)
    clear h0
    go_enter Try.func22, Try.ntmps22
    go_wp2_with (go_at_call 69; refine (isPlaced_any _ _ _ hs hf).mono ?_; rintro e w1 ⟨rfl, hb1⟩)
    go_ret
    exact ⟨none, 0, by rw [hR.out]; rfl, by rw [hR.out]; exact World.ownsRow_nil _ _ _ _, hb1⟩
  · have hpl : plB s f = true := by simp only [plB]; exact decide_eq_true (by omega)
    have hp := pOk_of h0
    have hRl := R_len s f hs
    have hRs := R_small s f hs
    have hc := fun w => returnsOf_any s f w hp
    obtain ⟨L, hL⟩ : ∃ L, R s f = L := ⟨_, rfl⟩
    rw [hL] at hRl hRs hc ⊢
    have hRs' := Lib.hid hRs
    clear hRs hL h0
    go_enter Try.func22, Try.ntmps22
    go_wp2_with (first | (go_at_call 69; refine (isPlaced_any _ _ _ hs hf).mono ?_; rintro e w1 ⟨rfl, hb1⟩) | (go_at_call 71; refine (hc _).mono ?_; rintro e w2 ⟨g, cap, rfl, hrow, hb2⟩))
    have hst := rowS_strs hrow hRs'.out
    have hz1 := hb1.size
    have hz2 := hb2.size
    go_wp2_with (go_at_call 70; refine (firsts_any _ _ _ _ _ hst (by omega)).mono ?_; rintro e w3 ⟨g3, cap3, rfl, hrow3, hb3⟩)
    go_ret
    exact ⟨_, cap3, rfl, World.ownsRow.mono hrow3 (by omega), by (repeat (first | with_reducible exact Below.refl _ _ | assumption | with_reducible refine Qdrew ?_ | with_reducible refine QdrewN ?_ | ((with_reducible refine Qset ?_ ?_); exact (by ((try simp only [World.size_alloc, World.size_setCell, World.size_drew, size_drewN]); (try dsimp only); omega))) | ((with_reducible refine Qalloc ?_ ?_); exact (by ((try simp only [World.size_alloc, World.size_setCell, World.size_drew, size_drewN]); (try dsimp only); omega))) | refine Qtrans (by assumption) (by ((try simp only [World.size_alloc, World.size_setCell, World.size_drew, size_drewN]); (try dsimp only); omega)) ?_))⟩
/-- The greatest size. -/
def mx (l : List ByteArray) : Nat := l.foldl (fun m z => max m z.size) 0
theorem mx_next (l : List ByteArray) (x : ByteArray) : mx (l ++ [x]) = max (mx l) x.size := by simp [mx]
theorem mx_spec (l : List ByteArray) : ∀ m : Nat, (m ≤ l.foldl (fun m z => max m z.size) m ∧ ∀ z ∈ l, z.size ≤ l.foldl (fun m z => max m z.size) m) ∧ (l.foldl (fun m z => max m z.size) m = m ∨ ∃ z ∈ l, z.size = l.foldl (fun m z => max m z.size) m) := by
  induction l with
  | nil => intro m; simp
  | cons a l ih =>
    intro m
    obtain ⟨⟨h1, h2⟩, h3⟩ := ih (max m a.size)
    simp only [List.foldl_cons]
    refine ⟨⟨by omega, fun z hz => ?_⟩, ?_⟩
    · rcases List.mem_cons.1 hz with rfl | hz
      · omega
      · exact h2 z hz
    · rcases h3 with h3 | ⟨z, hz, h3⟩
      · by_cases hm : a.size ≤ m
        · left; omega
        · right; exact ⟨a, by simp, by omega⟩
      · right; exact ⟨z, by simp [hz], h3⟩
theorem mx_dd (l : List ByteArray) : mx (dd l) = mx l := by
  obtain ⟨⟨_, h2⟩, h3⟩ := mx_spec l 0
  obtain ⟨⟨_, k2⟩, k3⟩ := mx_spec (dd l) 0
  change ∀ z ∈ l, z.size ≤ mx l at h2
  change mx l = 0 ∨ ∃ z ∈ l, z.size = mx l at h3
  change ∀ z ∈ dd l, z.size ≤ mx (dd l) at k2
  change mx (dd l) = 0 ∨ ∃ z ∈ dd l, z.size = mx (dd l) at k3
  have a1 : mx l ≤ mx (dd l) := by
    rcases h3 with h | ⟨z, hz, h⟩
    · omega
    · have := k2 z ((mem_dd l z).2 hz); omega
  have a2 : mx (dd l) ≤ mx l := by
    rcases k3 with h | ⟨z, hz, h⟩
    · omega
    · have := h2 z ((mem_dd l z).1 hz); omega
  omega
noncomputable def lrV (s f : ByteArray) : Int := if (P s f).length = 0 then -1 else (mx (R s f) : Nat)
set_option maxRecDepth 20000 in
set_option maxHeartbeats 1000000 in
theorem implLongest_any (s f : ByteArray) (w : World) (hs : s.size ≤ 9223372036854775807) (hf : f.size ≤ 9223372036854775807) :
    Calls Try.prog 24 #[.string s, .string f] w fun e w' => e = .returned (.int .i64 (lrV s f)) ∧ Below w.heap.size w w' := by
  by_cases h0 : (P s f).length = 0
  · have hpl : plB s f = false := by simp [plB, h0]
    have hv : Hid (lrV s f = -1) := by show _ = _; simp [lrV, h0]
    clear h0
    go_enter Try.func24, Try.ntmps24
    go_wp2_with (go_at_call 69; refine (isPlaced_any _ _ _ hs hf).mono ?_; rintro e w1 ⟨rfl, hb1⟩)
    go_ret
    exact ⟨ret_int hv.out.symm, hb1⟩
  · have hpl : plB s f = true := by simp only [plB]; exact decide_eq_true (by omega)
    have hp := pOk_of h0
    have hv : Hid (lrV s f = (mx (R s f) : Nat)) := by show _ = _; simp [lrV, h0]
    have hRl := R_len s f hs
    have hsm := R_small s f hs
    have hrc := fun w => returnsOf_any s f w hp
    obtain ⟨L, hL⟩ : ∃ L, R s f = L := ⟨_, rfl⟩
    rw [hL] at hv hRl hsm hrc
    obtain ⟨n, hn⟩ : ∃ n, L.length = n := ⟨_, rfl⟩
    rw [hn] at hRl hrc
    have hn' := Lib.hid hn
    have hsm' := Lib.hid hsm
    clear hL hp hsm hn h0
    go_enter Try.func24, Try.ntmps24
    go_wp2_with (first | (go_at_call 69; refine (isPlaced_any _ _ _ hs hf).mono ?_; rintro e w1 ⟨rfl, hb1⟩) | (go_at_call 71; refine (hrc _).mono ?_; rintro e w2 ⟨g2, c2, rfl, hrow, hb2⟩))
    have hst := rowS_strs hrow hsm'.out
    rw [hn'.out] at hst
    have hz1 := hb1.size
    go_loopw [5, 16] (fun m i wr => ∃ k : Nat, k ≤ n ∧ i = .int .i64 k ∧ m = .int .i64 (mx (L.take k) : Nat) ∧ w2 = wr) (fun _ i _ => n - (intOf i).toNat)
    case atStart => exact ⟨0, by omega, rfl, rfl, by first | rfl | trivial⟩
    case round =>
      obtain ⟨k, hk, rfl, rfl, rfl⟩ := hrel
      by_cases hlt : k < n
      · obtain ⟨b, off, hbo, hb, hcl⟩ := isStrs_cell hst (by omega)
        cases hbo
        have hck := hcl k hlt
        simp only [Nat.zero_add] at hck
        have hnext : mx (L.take (k + 1)) = max (mx (L.take k)) (L.getD k ByteArray.empty).size := by rw [take_next L k ByteArray.empty (by rw [hn'.out]; exact hlt), mx_next]
        obtain ⟨z, hzz⟩ : ∃ z, L.getD k ByteArray.empty = z := ⟨_, rfl⟩
        obtain ⟨m, hm⟩ : ∃ m, mx (L.take k) = m := ⟨_, rfl⟩
        rw [hzz] at hck hnext
        rw [hm] at hnext ⊢
        have hnext' := Lib.hid hnext
        have hk0 : (0 : Int) ≤ (k : Int) := by omega
        have hk1 : (k : Int) < (n : Int) := by omega
        clear hzz hm hcl hnext
        go_wp2
        go_roundw
        case rel => exact ⟨k + 1, by omega, by go_num, by rw [hnext'.out]; congr 1; omega, by first | rfl | trivial⟩
        case measure => (simp [intOf]) <;> omega
      · obtain rfl : n = k := by omega
        have ht : L.take n = L := List.take_of_length_le (by rw [hn'.out]; exact Nat.le_refl _)
        rw [ht]
        go_wp2
        go_ret
        exact ⟨ret_int hv.out.symm, Qtrans hb2 hz1 hb1⟩
end Go.Proofs.Ytilbhingfnjppab
