/- Several texts in one, in their order: WordsD WordsE WordsF WordsG. -/
import Derived.Test.YtilbhingfnjppabWordsC
import Derived.Deep.RegionLaw
import Derived.Lib.SlicesS
import Derived.Deep.QuietTactic
import Derived.BigQuiet
import Derived.Deep.Onto
set_option linter.unusedSimpArgs false
set_option linter.unusedVariables false
namespace Go.Proofs.Ytilbhingfnjppab
open Go.RowKit
attribute [local go_sem ↓] Go.wp_at_zero Go.wp_at_succ
theorem pl_len400 {s f : ByteArray} (h : s.size ≤ 400) : (P s f).length ≤ 401 := by
  unfold P; split
  · have := pl_le s f (s.size + 1 - f.size); unfold places; omega
  · simp
theorem placesIn_P (s f : ByteArray) (w : World) (hp : pOk s f = true) :
    Calls Try.prog 72 #[.string s, .string f] w fun e w' => ∃ g cap, e = .returned (.slice (some ⟨g, 0, none⟩) (P s f).length cap) ∧ w.heap.size ≤ g ∧ g < w'.heap.size ∧ NAt w' (some ⟨g, 0, none⟩) (P s f).length (P s f) ∧ Below w.heap.size w w' := by
  obtain ⟨h1, h2, h3⟩ := pOk_true hp
  rw [P_yes hp]
  exact (placesIn_any s f w (isW_of h1).1 (isW_of h2).1).mono fun e w' ⟨g, cap, he, hown, hb⟩ => ⟨g, cap, he, (hown.lt g rfl).1, (hown.lt g rfl).2, nAt_of hown, hb⟩
theorem rowS_mk {w : World} {B : Nat} {x : Option Addr} {n cap : Nat} {xs : List Value} {l : List ByteArray} (h : w.ownsRow B 9 1 (.slice x n cap) n xs) (hn : l.length = n) (hx : xs = sv l) : RowS w B x cap l := by
  subst hn hx; exact h
theorem ne_app {g ga gg n cap H : Nat} (hne : g ≠ ga) (hgl : ga < H) (hat : (Value.slice (some ⟨g, 0, none⟩) n cap).ownBlock = some gg ∨ gg = H + 1) : gg ≠ ga := by
  rcases hat with e | e
  · have : g = gg := by simpa [Value.ownBlock] using e
    omega
  · omega
set_option maxRecDepth 20000 in
set_option maxHeartbeats 2000000 in
theorem returnsOf_any (s f : ByteArray) (w : World) (hp : pOk s f = true) :
    Calls Try.prog 71 #[.string s, .string f] w fun e w' => ∃ g cap, e = .returned (.slice (some ⟨g, 0, none⟩) (R s f).length cap) ∧ RowS w' w.heap.size (some ⟨g, 0, none⟩) cap (R s f) ∧ Below w.heap.size w w' := by
  obtain ⟨i0, hi0, hz0, hz1, hz2⟩ := info_parts infoS
  have hs400 := (isW_of (pOk_true hp).1).1
  have hn := pl_len400 (f := f) hs400
  have hpc := fun w => placesIn_P s f w hp
  have hR : Hid (R s f = rt s (P s f) ((P s f).length - 1)) := rfl
  have hstep := Lib.hid (fun j h => P_step s f j h)
  obtain ⟨N, hN⟩ : ∃ N, P s f = N := ⟨_, rfl⟩
  rw [hN] at hpc hR hn hstep
  obtain ⟨n, hnn⟩ : ∃ n, N.length = n := ⟨_, rfl⟩
  rw [hnn] at hpc hR hn hstep
  clear hN hp
  go_enter Try.func71, Try.ntmps71
  go_wp2_with (go_at_call 72; refine (hpc _).mono ?_; rintro e wA ⟨ga, cap, rfl, hga, hgl, hat, hbA⟩)
  have hga' : w.heap.size < ga := by simp at hga; omega
  have hzA := hbA.size
  simp only [World.size_alloc] at hzA
  have hownA := own_below (World.ownsRow_lit (base := w.heap.size) (e := 9) (size := 1) w #[] 0 (Nat.le_refl _) (by decide) rfl) hbA
  have hbA' : Below w.heap.size w wA := Qtrans hbA (by simp) ((Below.refl _ w).alloc (Nat.le_refl _) _)
  go_loopw [5, 7] (fun out i wr => ∃ k g cap : Nat, (k = 0 ∨ k + 1 ≤ n) ∧ i = .int .i64 ((k : Int) + 1) ∧ out = .slice (some ⟨g, 0, none⟩) k cap ∧ RowS wr w.heap.size (some ⟨g, 0, none⟩) cap (rt s N k) ∧ g ≠ ga ∧ NAt wr (some ⟨ga, 0, none⟩) n N ∧ ga < wr.heap.size ∧ w.heap.size ≤ wr.heap.size ∧ Below w.heap.size w wr) (fun _ i _ => n + 1 - (intOf i).toNat)
  case atStart => exact ⟨0, w.heap.size, 0, .inl rfl, rfl, rfl, hownA, by omega, hat, hgl, by omega, hbA'⟩
  case round =>
    clear hownA hat
    obtain ⟨k, g, cap, hk, rfl, rfl, hown, hne, hat, hgl, hz, hbel⟩ := hrel
    by_cases hlt : k + 1 < n
    · obtain ⟨hs1, hs2⟩ := hstep.out k hlt
      rcases hat.2 with h0 | ⟨b, hb, hbl, hc⟩
      · omega
      cases hb
      have hc1 := hc k (by omega)
      have hc2 := hc (k + 1) hlt
      have hnext := Lib.hid (rt_succ s N k)
      obtain ⟨a, ha⟩ : ∃ a, N.getD k 0 = a := ⟨_, rfl⟩
      obtain ⟨c, hcc⟩ : ∃ c, N.getD (k + 1) 0 = c := ⟨_, rfl⟩
      rw [ha] at hc1 hs1 hnext
      rw [hcc] at hc2 hs1 hs2 hnext
      have hk9 : IntKind.i64.wrap (k : Int) = (k : Int) := by rw [IntWalk.i64_left, IntWalk.wrap64_in]; omega
      have f1 : (0 : Int) ≤ (k : Int) := by omega
      have f2 : (k : Int) < (n : Int) := by omega
      have f3 : (0 : Int) ≤ (k : Int) + 1 := by omega
      have f4 : (k : Int) + 1 < (n : Int) := by omega
      have f5 : (0 : Int) ≤ (a : Int) := by omega
      have f6 : (a : Int) ≤ (c : Int) := by omega
      have f7 : (c : Int) ≤ (s.size : Int) := by omega
      have hown' : wr.ownsRow w.heap.size 9 1 (.slice (some ⟨g, 0, none⟩) k cap) k (sv (rt s N k)) := by have := hown; unfold RowS at this; rw [rt_len] at this; exact this
      clear ha hcc hc hown
      go_wp2_with fail
      go_region_law (((refine step_append_lies _ (by rfl) _ _ _ (by rfl) (w.heap.size) 9 i0 _ 1 16 Try.underlying23 hi0 hz0 hz1 hz2 rfl (by decide) (.slice (some ⟨g, 0, none⟩) k cap) (k) (sv (rt s N k)) (by rfl) ((hown'.alloc _).drew) ⟨(wr).heap.size, 0, none⟩ 1 1 [.string (s.extract a c)] (by rfl) (by rfl) (World.news_of_block (cs := #[.string (s.extract a c)]) (t := 9) (fr := (0, 0)) (heap_alloc_new (wr) _)) (by simp [Value.oneCell']) (by omega) (by unfold maxLen; omega) (by omega) (by simp; omega) ((wr).heap.size + 1) (by simp) ?_; intro gg cap w1 hown1 hgrow hatg hltg)))
      all_goals
        have hat' := hatg
        go_wp2
        go_roundw
        case rel => exact ⟨k + 1, gg, cap, .inr (by omega), by go_num, rfl, rowS_mk hown1 (by rw [rt_len]) (by rw [hnext.out, sv_snoc]), ne_app hne hgl hat', nAt_growD hat (by intro b e; cases e; rfl) hgrow (Ne.symm hne), by have := size_appD hgrow; omega, by have := size_appD hgrow; omega, below_appD hbel hz hown' hgrow⟩
        case measure => (simp [intOf]) <;> omega
    · have hR' : Hid (R s f = rt s N k) := by
        show _ = _
        rw [hR.out]
        rcases hk with rfl | hk
        · congr 1; omega
        · congr 1; omega
      have hlt' : ¬ (k : Int) + 1 < (n : Int) := by omega
      go_wp2
      go_ret
      exact ⟨g, cap, by rw [hR'.out, rt_len]; rfl, by rw [hR'.out]; exact hown, hbel⟩
end Go.Proofs.Ytilbhingfnjppab

namespace Go.Proofs.Ytilbhingfnjppab
open Go.RowKit
attribute [local go_sem ↓] Go.wp_at_zero Go.wp_at_succ
theorem contains_any (y : Option Addr) (n cap : Nat) (zs : List ByteArray) (x : ByteArray) (w : World) (h : IsStrs w y n cap zs) :
    Calls Try.prog 102 #[.slice y n cap, .string x] w fun e w' => e = .returned (.bool (Lib.containsS zs x)) ∧ w = w' := by
  have hn63 : n ≤ 9223372036854775807 := by have := h.2.1; have := h.2.2.1; unfold maxLen at this; omega
  rcases h.2.2.2.2 with h0 | ⟨b, off, rfl, hb, hc⟩
  · subst h0
    have : zs = [] := List.length_eq_zero_iff.1 h.1
    subst this
    exact (Try.slices_Contains_string_empty y cap x w).mono fun e w' q => ⟨q.1, q.2.symm⟩
  · refine (Try.slices_Contains_string b off n cap zs x w (by rw [h.1]; exact Nat.le_refl _) hn63 (fun j hj => hc j (by rw [← h.1]; exact hj))).mono fun e w' q => ⟨q.1.trans ?_, q.2.symm⟩
    rw [List.take_of_length_le (by rw [h.1]; exact Nat.le_refl _)]
theorem index_any (y : Option Addr) (n cap : Nat) (zs : List ByteArray) (x : ByteArray) (w : World) (h : IsStrs w y n cap zs) :
    Calls Try.prog 73 #[.slice y n cap, .string x] w fun e w' => e = .returned (.int .i64 (Lib.idxOfS zs x)) ∧ w = w' := by
  have hn63 : n ≤ 9223372036854775807 := by have := h.2.1; have := h.2.2.1; unfold maxLen at this; omega
  rcases h.2.2.2.2 with h0 | ⟨b, off, rfl, hb, hc⟩
  · subst h0
    have : zs = [] := List.length_eq_zero_iff.1 h.1
    subst this
    exact (Try.slices_Index_string_empty y cap x w).mono fun e w' q => ⟨q.1, q.2.symm⟩
  · refine (Try.slices_Index_string b off n cap zs x w (by rw [h.1]; exact Nat.le_refl _) hn63 (fun j hj => hc j (by rw [← h.1]; exact hj))).mono fun e w' q => ⟨q.1.trans ?_, q.2.symm⟩
    rw [List.take_of_length_le (by rw [h.1]; exact Nat.le_refl _)]
theorem ins_in {o : List ByteArray} {x : ByteArray} (h : Lib.containsS o x = true) : ins o x = o := by simp [ins, (Lib.containsS_iff o x).1 h]
theorem ins_out {o : List ByteArray} {x : ByteArray} (h : Lib.containsS o x = false) : ins o x = o ++ [x] := by
  have : x ∉ o := fun q => by rw [(Lib.containsS_iff o x).2 q] at h; cases h
  simp [ins, this]
theorem dd_take (zs : List ByteArray) (k : Nat) (h : k < zs.length) : dd (zs.take (k + 1)) = ins (dd (zs.take k)) (zs.getD k ByteArray.empty) := by
  rw [take_next zs k ByteArray.empty h, dd_next]
theorem dd_small {zs : List ByteArray} (h : ∀ s ∈ zs, s.size ≤ maxLen) : ∀ z ∈ dd zs, z.size ≤ maxLen := fun z hz => h z ((mem_dd zs z).1 hz)
theorem take_small {zs : List ByteArray} (h : ∀ s ∈ zs, s.size ≤ maxLen) (k : Nat) : ∀ z ∈ zs.take k, z.size ≤ maxLen := fun z hz => h z (List.mem_of_mem_take hz)
theorem ddl (zs : List ByteArray) : (dd zs).length ≤ zs.length := by have := dd_len zs []; simpa [dd] using this
set_option maxRecDepth 20000 in
set_option maxHeartbeats 2000000 in
theorem firsts_any (y : Option Addr) (n cap0 : Nat) (zs : List ByteArray) (w : World) (h : IsStrs w y n cap0 zs) (hn : n ≤ 1048576) :
    Calls Try.prog 70 #[.slice y n cap0] w fun e w' => ∃ g cap, e = .returned (.slice (some ⟨g, 0, none⟩) (dd zs).length cap) ∧ RowS w' w.heap.size (some ⟨g, 0, none⟩) cap (dd zs) ∧ Below w.heap.size w w' := by
  obtain ⟨i0, hi0, hz0, hz1, hz2⟩ := info_parts infoS
  have hlen := h.1
  go_enter Try.func70, Try.ntmps70
  go_wp2
  go_loopw [3, 9] (fun out i wr => ∃ k g cap : Nat, k ≤ n ∧ i = .int .i64 k ∧ out = .slice (some ⟨g, 0, none⟩) (dd (zs.take k)).length cap ∧ RowS wr w.heap.size (some ⟨g, 0, none⟩) cap (dd (zs.take k)) ∧ w.heap.size ≤ wr.heap.size ∧ Below w.heap.size w wr) (fun _ i _ => n - (intOf i).toNat)
  case atStart => exact ⟨0, w.heap.size, 0, by omega, rfl, rfl, World.ownsRow_lit w #[] 0 (Nat.le_refl _) (by decide) rfl, by ((try simp only [World.size_alloc, World.size_setCell, World.size_drew, size_drewN]); (try dsimp only); omega), by (repeat (first | with_reducible exact Below.refl _ _ | assumption | with_reducible refine Qdrew ?_ | with_reducible refine QdrewN ?_ | ((with_reducible refine Qset ?_ ?_); exact (by ((try simp only [World.size_alloc, World.size_setCell, World.size_drew, size_drewN]); (try dsimp only); omega))) | ((with_reducible refine Qalloc ?_ ?_); exact (by ((try simp only [World.size_alloc, World.size_setCell, World.size_drew, size_drewN]); (try dsimp only); omega))) | refine Qtrans (by assumption) (by ((try simp only [World.size_alloc, World.size_setCell, World.size_drew, size_drewN]); (try dsimp only); omega)) ?_))⟩
  case round =>
    obtain ⟨k, g, cap, hk, rfl, rfl, hown, hz, hbel⟩ := hrel
    by_cases hlt : k < n
    · obtain ⟨b, off, rfl, hb, hc⟩ := isStrs_cell h (by omega)
      have hck : wr.cell? ⟨b, off + k, none⟩ = some (.string (zs.getD k ByteArray.empty)) := (hbel.cell (by exact hb)).trans (hc k hlt)
      have hnext := dd_take zs k (by omega)
      have hdl := ddl (zs.take k)
      have htl : (zs.take k).length = k := by simp; omega
      have hst := rowS_strs hown (dd_small (take_small h.2.2.2.1 k))
      obtain ⟨s, hs⟩ : ∃ s, zs.getD k ByteArray.empty = s := ⟨_, rfl⟩
      obtain ⟨D, hD⟩ : ∃ D, dd (zs.take k) = D := ⟨_, rfl⟩
      rw [hs] at hck hnext
      rw [hD] at hnext hown hst hdl ⊢
      rw [htl] at hdl
      have hk0 : (0 : Int) ≤ (k : Int) := by omega
      have hk1 : (k : Int) < (n : Int) := by omega
      have hD' := Lib.hid hD
      clear hs hD hc htl
      cases hin : Lib.containsS D s
      · rw [ins_out hin] at hnext
        have hnext' := Lib.hid hnext
        clear hnext
        have hown' : wr.ownsRow w.heap.size 9 1 (.slice (some ⟨g, 0, none⟩) D.length cap) D.length (sv D) := hown
        go_wp2_with (first | (go_at_call 102; refine (contains_any _ _ _ _ _ _ hst).mono ?_; rintro e w1 ⟨rfl, rfl⟩) | (at_builtin; refine wpList_append_lies _ rfl _ _ _ rfl (w.heap.size) 9 i0 _ 1 16 Try.underlying23 hi0 hz0 hz1 hz2 rfl (by decide) (.slice (some ⟨g, 0, none⟩) D.length cap) (D.length) (sv D) (by rfl) (hown'.alloc _) ⟨(wr).heap.size, 0, none⟩ 1 1 [.string s] (by rfl) (by rfl) (World.news_of_block (cs := #[.string s]) (t := 9) (fr := (0, 0)) (heap_alloc_new (wr) _)) (by simp [Value.oneCell']) (by omega) (by unfold maxLen; omega) (by omega) (by simp; omega) ((wr).heap.size + 1) (by simp) ?_; intro gg cap w1 hown1 hgrow hatg hltg))
        go_roundw
        case rel => exact ⟨k + 1, gg, _, by omega, by go_num, by rw [hnext'.out, List.length_append]; rfl, rowS_mk hown1 (by rw [hnext'.out, List.length_append]; rfl) (by rw [hnext'.out, sv_snoc]), by have := size_app hgrow; omega, below_app hbel hz hown' hgrow⟩
        case measure => (simp [intOf]) <;> omega
      · rw [ins_in hin] at hnext
        have hnext' := Lib.hid hnext
        clear hnext
        go_wp2_with (first | (go_at_call 102; refine (contains_any _ _ _ _ _ _ hst).mono ?_; rintro e w1 ⟨rfl, rfl⟩))
        go_roundw
        case rel => exact ⟨k + 1, g, cap, by omega, by go_num, by rw [hnext'.out], by rw [hnext'.out]; exact hown, hz, hbel⟩
        case measure => (simp [intOf]) <;> omega
    · obtain rfl : n = k := by omega
      have ht : zs.take n = zs := List.take_of_length_le (by omega)
      rw [ht] at hown ⊢
      go_wp2
      go_ret
      exact ⟨g, cap, rfl, hown, hbel⟩
end Go.Proofs.Ytilbhingfnjppab

namespace Go.Proofs.Ytilbhingfnjppab
open Go.RowKit
attribute [local go_sem ↓] Go.wp_at_zero Go.wp_at_succ
theorem nat_len (l : List Nat) (x : Option Addr) (cap : Nat) (w : World) (B : Nat) (h : RowN w B x cap l) : NAt w x l.length l := nAt_of h
end Go.Proofs.Ytilbhingfnjppab

namespace Go.Proofs.Ytilbhingfnjppab
open Go.RowKit
theorem R_nil {s f : ByteArray} (h : (P s f).length = 0) : R s f = [] := by unfold R; rw [h]; rfl
theorem R_len (s f : ByteArray) (hs : s.size ≤ 9223372036854775807) : (R s f).length ≤ 401 := by
  unfold R; rw [rt_len]
  cases hp : pOk s f
  · rw [P_no hp]; simp
  · have := pl_len400 (f := f) (isW_of (pOk_true hp).1).1; omega
theorem R_small (s f : ByteArray) (hs : s.size ≤ 9223372036854775807) : ∀ z ∈ R s f, z.size ≤ maxLen := rt_small hs _ _
theorem pOk_of {s f : ByteArray} (h : (P s f).length ≠ 0) : pOk s f = true := by
  cases hp : pOk s f
  · rw [P_no hp] at h; simp at h
  · rfl
set_option maxRecDepth 20000 in
set_option maxHeartbeats 1000000 in
theorem implReturns_any (s f : ByteArray) (w : World) (hs : s.size ≤ 9223372036854775807) (hf : f.size ≤ 9223372036854775807) :
    Calls Try.prog 22 #[.string s, .string f] w fun e w' => ∃ x cap, e = .returned (.slice x (dd (R s f)).length cap) ∧ RowS w' w.heap.size x cap (dd (R s f)) ∧ Below w.heap.size w w' := by
  by_cases h0 : (P s f).length = 0
  · have hpl : plB s f = false := by simp [plB, h0]
    have hR := Lib.hid (R_nil h0)
    clear h0
    go_enter Try.func22, Try.ntmps22
    go_wp2_with (go_at_call 69; refine (isPlaced_any _ _ _ hs hf).mono ?_; rintro e w1 ⟨rfl, hb1⟩)
    go_ret
    exact ⟨none, 0, by rw [hR.out]; rfl, by rw [hR.out]; exact World.ownsRow_nil _ _ _ _, hb1⟩
  · have hpl : plB s f = true := by simp only [plB]; exact decide_eq_true (by omega)
    have hp := pOk_of h0
    have hRl := R_len s f hs
    have hRs := R_small s f hs
    have hc := fun w => returnsOf_any s f w hp
    obtain ⟨L, hL⟩ : ∃ L, R s f = L := ⟨_, rfl⟩
    rw [hL] at hRl hRs hc ⊢
    have hRs' := Lib.hid hRs
    clear hRs hL h0
    go_enter Try.func22, Try.ntmps22
    go_wp2_with (first | (go_at_call 69; refine (isPlaced_any _ _ _ hs hf).mono ?_; rintro e w1 ⟨rfl, hb1⟩) | (go_at_call 71; refine (hc _).mono ?_; rintro e w2 ⟨g, cap, rfl, hrow, hb2⟩))
    have hst := rowS_strs hrow hRs'.out
    have hz1 := hb1.size
    have hz2 := hb2.size
    go_wp2_with (go_at_call 70; refine (firsts_any _ _ _ _ _ hst (by omega)).mono ?_; rintro e w3 ⟨g3, cap3, rfl, hrow3, hb3⟩)
    go_ret
    exact ⟨_, cap3, rfl, World.ownsRow.mono hrow3 (by omega), by (repeat (first | with_reducible exact Below.refl _ _ | assumption | with_reducible refine Qdrew ?_ | with_reducible refine QdrewN ?_ | ((with_reducible refine Qset ?_ ?_); exact (by ((try simp only [World.size_alloc, World.size_setCell, World.size_drew, size_drewN]); (try dsimp only); omega))) | ((with_reducible refine Qalloc ?_ ?_); exact (by ((try simp only [World.size_alloc, World.size_setCell, World.size_drew, size_drewN]); (try dsimp only); omega))) | refine Qtrans (by assumption) (by ((try simp only [World.size_alloc, World.size_setCell, World.size_drew, size_drewN]); (try dsimp only); omega)) ?_))⟩
/-- The greatest size. -/
def mx (l : List ByteArray) : Nat := l.foldl (fun m z => max m z.size) 0
theorem mx_next (l : List ByteArray) (x : ByteArray) : mx (l ++ [x]) = max (mx l) x.size := by simp [mx]
theorem mx_spec (l : List ByteArray) : ∀ m : Nat, (m ≤ l.foldl (fun m z => max m z.size) m ∧ ∀ z ∈ l, z.size ≤ l.foldl (fun m z => max m z.size) m) ∧ (l.foldl (fun m z => max m z.size) m = m ∨ ∃ z ∈ l, z.size = l.foldl (fun m z => max m z.size) m) := by
  induction l with
  | nil => intro m; simp
  | cons a l ih =>
    intro m
    obtain ⟨⟨h1, h2⟩, h3⟩ := ih (max m a.size)
    simp only [List.foldl_cons]
    refine ⟨⟨by omega, fun z hz => ?_⟩, ?_⟩
    · rcases List.mem_cons.1 hz with rfl | hz
      · omega
      · exact h2 z hz
    · rcases h3 with h3 | ⟨z, hz, h3⟩
      · by_cases hm : a.size ≤ m
        · left; omega
        · right; exact ⟨a, by simp, by omega⟩
      · right; exact ⟨z, by simp [hz], h3⟩
theorem mx_dd (l : List ByteArray) : mx (dd l) = mx l := by
  obtain ⟨⟨_, h2⟩, h3⟩ := mx_spec l 0
  obtain ⟨⟨_, k2⟩, k3⟩ := mx_spec (dd l) 0
  change ∀ z ∈ l, z.size ≤ mx l at h2
  change mx l = 0 ∨ ∃ z ∈ l, z.size = mx l at h3
  change ∀ z ∈ dd l, z.size ≤ mx (dd l) at k2
  change mx (dd l) = 0 ∨ ∃ z ∈ dd l, z.size = mx (dd l) at k3
  have a1 : mx l ≤ mx (dd l) := by
    rcases h3 with h | ⟨z, hz, h⟩
    · omega
    · have := k2 z ((mem_dd l z).2 hz); omega
  have a2 : mx (dd l) ≤ mx l := by
    rcases k3 with h | ⟨z, hz, h⟩
    · omega
    · have := h2 z ((mem_dd l z).1 hz); omega
  omega
noncomputable def lrV (s f : ByteArray) : Int := if (P s f).length = 0 then -1 else (mx (R s f) : Nat)
set_option maxRecDepth 20000 in
set_option maxHeartbeats 1000000 in
theorem implLongest_any (s f : ByteArray) (w : World) (hs : s.size ≤ 9223372036854775807) (hf : f.size ≤ 9223372036854775807) :
    Calls Try.prog 24 #[.string s, .string f] w fun e w' => e = .returned (.int .i64 (lrV s f)) ∧ Below w.heap.size w w' := by
  by_cases h0 : (P s f).length = 0
  · have hpl : plB s f = false := by simp [plB, h0]
    have hv : Hid (lrV s f = -1) := by show _ = _; simp [lrV, h0]
    clear h0
    go_enter Try.func24, Try.ntmps24
    go_wp2_with (go_at_call 69; refine (isPlaced_any _ _ _ hs hf).mono ?_; rintro e w1 ⟨rfl, hb1⟩)
    go_ret
    exact ⟨ret_int hv.out.symm, hb1⟩
  · have hpl : plB s f = true := by simp only [plB]; exact decide_eq_true (by omega)
    have hp := pOk_of h0
    have hv : Hid (lrV s f = (mx (R s f) : Nat)) := by show _ = _; simp [lrV, h0]
    have hRl := R_len s f hs
    have hsm := R_small s f hs
    have hrc := fun w => returnsOf_any s f w hp
    obtain ⟨L, hL⟩ : ∃ L, R s f = L := ⟨_, rfl⟩
    rw [hL] at hv hRl hsm hrc
    obtain ⟨n, hn⟩ : ∃ n, L.length = n := ⟨_, rfl⟩
    rw [hn] at hRl hrc
    have hn' := Lib.hid hn
    have hsm' := Lib.hid hsm
    clear hL hp hsm hn h0
    go_enter Try.func24, Try.ntmps24
    go_wp2_with (first | (go_at_call 69; refine (isPlaced_any _ _ _ hs hf).mono ?_; rintro e w1 ⟨rfl, hb1⟩) | (go_at_call 71; refine (hrc _).mono ?_; rintro e w2 ⟨g2, c2, rfl, hrow, hb2⟩))
    have hst := rowS_strs hrow hsm'.out
    rw [hn'.out] at hst
    have hz1 := hb1.size
    go_loopw [5, 16] (fun m i wr => ∃ k : Nat, k ≤ n ∧ i = .int .i64 k ∧ m = .int .i64 (mx (L.take k) : Nat) ∧ w2 = wr) (fun _ i _ => n - (intOf i).toNat)
    case atStart => exact ⟨0, by omega, rfl, rfl, by first | rfl | trivial⟩
    case round =>
      obtain ⟨k, hk, rfl, rfl, rfl⟩ := hrel
      by_cases hlt : k < n
      · obtain ⟨b, off, hbo, hb, hcl⟩ := isStrs_cell hst (by omega)
        cases hbo
        have hck := hcl k hlt
        simp only [Nat.zero_add] at hck
        have hnext : mx (L.take (k + 1)) = max (mx (L.take k)) (L.getD k ByteArray.empty).size := by rw [take_next L k ByteArray.empty (by rw [hn'.out]; exact hlt), mx_next]
        obtain ⟨z, hzz⟩ : ∃ z, L.getD k ByteArray.empty = z := ⟨_, rfl⟩
        obtain ⟨m, hm⟩ : ∃ m, mx (L.take k) = m := ⟨_, rfl⟩
        rw [hzz] at hck hnext
        rw [hm] at hnext ⊢
        have hnext' := Lib.hid hnext
        have hk0 : (0 : Int) ≤ (k : Int) := by omega
        have hk1 : (k : Int) < (n : Int) := by omega
        clear hzz hm hcl hnext
        go_wp2
        go_roundw
        case rel => exact ⟨k + 1, by omega, by go_num, by rw [hnext'.out]; congr 1; omega, by first | rfl | trivial⟩
        case measure => (simp [intOf]) <;> omega
      · obtain rfl : n = k := by omega
        have ht : L.take n = L := List.take_of_length_le (by rw [hn'.out]; exact Nat.le_refl _)
        rw [ht]
        go_wp2
        go_ret
        exact ⟨ret_int hv.out.symm, Qtrans hb2 hz1 hb1⟩
end Go.Proofs.Ytilbhingfnjppab
