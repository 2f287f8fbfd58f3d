/- The walks of the places at which a word begins in another one. -/
import Derived.Test.YtilbhingfnjppabWordsA
import Derived.Deep.RegionLaw
set_option linter.unusedSimpArgs false
set_option linter.unusedVariables false
namespace Go.Proofs.Ytilbhingfnjppab
open Go.RowKit
/-- A string begins in another one at a place. -/
def hit (w f : ByteArray) (i : Nat) : Bool := (w.extract i (i + f.size)).toList == f.toList
def pl (w f : ByteArray) (k : Nat) : List Nat := (List.range k).filter (hit w f)
def nvl (l : List Nat) : List Value := l.map (fun (n : Nat) => Value.int .i64 (n : Int))
theorem nvl_len (l : List Nat) : (nvl l).length = l.length := by simp [nvl]
theorem nvl_at (l : List Nat) (j : Nat) (h : j < l.length) : (nvl l)[j]? = some (.int .i64 (l.getD j 0 : Nat)) := by simp [nvl, h, List.getD_eq_getElem?_getD]
theorem pl_yes {w f : ByteArray} {k : Nat} (h : hit w f k = true) : pl w f (k + 1) = pl w f k ++ [k] := by simp [pl, List.range_succ, List.filter_append, h]
theorem pl_no {w f : ByteArray} {k : Nat} (h : hit w f k = false) : pl w f (k + 1) = pl w f k := by simp [pl, List.range_succ, List.filter_append, h]
theorem pl_le (w f : ByteArray) (k : Nat) : (pl w f k).length ≤ k := Nat.le_trans (List.length_filter_le _ _) (by simp)
/-- All places. -/
def places (w f : ByteArray) : List Nat := pl w f (w.size + 1 - f.size)
set_option maxRecDepth 20000 in
set_option maxHeartbeats 2000000 in
theorem placesIn_any (s f : ByteArray) (w : World) (hs : s.size ≤ 400) (hf : f.size ≤ 400)  :
    Calls Try.prog 72 #[.string s, .string f] w fun e w' => ∃ g cap, e = .returned (.slice (some ⟨g, 0, none⟩) (places s f).length cap) ∧ w'.ownsRow w.heap.size 3 1 (.slice (some ⟨g, 0, none⟩) (places s f).length cap) (places s f).length (nvl (places s f)) ∧ Below w.heap.size w w' := by
  obtain ⟨i0, hi0, hz0, hz1, hz2⟩ := info_parts infoI
  go_enter Try.func72, Try.ntmps72
  go_wp2_with (fail)
  go_loopw [5, 6] (fun out i wr => ∃ k g cap : Nat, k ≤ s.size + 1 - f.size ∧ i = .int .i64 k ∧ out = .slice (some ⟨g, 0, none⟩) (pl s f k).length cap ∧ wr.ownsRow w.heap.size 3 1 (.slice (some ⟨g, 0, none⟩) (pl s f k).length cap) (pl s f k).length (nvl (pl s f k)) ∧ w.heap.size ≤ wr.heap.size ∧ Below w.heap.size w wr) (fun _ i _ => s.size + 1 - (intOf i).toNat)
  case atStart => exact ⟨0, w.heap.size, 0, by omega, rfl, rfl, World.ownsRow_lit w #[] 0 (Nat.le_refl _) (by decide) rfl, by ((try simp only [World.size_alloc, World.size_setCell, World.size_drew, size_drewN]); (try dsimp only); omega), by (repeat (first | with_reducible exact Below.refl _ _ | assumption | with_reducible refine Qdrew ?_ | with_reducible refine QdrewN ?_ | ((with_reducible refine Qset ?_ ?_); exact (by ((try simp only [World.size_alloc, World.size_setCell, World.size_drew, size_drewN]); (try dsimp only); omega))) | ((with_reducible refine Qalloc ?_ ?_); exact (by ((try simp only [World.size_alloc, World.size_setCell, World.size_drew, size_drewN]); (try dsimp only); omega))) | refine Qtrans (by assumption) (by ((try simp only [World.size_alloc, World.size_setCell, World.size_drew, size_drewN]); (try dsimp only); omega)) ?_))⟩
  case round =>
    obtain ⟨k, g, cap, hk, rfl, rfl, hown, hz, hbel⟩ := hrel
    have hpl := pl_le s f k
    by_cases hlt : k + f.size ≤ s.size
    · have hlt' : (k : Int) + (f.size : Int) ≤ (s.size : Int) := by omega
      have hk0 : (0 : Int) ≤ (k : Int) := by omega
      have hk1 : (k : Int) ≤ (k : Int) + (f.size : Int) := by omega
      cases hh : hit s f k
      · have hh' : ((s.extract k (k + f.size)).toList == f.toList) = false := hh
        have hs' := Lib.hid (pl_no hh)
        go_wp2
        go_roundw
        case rel => exact ⟨k + 1, g, cap, by omega, by go_num, by rw [hs'.out], by rw [hs'.out]; exact hown, hz, hbel⟩
        case measure => (simp [intOf]) <;> omega
      · have hh' : ((s.extract k (k + f.size)).toList == f.toList) = true := hh
        have hs' := Lib.hid (pl_yes hh)
        obtain ⟨L, hL⟩ : ∃ L, pl s f k = L := ⟨_, rfl⟩
        have hL' := Lib.hid hL
        rw [hL] at hown hpl ⊢
        clear hL
        go_wp2_with (at_builtin; refine wpList_append_lies _ rfl _ _ _ rfl (w.heap.size) 3 i0 _ 1 8 Try.underlying32 hi0 hz0 hz1 hz2 rfl (by decide) (_) (L.length) (nvl L) (by rfl) (hown.alloc _) ⟨(wr).heap.size, 0, none⟩ 1 1 [.int .i64 (k : Int)] (by rfl) (by rfl) (World.news_of_block (cs := #[.int .i64 (k : Int)]) (t := 3) (fr := (0, 0)) (heap_alloc_new (wr) _)) (by simp [Value.oneCell']) (by omega) (by unfold maxLen; omega) (by omega) (by simp; omega) ((wr).heap.size + 1) (by simp) ?_; intro gg cap w1 hown1 hgrow hatg hltg)
        go_roundw
        case rel => exact ⟨k + 1, gg, _, by omega, by go_num, by rw [hs'.out, hL'.out]; simp; rfl, by rw [hs'.out, hL'.out]; simpa [nvl] using hown1, by have := size_app hgrow; omega, below_app hbel hz hown hgrow⟩
        case measure => (simp [intOf]) <;> omega
    · have e := Lib.hid (show k = s.size + 1 - f.size by omega)
      have hlt' : ¬ (k : Int) + (f.size : Int) ≤ (s.size : Int) := by omega
      have hp : Hid (pl s f k = places s f) := by show _ = _; rw [e.out]; rfl
      go_wp2
      go_ret
      exact ⟨g, cap, by rw [← hp.out]; rfl, by rw [← hp.out]; exact hown, hbel⟩
noncomputable def pOk (s f : ByteArray) : Bool := isWB s && (isWB f && !f.toList.isEmpty)
noncomputable def P (s f : ByteArray) : List Nat := if pOk s f then places s f else []
theorem pOk_true {s f : ByteArray} (h : pOk s f = true) : isWB s = true ∧ isWB f = true ∧ f.toList.isEmpty = false := by
  simp only [pOk, Bool.and_eq_true, Bool.not_eq_true'] at h; exact ⟨h.1, h.2.1, h.2.2⟩
theorem P_no {s f : ByteArray} (h : pOk s f = false) : P s f = [] := by simp [P, h]
theorem P_yes {s f : ByteArray} (h : pOk s f = true) : P s f = places s f := by simp [P, h]
def RowN (w : World) (B : Nat) (x : Option Addr) (cap : Nat) (l : List Nat) : Prop := w.ownsRow B 3 1 (.slice x l.length cap) l.length (nvl l)
set_option maxRecDepth 20000 in
set_option maxHeartbeats 1000000 in
theorem implPlaces_any (s f : ByteArray) (w : World) (hs : s.size ≤ 9223372036854775807) (hf : f.size ≤ 9223372036854775807) :
    Calls Try.prog 23 #[.string s, .string f] w fun e w' => ∃ x cap, e = .returned (.slice x (P s f).length cap) ∧ RowN w' w.heap.size x cap (P s f) ∧ Below w.heap.size w w' := by
  cases hp : pOk s f
  · have hP := Lib.hid (P_no hp)
    cases h1 : isWB s
    · go_enter Try.func23, Try.ntmps23
      go_wp2_with (first | (go_at_call 62; refine (isWord_any _ _ (by assumption)).mono ?_; rintro e w1 ⟨rfl, rfl⟩))
      go_ret
      exact ⟨none, 0, by rw [hP.out]; rfl, by rw [hP.out]; exact World.ownsRow_nil _ _ _ _, by (repeat (first | with_reducible exact Below.refl _ _ | assumption | with_reducible refine Qdrew ?_ | with_reducible refine QdrewN ?_ | ((with_reducible refine Qset ?_ ?_); exact (by ((try simp only [World.size_alloc, World.size_setCell, World.size_drew, size_drewN]); (try dsimp only); omega))) | ((with_reducible refine Qalloc ?_ ?_); exact (by ((try simp only [World.size_alloc, World.size_setCell, World.size_drew, size_drewN]); (try dsimp only); omega))) | refine Qtrans (by assumption) (by ((try simp only [World.size_alloc, World.size_setCell, World.size_drew, size_drewN]); (try dsimp only); omega)) ?_))⟩
    · cases h2 : isWB f
      · go_enter Try.func23, Try.ntmps23
        go_wp2_with (first | (go_at_call 62; refine (isWord_any _ _ (by assumption)).mono ?_; rintro e w1 ⟨rfl, rfl⟩))
        go_ret
        exact ⟨none, 0, by rw [hP.out]; rfl, by rw [hP.out]; exact World.ownsRow_nil _ _ _ _, by (repeat (first | with_reducible exact Below.refl _ _ | assumption | with_reducible refine Qdrew ?_ | with_reducible refine QdrewN ?_ | ((with_reducible refine Qset ?_ ?_); exact (by ((try simp only [World.size_alloc, World.size_setCell, World.size_drew, size_drewN]); (try dsimp only); omega))) | ((with_reducible refine Qalloc ?_ ?_); exact (by ((try simp only [World.size_alloc, World.size_setCell, World.size_drew, size_drewN]); (try dsimp only); omega))) | refine Qtrans (by assumption) (by ((try simp only [World.size_alloc, World.size_setCell, World.size_drew, size_drewN]); (try dsimp only); omega)) ?_))⟩
      · have h3 : f.toList.isEmpty = true := by simpa [pOk, h1, h2] using hp
        go_enter Try.func23, Try.ntmps23
        go_wp2_with (first | (go_at_call 62; refine (isWord_any _ _ (by assumption)).mono ?_; rintro e w1 ⟨rfl, rfl⟩))
        go_ret
        exact ⟨none, 0, by rw [hP.out]; rfl, by rw [hP.out]; exact World.ownsRow_nil _ _ _ _, by (repeat (first | with_reducible exact Below.refl _ _ | assumption | with_reducible refine Qdrew ?_ | with_reducible refine QdrewN ?_ | ((with_reducible refine Qset ?_ ?_); exact (by ((try simp only [World.size_alloc, World.size_setCell, World.size_drew, size_drewN]); (try dsimp only); omega))) | ((with_reducible refine Qalloc ?_ ?_); exact (by ((try simp only [World.size_alloc, World.size_setCell, World.size_drew, size_drewN]); (try dsimp only); omega))) | refine Qtrans (by assumption) (by ((try simp only [World.size_alloc, World.size_setCell, World.size_drew, size_drewN]); (try dsimp only); omega)) ?_))⟩
  · obtain ⟨h1, h2, h3⟩ := pOk_true hp
    have hs4 := (isW_of h1).1
    have hf4 := (isW_of h2).1
    have hP := Lib.hid (P_yes hp)
    go_enter Try.func23, Try.ntmps23
    go_wp2_with (first | (go_at_call 62; refine (isWord_any _ _ (by omega)).mono ?_; rintro e w1 ⟨rfl, rfl⟩) | (go_at_call 72; refine (placesIn_any _ _ _ hs4 hf4).mono ?_; rintro e w1 ⟨g, cap, rfl, hown, hb1⟩))
    go_ret
    exact ⟨_, cap, by rw [hP.out]; rfl, by rw [hP.out]; exact hown, hb1⟩
noncomputable def plB (s f : ByteArray) : Bool := decide (0 < ((P s f).length : Int))
set_option maxRecDepth 20000 in
set_option maxHeartbeats 1000000 in
theorem isPlaced_any (s f : ByteArray) (w : World) (hs : s.size ≤ 9223372036854775807) (hf : f.size ≤ 9223372036854775807) :
    Calls Try.prog 69 #[.string s, .string f] w fun e w' => e = .returned (.bool (plB s f)) ∧ Below w.heap.size w w' := by
  obtain ⟨L, hL⟩ : ∃ L, (P s f).length = L := ⟨_, rfl⟩
  have hc := fun w => implPlaces_any s f w hs hf
  rw [hL] at hc
  have hL' := Lib.hid hL
  go_enter Try.func69, Try.ntmps69
  go_wp2_with (first | (go_at_call 23; refine (hc _).mono ?_; rintro e w1 ⟨x, cap, rfl, hown, hb1⟩))
  go_ret
  exact ⟨ret_bool (by simp only [plB]; rw [hL'.out]; simp), hb1⟩
end Go.Proofs.Ytilbhingfnjppab
