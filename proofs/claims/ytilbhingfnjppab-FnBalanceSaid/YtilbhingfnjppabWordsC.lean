/- The walks of return words. -/
import Derived.Test.YtilbhingfnjppabMIns
import Derived.Test.YtilbhingfnjppabMFra
import Derived.Test.YtilbhingfnjppabWordsShelf
set_option linter.unusedSimpArgs false
set_option linter.unusedVariables false
namespace Go.Proofs.Ytilbhingfnjppab
open Go.RowKit
/-- Numbers that lie in a row. -/
def NAt (w : World) (x : Option Addr) (n : Nat) (l : List Nat) : Prop := l.length = n ∧ (n = 0 ∨ ∃ b, x = some ⟨b, 0, none⟩ ∧ b < w.heap.size ∧ ∀ j, j < n → w.cell? ⟨b, j, none⟩ = some (.int .i64 (l.getD j 0 : Nat)))
theorem nAt_of {w : World} {B : Nat} {x : Option Addr} {cap : Nat} {l : List Nat} (h : RowN w B x cap l) : NAt w x l.length l := by
  refine ⟨rfl, ?_⟩
  by_cases h0 : l.length = 0
  · exact .inl h0
  · right
    obtain ⟨g, c, e, hg1, hg2⟩ := World.ownsRow.form h (by omega)
    cases e
    exact ⟨g, rfl, hg2, fun j hj => by rw [own_cell h j hj, nvl_at _ _ hj]⟩
theorem nAt_below {w w' : World} {x : Option Addr} {n : Nat} {l : List Nat} (h : NAt w x n l) {B : Nat} (hB : w.heap.size ≤ B) (hb : Below B w w') : NAt w' x n l := by
  refine ⟨h.1, ?_⟩
  rcases h.2 with h0 | ⟨b, rfl, hlt, hc⟩
  · exact .inl h0
  · exact .inr ⟨b, rfl, Nat.lt_of_lt_of_le hlt hb.size, fun j hj => (hb.cell (by show b < B; omega)).trans (hc j hj)⟩
/-- Places grow. -/
theorem pl_sorted (s f : ByteArray) (k : Nat) : (pl s f k).Pairwise (· < ·) := List.Pairwise.filter _ List.pairwise_lt_range
theorem pl_step (s f : ByteArray) (K j : Nat) (h : j + 1 < (pl s f K).length) : (pl s f K).getD j 0 < (pl s f K).getD (j + 1) 0 := by
  have := List.pairwise_iff_getElem.1 (pl_sorted s f K) j (j + 1) (by omega) h (by omega)
  simpa [List.getD_eq_getElem?_getD, h, show j < (pl s f K).length by omega] using this
theorem pl_lt (s f : ByteArray) (K j : Nat) (h : j < (pl s f K).length) : (pl s f K).getD j 0 < K := by
  have hm : (pl s f K)[j] ∈ pl s f K := List.getElem_mem h
  have := (List.mem_filter.1 hm).1
  simpa [List.getD_eq_getElem?_getD, h] using this
theorem P_step (s f : ByteArray) (j : Nat) (h : j + 1 < (P s f).length) : (P s f).getD j 0 < (P s f).getD (j + 1) 0 ∧ (P s f).getD (j + 1) 0 ≤ s.size := by
  cases hp : pOk s f
  · rw [P_no hp] at h; simp at h
  · rw [P_yes hp] at h ⊢
    have hf : f.size ≠ 0 := by
      intro e
      have h3 := (pOk_true hp).2.2
      have : f.toList = [] := by rw [ByteArray.toList_eq, List.eq_nil_iff_length_eq_zero, Array.length_toList]; exact e
      rw [this] at h3; simp at h3
    have h2 := pl_lt s f _ (j + 1) h
    exact ⟨pl_step s f _ j h, by unfold places at *; omega⟩
/-- The pieces between one place and the next. -/
def rt (s : ByteArray) (l : List Nat) (k : Nat) : List ByteArray := (List.range k).map (fun i => s.extract (l.getD i 0) (l.getD (i + 1) 0))
theorem rt_succ (s : ByteArray) (l : List Nat) (k : Nat) : rt s l (k + 1) = rt s l k ++ [s.extract (l.getD k 0) (l.getD (k + 1) 0)] := by simp [rt, List.range_succ]
theorem rt_len (s : ByteArray) (l : List Nat) (k : Nat) : (rt s l k).length = k := by simp [rt]
theorem rt_small {s : ByteArray} (h : s.size ≤ maxLen) (l : List Nat) (k : Nat) : ∀ z ∈ rt s l k, z.size ≤ maxLen := by
  intro z hz
  obtain ⟨i, _, rfl⟩ := List.mem_map.1 hz
  simp [ByteArray.size_extract]; omega
open Classical in
/-- The different ones, as they come first. -/
noncomputable def ins (o : List ByteArray) (x : ByteArray) : List ByteArray := if x ∈ o then o else o ++ [x]
noncomputable def dd (l : List ByteArray) : List ByteArray := l.foldl ins []
theorem dd_next (l : List ByteArray) (x : ByteArray) : dd (l ++ [x]) = ins (dd l) x := by simp [dd]
theorem dd_mem (l : List ByteArray) : ∀ o : List ByteArray, ∀ z, z ∈ l.foldl ins o ↔ z ∈ o ∨ z ∈ l := by
  induction l with
  | nil => simp
  | cons a l ih =>
    intro o z
    rw [List.foldl_cons, ih]
    unfold ins
    split
    · simp; constructor
      · rintro (h | h)
        · exact .inl h
        · exact .inr (.inr h)
      · rintro (h | rfl | h)
        · exact .inl h
        · exact .inl (by assumption)
        · exact .inr h
    · simp; constructor
      · rintro ((h | h) | h)
        · exact .inl h
        · exact .inr (.inl h)
        · exact .inr (.inr h)
      · rintro (h | h | h)
        · exact .inl (.inl h)
        · exact .inl (.inr h)
        · exact .inr h
theorem mem_dd (l : List ByteArray) (z : ByteArray) : z ∈ dd l ↔ z ∈ l := by rw [dd, dd_mem]; simp
theorem ins_len (o : List ByteArray) (x : ByteArray) : (ins o x).length ≤ o.length + 1 := by unfold ins; split <;> simp
theorem dd_len : ∀ (l : List ByteArray) (o : List ByteArray), (l.foldl ins o).length ≤ o.length + l.length
  | [], o => by simp
  | a :: l, o => by have := dd_len l (ins o a); have := ins_len o a; simp; omega
/-- All pieces between places. -/
noncomputable def R (s f : ByteArray) : List ByteArray := rt s (P s f) ((P s f).length - 1)
def RowS (w : World) (B : Nat) (x : Option Addr) (cap : Nat) (l : List ByteArray) : Prop := w.ownsRow B 9 1 (.slice x l.length cap) l.length (sv l)
theorem rowS_strs {w : World} {B : Nat} {x : Option Addr} {cap : Nat} {l : List ByteArray} (h : RowS w B x cap l) (hz : ∀ z ∈ l, z.size ≤ maxLen) : IsStrs w x l.length cap l := by
  rcases h.2 with ⟨e, h0⟩ | ⟨g, c, cur, e, _, _, _⟩
  · simp only [Value.slice.injEq] at e
    obtain ⟨rfl, _, rfl⟩ := e
    exact ⟨rfl, by omega, by unfold maxLen; omega, hz, .inl h0⟩
  · simp only [Value.slice.injEq] at e
    obtain ⟨rfl, _, rfl⟩ := e
    exact isStrs_own h hz
theorem kept_alloc {wr w1 : World} {B : Nat} {e : TypeId} {v : Value} {n g : Nat} {xs : List Value} {o : Obj} (h : wr.ownsRow B e 1 v n xs) (hg : (wr.alloc o).grownBy w1 (some g)) (hne : v.ownBlock ≠ some g) : w1.ownsRow B e 1 v n xs :=
  (h.alloc o).kept hg (.inr hne)
theorem kept_allocD {wr w1 : World} {B : Nat} {e : TypeId} {v : Value} {n g : Nat} {xs : List Value} {o : Obj} (h : wr.ownsRow B e 1 v n xs) (hg : (wr.alloc o).drew.grownBy w1 (some g)) (hne : v.ownBlock ≠ some g) : w1.ownsRow B e 1 v n xs :=
  (h.alloc o).drew.kept hg (.inr hne)
theorem nAt_growD {wr w1 : World} {x : Option Addr} {n g ga : Nat} {l : List Nat} {o : Obj} (h : NAt wr x n l) (hx : ∀ b, x = some ⟨b, 0, none⟩ → b = ga) (hg : (wr.alloc o).drew.grownBy w1 (some g)) (hne : ga ≠ g) : NAt w1 x n l := by
  refine ⟨h.1, ?_⟩
  rcases h.2 with h0 | ⟨b, rfl, hlt, hc⟩
  · exact .inl h0
  · have hb := hx b rfl
    refine .inr ⟨b, rfl, Nat.lt_trans hlt (size_appD hg), fun j hj => ?_⟩
    rw [hg.cell_far ⟨b, j, none⟩ (by show b < _; simp; omega) (by simp; omega)]
    exact (World.cell?_alloc_past _ _ _ (by show b < _; omega)).trans (hc j hj)
end Go.Proofs.Ytilbhingfnjppab
