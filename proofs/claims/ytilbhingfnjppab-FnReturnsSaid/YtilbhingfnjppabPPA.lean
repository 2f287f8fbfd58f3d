/- Parts of parents: what both compute, rows of rows of strings. -/
import Derived.Test.YtilbhingfnjppabParE
set_option linter.unusedSimpArgs false
set_option linter.unusedVariables false
namespace Go.Proofs.Ytilbhingfnjppab
open Go.RowKit
noncomputable def pvS (zs : List ByteArray) (s : ByteArray) : ByteArray := (pa_form zs s).choose
noncomputable def pvB (zs : List ByteArray) (s : ByteArray) : Bool := (pa_form zs s).choose_spec.choose
theorem pv_eq (zs : List ByteArray) (s : ByteArray) : paV zs s = .tuple #[.string (pvS zs s), .bool (pvB zs s)] := (pa_form zs s).choose_spec.choose_spec
def midS (s : ByteArray) (k r : Nat) : ByteArray := s.extract k (s.size - r)
noncomputable def phit (zs : List ByteArray) (s : ByteArray) (k r : Nat) : Bool := decide (k + r ≤ s.size) && pvB zs (midS s k r)
noncomputable def prow (zs : List ByteArray) (s : ByteArray) (k r : Nat) : List ByteArray := [s.extract 0 k, pvS zs (midS s k r), s.extract (s.size - r) s.size]
noncomputable def ppk (zs : List ByteArray) (s : ByteArray) (most k : Nat) : List (List ByteArray) :=
  match (List.range most).find? (phit zs s k) with
  | some r => [prow zs s k r]
  | none => []
noncomputable def prs (zs : List ByteArray) (s : ByteArray) (most : Nat) : Nat → List (List ByteArray)
  | 0 => []
  | k + 1 => prs zs s most k ++ ppk zs s most k
theorem ppk_some {zs : List ByteArray} {s : ByteArray} {most k r : Nat} (hr : r < most) (h : phit zs s k r = true) (hn : ∀ j, j < r → phit zs s k j = false) : ppk zs s most k = [prow zs s k r] := by
  have : (List.range most).find? (phit zs s k) = some r := by
    rw [List.find?_range_eq_some]
    exact ⟨h, by simpa using hr, fun j hj => by rw [hn j hj]; rfl⟩
  unfold ppk; rw [this]
theorem ppk_none {zs : List ByteArray} {s : ByteArray} {most k : Nat} (hn : ∀ j, j < most → phit zs s k j = false) : ppk zs s most k = [] := by
  have : (List.range most).find? (phit zs s k) = none := by
    rw [List.find?_eq_none]
    intro j hj; rw [hn j (by simpa using hj)]; simp
  unfold ppk; rw [this]
theorem ppk_len (zs : List ByteArray) (s : ByteArray) (most k : Nat) : (ppk zs s most k).length ≤ 1 ∧ ∀ l ∈ ppk zs s most k, l.length = 3 ∧ ∃ r, l = prow zs s k r := by
  unfold ppk; split
  · exact ⟨by simp, fun l hl => by simp at hl; subst hl; exact ⟨rfl, _, rfl⟩⟩
  · simp
theorem prs_len (zs : List ByteArray) (s : ByteArray) (most : Nat) : ∀ k, (prs zs s most k).length ≤ k
  | 0 => by simp [prs]
  | k + 1 => by
    have h1 := prs_len zs s most k
    have h2 := (ppk_len zs s most k).1
    rw [prs, List.length_append]; omega
theorem bt_ext (s : ByteArray) (k q j : Nat) (hj : j < (s.extract k q).size) : bt (s.extract k q) j = bt s (k + j) := by
  have hj' := hj
  simp only [ByteArray.size_extract] at hj'
  unfold bt
  rw [dif_pos hj, dif_pos (by omega)]
  congr 2
  rw [ByteArray.getElem_eq_getElem_data, ByteArray.getElem_eq_getElem_data]
  simp [ByteArray.data_extract]
theorem isW_ext {s : ByteArray} (h : isWP s) (k q : Nat) : isWB (s.extract k q) = true := by
  refine isWB_true ⟨by have := h.1; rw [ByteArray.size_extract]; omega, fun j hj => ?_⟩
  have hj' := hj
  rw [ByteArray.size_extract] at hj'
  unfold inL
  rw [bt_ext s k q j hj]
  exact h.2 (k + j) (by omega)
/-- A slice of slices of three strings, each in a block of its own, that nobody else holds. -/
def OSS (w : World) (B g n cap : Nat) (L : List (List ByteArray)) : Prop :=
  ∃ (V : List Value) (f : Nat → Nat), L.length = n ∧ w.ownsRow B 23 1 (.slice (some ⟨g, 0, none⟩) n cap) n V ∧ (∀ j, j < n → V[j]? = some (.slice (some ⟨f j, 0, none⟩) 3 3) ∧ (L.getD j []).length = 3 ∧ w.ownsRow B 9 1 (.slice (some ⟨f j, 0, none⟩) 3 3) 3 (sv (L.getD j [])) ∧ f j ≠ g) ∧ ∀ i j, i < j → j < n → f i < f j
theorem oss_below {w w' : World} {B g n cap : Nat} {L : List (List ByteArray)} (h : OSS w B g n cap L) (hb : Below w.heap.size w w') : OSS w' B g n cap L := by
  obtain ⟨V, f, h1, h2, h3, h4⟩ := h
  exact ⟨V, f, h1, own_below h2 hb, fun j hj => by obtain ⟨q1, q2, q3, q4⟩ := h3 j hj; exact ⟨q1, q2, own_below q3 hb, q4⟩, h4⟩
theorem oss_drew {w : World} {B g n cap : Nat} {L : List (List ByteArray)} (h : OSS w B g n cap L) : OSS w.drew B g n cap L := h
theorem oss_lt {w : World} {B g n cap : Nat} {L : List (List ByteArray)} (h : OSS w B g n cap L) : B ≤ g ∧ g < w.heap.size := by
  obtain ⟨V, f, h1, h2, h3, h4⟩ := h
  exact h2.lt g rfl
theorem infoSS : (Try.prog.info? 23).map (fun i => (i.zero, i.size, i.bytes)) = some (some (.slice none 0 0), 1, 24) := by kernel_rfl
theorem oss_nil (w : World) (B : Nat) (hB : B ≤ w.heap.size) : OSS (w.alloc (.cells #[] 23)) B w.heap.size 0 0 [] :=
  ⟨[], fun _ => 0, rfl, World.ownsRow_lit (base := B) (e := 23) (size := 1) w #[] 0 hB (by decide) rfl, fun j hj => absurd hj (by omega), fun i j h1 h2 => absurd h2 (by omega)⟩
theorem row3_own (w : World) (B : Nat) (hB : B ≤ w.heap.size) (a b c : ByteArray) : (w.alloc (.cells #[.string a, .string b, .string c] 9)).ownsRow B 9 1 (.slice (some ⟨w.heap.size, 0, none⟩) 3 3) 3 (sv [a, b, c]) :=
  World.ownsRow_lit (base := B) (e := 9) (size := 1) w #[.string a, .string b, .string c] 3 hB (by decide) rfl
/-- Behind an append of a row just built. -/
theorem oss_app {w wr w1 : World} {B g n cap cap' gg : Nat} {L : List (List ByteArray)} {V : List Value} {f : Nat → Nat} {a b c : ByteArray} (hL : L.length = n)
    (hrows : ∀ j, j < n → V[j]? = some (.slice (some ⟨f j, 0, none⟩) 3 3) ∧ (L.getD j []).length = 3 ∧ w.ownsRow B 9 1 (.slice (some ⟨f j, 0, none⟩) 3 3) 3 (sv (L.getD j [])) ∧ f j ≠ g) (hinc : ∀ i j, i < j → j < n → f i < f j) (hB : B ≤ w.heap.size) (hgl : g < w.heap.size) (hVl : V.length = n)
    (hwr : wr = ((w.alloc (.cells #[.string a, .string b, .string c] 9)).alloc (.cells #[.slice (some ⟨w.heap.size, 0, none⟩) 3 3] 23)).drew)
    (hown : w1.ownsRow B 23 1 (.slice (some ⟨gg, 0, none⟩) (n + 1) cap') (n + 1) (V ++ [.slice (some ⟨w.heap.size, 0, none⟩) 3 3]))
    (hg : wr.grownBy w1 (some g)) (hat : (Value.slice (some ⟨g, 0, none⟩) n cap).ownBlock = some gg ∨ gg = w.heap.size + 1 + 1) : OSS w1 B gg (n + 1) cap' (L ++ [[a, b, c]]) := by
  subst hwr
  have hgg : gg = g ∨ gg = w.heap.size + 1 + 1 := by
    rcases hat with e | e
    · left; have : g = gg := by simpa [Value.ownBlock] using e
      omega
    · exact .inr e
  have hlt : ∀ j, j < n → f j < w.heap.size := fun j hj => ((hrows j hj).2.2.1.lt (f j) rfl).2
  refine ⟨V ++ [.slice (some ⟨w.heap.size, 0, none⟩) 3 3], fun j => if j < n then f j else w.heap.size, by simp [hL], hown, fun j hj => ?_, fun i j h1 h2 => ?_⟩
  · by_cases e : j < n
    · obtain ⟨q1, q2, q3, q4⟩ := hrows j e
      have hfl := hlt j e
      simp only [if_pos e]
      have hgd : (L ++ [[a, b, c]]).getD j [] = L.getD j [] := by rw [List.getD_eq_getElem?_getD, List.getD_eq_getElem?_getD, List.getElem?_append_left (by omega)]
      rw [hgd]
      refine ⟨by rw [List.getElem?_append_left (by omega)]; exact q1, q2, ?_, by omega⟩
      exact ((q3.alloc _).alloc _).drew.kept hg (.inr (by simp [Value.ownBlock]; omega))
    · obtain rfl : j = n := by omega
      simp only [if_neg e]
      have hgd : (L ++ [[a, b, c]]).getD j [] = [a, b, c] := by rw [List.getD_eq_getElem?_getD, List.getElem?_append_right (by omega), hL, Nat.sub_self]; rfl
      rw [hgd]
      refine ⟨by rw [List.getElem?_append_right (by omega), hVl, Nat.sub_self]; rfl, rfl, ?_, by omega⟩
      exact ((row3_own w B hB a b c).alloc _).drew.kept hg (.inr (by simp [Value.ownBlock]; omega))
  · dsimp only
    by_cases e : j < n
    · rw [if_pos e, if_pos (by omega)]; exact hinc i j h1 e
    · rw [if_neg e]
      by_cases e2 : i < n
      · rw [if_pos e2]; exact hlt i e2
      · omega
end Go.Proofs.Ytilbhingfnjppab
