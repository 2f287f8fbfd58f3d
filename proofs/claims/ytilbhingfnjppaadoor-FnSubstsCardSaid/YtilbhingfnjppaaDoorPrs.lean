/- A substitution out of its text, and a text out of a substitution: the walks. -/
import Derived.Test.YtilbhingfnjppaaDoorSplS
import Derived.Test.YtilbhingfnjppaaDoorItr
import Derived.Test.YtilbhingfnjppaaDoorDrC
import Derived.Test.YtilbhingfnjppaaDoorParA
set_option linter.unusedSimpArgs false
set_option linter.unusedVariables false
namespace Go.Proofs.YtilbhingfnjppaaDoor
open Go.RowKit
set_option maxRecDepth 20000 in
set_option maxHeartbeats 1000000 in
theorem ParseSubst_any (t : ByteArray) (zs : List ByteArray) (gm : Int) (w : World) (hgm : w.cell? ⟨0, 0, none⟩ = some (.int .i64 gm)) (hz : t.size ≤ 1000) (hs : Lib.splitB ⟨#[44]⟩ 0 (Lib.countB t ⟨#[44]⟩) t = zs) (hl : Lib.countB t ⟨#[44]⟩ + 1 = zs.length) (hS : sB zs = true) :
    Calls Tryd.prog 15 #[.string t] w fun e w' => ∃ x cap, e = .returned (.tuple #[.agg #[.slice x zs.length cap], .bool true]) ∧ w'.ownsRow w.heap.size 9 1 (.slice x zs.length cap) zs.length (sv zs) ∧ IsStrs w' x zs.length cap zs ∧ Below w.heap.size w w' := by
  have hg0 : 0 < w.heap.size := World.block_lt_of_cell? w _ hgm
  have hb0 : Below w.heap.size w (w.alloc (.cells #[.slice none 0 0] 27)) := (Below.refl _ w).alloc (Nat.le_refl _) _
  have hn4 := (s_of hS).1
  have hsm : Hid (∀ z ∈ zs, z.size ≤ maxLen) := fun z hzz => by
    obtain ⟨j, hj, rfl⟩ := List.getElem_of_mem hzz
    have := ((s_of hS).2 j hj).1.2
    rw [List.getD_eq_getElem?_getD, List.getElem?_eq_getElem hj] at this
    unfold maxLen
    have h2 : (zs[j]).size ≤ 8 := this
    omega
  have cS := Tryd.strings_Split t ⟨#[44]⟩ gm (w.alloc (.cells #[.slice none 0 0] 27)) (by omega) ((hb0.cell (p := ⟨0, 0, none⟩) hg0).trans hgm) (by decide)
  rw [hs, hl] at cS
  have hSH := Lib.hid hS
  obtain ⟨n, hn⟩ : ∃ n, zs.length = n := ⟨_, rfl⟩
  rw [hn] at cS hn4 ⊢
  have hsv : (zs.map Value.string) = sv zs := rfl
  rw [hsv] at cS
  have hnH := Lib.hid hn
  clear hs hl hgm hn hS
  go_enter Tryd.func15, Tryd.ntmps15
  have hsl : (sv zs).length = n := by rw [sv_len]; exact hnH.out
  have o1 := World.ownsRow_lit (base := w.heap.size + 1) (e := 9) (size := 1) (w.alloc (.cells #[.slice none 0 0] 27)) (sv zs).toArray n (by simp) (by unfold maxLen; omega) (by simpa using hsl)
  simp only [World.size_alloc] at o1
  have o2 := own_below o1 ((Below.refl _ _).alloc (Nat.le_refl _) (.cells #[.slice (some ⟨w.heap.size + 1, 0, none⟩) n n] 27))
  have st2 : IsStrs _ (some ⟨w.heap.size + 1, 0, none⟩) n n zs := isStrs_own o2 hsm.out
  have cO := implSubstOk_any (some ⟨w.heap.size + 1, 0, none⟩) n n zs _ st2 (by omega)
  rw [hSH.out] at cO
  have o2H := Lib.hid o2
  clear o1 o2 st2 hsv
  go_wp2_with (first | (go_at_call 60; refine cS.mono ?_; rintro e w1 ⟨rfl, rfl⟩) | (go_at_call 57; refine cO.mono ?_; rintro e w2 ⟨rfl, hb2⟩; obtain ⟨hc2, hf2⟩ := bcell hb2; have hl2 := ltW hb2))
  have hz2 := hb2.size
  simp only [World.size_alloc] at hz2
  have o3 := ownsRow_setCell_below (a := ⟨w.heap.size, 0, none⟩) (own_below o2H.out hb2) (show w.heap.size < w.heap.size + 1 by omega) (.slice (some ⟨w.heap.size + 1, 0, none⟩) n n)
  refine bodyPost_ret (v := .tuple #[.agg #[.slice (some ⟨w.heap.size + 1, 0, none⟩) n n], .bool true]) (by simp [results, Tryd.results15, go_sem, csame, cset, *]) rfl ⟨_, n, rfl, World.ownsRow.mono o3 (by simp), isStrs_own o3 hsm.out, by (repeat (first | with_reducible exact Below.refl _ _ | assumption | with_reducible refine Qdrew ?_ | with_reducible refine QdrewN ?_ | ((with_reducible refine Qset ?_ ?_); exact (by ((try simp only [World.size_alloc, World.size_setCell, World.size_drew, size_drewN]); (try dsimp only); omega))) | ((with_reducible refine Qalloc ?_ ?_); exact (by ((try simp only [World.size_alloc, World.size_setCell, World.size_drew, size_drewN]); (try dsimp only); omega))) | refine Qtrans (by assumption) (by ((try simp only [World.size_alloc, World.size_setCell, World.size_drew, size_drewN]); (try dsimp only); omega)) ?_))⟩
/-- The text of a substitution. -/
def jn (zs : List ByteArray) : ByteArray := ⟨(Lib.join (zs.map (·.data.toList)) [44]).toArray⟩
set_option maxRecDepth 20000 in
set_option maxHeartbeats 1000000 in
theorem FormatSubst_any (x : Option Addr) (n cap : Nat) (zs : List ByteArray) (w : World) (h : IsStrs w x n cap zs) (hS : sB zs = true) :
    Calls Tryd.prog 14 #[.agg #[.slice x n cap]] w fun e w' => e = .returned (.string (jn zs)) ∧ Below w.heap.size w w' := by
  have hn := h.1
  have hn4 := (s_of hS).1
  have hb0 : Below w.heap.size w (w.alloc (.cells #[.slice x n cap] 27)) := (Below.refl _ w).alloc (Nat.le_refl _) _
  have h0 := isStrs_below h (Nat.le_refl _) hb0
  have cO := fun w h => implSubstOk_any x n cap zs w h (by omega)
  rw [hS] at cO
  obtain ⟨b, off, rfl, hbl, hcl⟩ := isStrs_cell h0 (by omega)
  have hcap := h.2.1
  have hlen : (Lib.join (zs.map (·.data.toList)) [44]).length ≤ 140737488355328 := by
    cases zs with
    | nil => simp [Lib.join, List.intercalate]
    | cons z r =>
      rw [List.map_cons, Lib.join_length]
      have hl : ∀ (l : List ByteArray), (∀ y ∈ l, y.size ≤ 8) → Lib.lens (l.map (·.data.toList)) ≤ 8 * l.length := by
        intro l
        induction l with
        | nil => intro _; simp [Lib.lens]
        | cons y l ih =>
          intro hy
          have h1 := hy y List.mem_cons_self
          have h2 := ih (fun q hq => hy q (List.mem_cons_of_mem _ hq))
          have h3 : y.data.toList.length = y.size := Array.length_toList
          simp only [List.map_cons, Lib.lens, List.length_cons, List.sum_cons] at *
          omega
      have h8 : ∀ y ∈ (z :: r), y.size ≤ 8 := fun y hy => by
        obtain ⟨j, hj, rfl⟩ := List.getElem_of_mem hy
        have := ((s_of hS).2 j hj).1.2
        rw [List.getD_eq_getElem?_getD, List.getElem?_eq_getElem hj] at this
        exact this
      have h9 := hl (z :: r) h8
      rw [List.map_cons] at h9
      have h10 : (z :: r).length ≤ 4 := hn4.2
      rw [List.length_map]
      simp only [List.length_cons, List.length_nil] at *
      omega
  have cJ : ∀ w2, w.heap.size + 1 ≤ w2.heap.size → Below (w.heap.size + 1) (w.alloc (.cells #[.slice (some ⟨b, off, none⟩) n cap] 27)) w2 → Calls Tryd.prog 59 #[.slice (some ⟨b, off, none⟩) n cap, .string ⟨#[44]⟩] w2 fun e w' => e = .returned (.string (jn zs)) ∧ Below w2.heap.size w2 w' := fun w2 hz hbel => by
    have hst := isStrs_below h0 (show (w.alloc (.cells #[.slice (some ⟨b, off, none⟩) n cap] 27)).heap.size ≤ w.heap.size + 1 by simp) hbel
    have hc2 : ∀ (j : Nat) x, zs[j]? = some x → w2.cell? ⟨b, off + j, none⟩ = some (.string x) := fun j x hj => by
      have hjl := (List.getElem?_eq_some_iff.1 hj).1
      have := (hbel.cell (p := ⟨b, off + j, none⟩) (by simp at hbl; exact hbl)).trans (hcl j (by omega))
      rw [this, List.getD_eq_getElem?_getD, hj]; rfl
    have := Tryd.strings_Join b off cap zs ⟨#[44]⟩ w2 hc2 (by simp at hbl; omega) (by omega) (by omega) hlen
    rw [hn] at this
    exact this
  obtain ⟨t, ht⟩ : ∃ t, jn zs = t := ⟨_, rfl⟩
  rw [ht] at cJ ⊢
  clear hlen hcl ht
  have hz0 : (w.alloc (.cells #[.slice (some ⟨b, off, none⟩) n cap] 27)).heap.size = w.heap.size + 1 := by simp
  go_enter Tryd.func14, Tryd.ntmps14
  go_wp2_with (first | (go_at_call 57; refine (cO _ h0).mono ?_; rintro e w2 ⟨rfl, hb2⟩; obtain ⟨hc2, hf2⟩ := bcell hb2; have hl2 := ltW hb2) | (go_at_call 59; refine (cJ w2 (by have := hb2.size; omega) (hb2.mono (by omega))).mono ?_; rintro e w3 ⟨rfl, hb3⟩))
  go_ret
  have hz2 := hb2.size
  exact ⟨rfl, Qtrans hb3 (by omega) (Qtrans hb2 (by omega) hb0)⟩
end Go.Proofs.YtilbhingfnjppaaDoor
