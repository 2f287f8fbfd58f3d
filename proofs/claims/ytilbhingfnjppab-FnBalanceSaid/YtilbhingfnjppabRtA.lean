/- A row of bytes that began as a string made bytes: it may bear a mark behind its end. Append onto it, and back into a string. -/
import Derived.Test.YtilbhingfnjppabMDrb
import Derived.ArgAppend
import Derived.Deep.AppendLies
import Derived.Deep.RegionLaw
set_option linter.unusedSimpArgs false
set_option linter.unusedVariables false
namespace Go.Proofs.Ytilbhingfnjppab
open Go.RowKit
def Mrow (w : World) (B g n cap : Nat) (l : List UInt8) : Prop :=
  l.length = n ∧ B ≤ g ∧ g < w.heap.size ∧ n ≤ cap ∧ cap ≤ maxLen ∧ (∀ j, j < n → w.cell? ⟨g, j, none⟩ = (bv l)[j]?) ∧ ∀ j, j < cap → (w.cell? ⟨g, j, none⟩).isSome = true ∧ w.frozen? ⟨g, j, none⟩ = false
theorem grown_setCells (g : Nat) : ∀ (vs : List Value) (o : Nat) (w : World), w.grownBy (w.setCells g o vs) (some g)
  | [], _, w => ⟨rfl, rfl, rfl, Nat.le_refl _, fun _ _ _ => rfl⟩
  | v :: r, o, w => (grown_set w g o v).trans (grown_setCells g r (o + 1) _)
theorem mrow_kept {w w' : World} {B g n cap : Nat} {l : List UInt8} (h : Mrow w B g n cap l) (hg : w.grownBy w' none) : Mrow w' B g n cap l := by
  obtain ⟨h1, h2, h3, h4, h5, h6, h7⟩ := h
  have hc := fun j => hg.cell_far ⟨g, j, none⟩ h3 (by simp)
  have hf := fun j => hg.frozen_far ⟨g, j, none⟩ h3 (by simp)
  exact ⟨h1, h2, Nat.lt_of_lt_of_le h3 hg.size, h4, h5, fun j hj => (hc j).trans (h6 j hj), fun j hj => by rw [hc j, hf j]; exact h7 j hj⟩
theorem own_mrow {w : World} {B g n cap : Nat} {l : List UInt8} (h : w.ownsRow B 5 1 (.slice (some ⟨g, 0, none⟩) n cap) n (bv l)) : Mrow w B g n cap l := by
  have hl := h.lt g rfl
  have h0 := h
  rcases h.2 with ⟨h', _⟩ | ⟨g0, cap0, cur, he, hbg, hg, hnc, hcm, hcs, htake⟩
  · cases h'
  · cases he
    refine ⟨by simpa [bv] using h.1, hl.1, hl.2, hnc, hcm, fun j hj => own_cell h0 j hj, fun j hj => ⟨?_, h0.frozenAt j⟩⟩
    rw [cell_of_row w g j cur _ _ hg]
    simp
    omega
theorem mrow_app {w : World} {B : Nat} (t ty : TypeId) (i : TypeInfo) (z : Value) (ht : Try.prog.underlying t = some (.slice 5)) (hi : Try.prog.info? 5 = some i) (hz : i.zero = some z)
    (hsize : i.size = 1) (hby : i.bytes = 1) (hzs : z.cells.size = 1) {g n cap : Nat} {l : List UInt8} (h : Mrow w B g n cap l) (hB : B ≤ w.heap.size)
    (a : Addr) (m c : Nat) (l2 : List UInt8) (hl : l2.length = m) (hnews : ∀ j u, (bv l2)[j]? = some u → w.cell? (a.add j) = some u) (hs : n + m ≤ 1000) :
    ∃ g' c' w', (Builtin.append_ #[t, t] ty #[.slice (some ⟨g, 0, none⟩) n cap, .slice (some a) m c]).run Try.prog w = .ok (.slice (some ⟨g', 0, none⟩) (n + m) c') w' ∧ Mrow w' B g' (n + m) c' (l ++ l2) ∧ w.grownBy w' (some g) := by
  obtain ⟨h1, h2, h3, h4, h5, h6, h7⟩ := h
  have hbl : (bv l2).length = m := by simp [bv, hl]
  have hbl1 : (bv l).length = n := by simp [bv, h1]
  have hone : ∀ u ∈ bv l2, u.oneCell' = true := by intro u hu; obtain ⟨z, _, rfl⟩ := List.mem_map.1 hu; rfl
  have happ : bv (l ++ l2) = bv l ++ bv l2 := by simp [bv]
  by_cases hr : n + m ≤ cap
  · have hin : ∀ j, j < (bv l2).length → (w.cell? ⟨g, n + j, none⟩).isSome = true := fun j hj => (h7 _ (by omega)).1
    have hrun := run_append_room_cells (P := Try.prog) w t ty 5 i ht hi g 0 n cap a m c (bv l2) (by rw [hsize, hbl]; omega) hnews hone hr
      (fun j hj => by rw [hsize, show 0 + n * 1 + j = n + j by omega]; exact hin j hj)
      (fun j hj => by rw [hsize, show 0 + n * 1 + j = n + j by omega]; exact (h7 _ (by omega)).2)
    rw [hsize, show 0 + n * 1 = n by omega] at hrun
    have hgr := grown_setCells g (bv l2) n w
    have hset := fun j hj => World.cell?_setCells_in g (bv l2) n w hin j hj
    refine ⟨g, cap, _, hrun, ⟨by simp [h1, hl], h2, Nat.lt_of_lt_of_le h3 hgr.size, hr, h5, fun j hj => ?_, fun j hj => ⟨?_, ?_⟩⟩, hgr⟩
    · rw [happ]
      by_cases hj2 : j < n
      · rw [World.cell?_setCells_out g (bv l2) n w _ (fun _ _ => .inl hj2), h6 j hj2, List.getElem?_append_left (by omega)]
      · have := hset (j - n) (by omega)
        rw [show n + (j - n) = j by omega] at this
        rw [this, List.getElem?_append_right (by omega), hbl1, List.getElem?_eq_getElem (by omega)]
    · by_cases hj2 : n ≤ j ∧ j < n + m
      · have := hset (j - n) (by omega)
        rw [show n + (j - n) = j by omega] at this
        rw [this]; rfl
      · rw [World.cell?_setCells_out g (bv l2) n w _ (fun _ _ => by show j < n ∨ _ ≤ j; omega)]
        exact (h7 j hj).1
    · rw [World.frozen?_setCells]
      exact (h7 j hj).2
  · obtain ⟨v', w', hrun, hown, hgr⟩ := run_append_arg_grows (P := Try.prog) w t ty 5 i z 1 1 ht hi hz hsize hby hzs (by decide) ⟨g, 0, none⟩ n cap (bv l) (by omega)
      (fun j u hj => by rw [Addr.add_lit, Nat.zero_add, ← hj]; exact h6 j (by have := (List.getElem?_eq_some_iff.1 hj).1; omega)) a m c (bv l2) (by omega) hnews (by omega) (by unfold maxLen; omega) (by omega)
    obtain ⟨g', c', rfl⟩ : ∃ g' c', v' = .slice (some ⟨g', 0, none⟩) (n + m) c' := by
      rcases hown.2 with ⟨rfl, h0⟩ | ⟨g', c', _, rfl, _⟩
      · omega
      · exact ⟨_, _, rfl⟩
    rw [← happ] at hown
    have hm := own_mrow hown
    obtain ⟨q1, q2, q3⟩ := hm
    exact ⟨g', c', w', hrun, ⟨q1, Nat.le_trans hB q2, q3⟩, ⟨hgr.os, hgr.tape, hgr.output, hgr.size, fun k hk _ => hgr.block k hk (by simp)⟩⟩
/-- A string made bytes, in the world that it leaves. -/
theorem mrow_conv (w : World) (B : Nat) (z : ByteArray) (hB : B ≤ w.heap.size) (hz : z.size ≤ 400) (K : Nat) (hK : K = grownCap w z.size 0 5) (f : Nat × Nat) (hf : K ≤ f.1) : Mrow (w.drew.alloc (.cells (bytesRow z K) 5 f)) B w.heap.size z.size K z.data.toList := by
  have hge := grownCap_ge w z.size 0 5
  have hle := grownCap_le_maxLen w z.size 0 5 (by unfold maxLen; omega)
  have hnew : (w.drew.alloc (.cells (bytesRow z K) 5 f)).heap[w.heap.size]? = some (.cells (bytesRow z K) 5 f) := heap_alloc_new w.drew _
  have hsz : (bytesRow z K).size = K := by
    have hs : z.data.size = z.size := rfl
    unfold bytesRow; simp; omega
  refine ⟨rfl, hB, by simp, by omega, by omega, fun j hj => ?_, fun j hj => ⟨?_, ?_⟩⟩
  · rw [cell_of_row _ _ j _ _ _ hnew, bytesRow_at z K j hj]
    have hj' : j < z.data.size := hj
    simp [bv, Array.getElem?_eq_getElem hj']
  · rw [cell_of_row _ _ j _ _ _ hnew, Array.getElem?_eq_getElem (by omega)]; rfl
  · unfold World.frozen?
    rw [hnew]
    simp
    omega
theorem mrow_string {w : World} {B g cap k : Nat} {l : List UInt8} {n : Nat} (h : Mrow w B g n cap l) (hk : k ≤ n) :
    (convert 22 9 (.slice (some ⟨g, 0, none⟩) k cap)).run Try.prog w = .ok (.string ⟨(l.take k).toArray⟩) w := by
  have e : (l.take k).length = k := by rw [List.length_take]; have := h.1; omega
  have := run_convert_bytes_back w 22 9 5 ⟨g, 0, none⟩ cap (l.take k) Try.underlying22 Try.underlying5 Try.underlying9 (fun j hj => by
    rw [Addr.add_lit, Nat.zero_add, h.2.2.2.2.2.1 j (by omega), bv_at _ _ (by have := h.1; omega)]
    simp)
  rwa [e] at this
end Go.Proofs.Ytilbhingfnjppab
