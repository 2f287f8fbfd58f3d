/- What a walk is told of an automaton that came in. -/
import Derived.Test.YtfbcbfimhgaicaaRowIn
import Derived.Test.YtfbcbfimhgaicaaMatA
set_option linter.unusedSimpArgs false
set_option linter.unusedVariables false
namespace Go.Proofs.Ytfbcbfimhgaicaa
open Go.ChangeShapes Go.WideShapes Go.ChangeAt Go.RowKit Go.Joins Go.Deep
theorem isMat_raw {H : Type} {enc : TypeId × Value → H} {P : Program} {W : World} {t e q : TypeId} {fuel : Nat} {c0 : Value} {y : DataW H × List MemPlace}
    (ht : P.underlying t = some (.slice e)) (he : P.underlying e = some (.slice q)) (hq : P.underlying q = some (.int .i64)) (ce : P.cellsOf e = 1) (cq : P.cellsOf q = 1)
    (hf : DataW.trod enc P W 0 (fun _ => true) true fuel t [c0] = some y) : ∃ x l c Z, c0 = .slice x l c ∧ IsMat W x l Z := by
  rcases open_int_rows ht he hq ce cq hf with ⟨hcs, _⟩ | ⟨a, len, cap, A, L, C, Z, hcs, _, hl, hm, _, hrow⟩
  · simp at hcs
    exact ⟨none, 0, 0, fun _ => [], hcs, by omega, fun _ => none, fun _ => 0, .inl rfl, fun r hr => absurd hr (by omega)⟩
  · simp at hcs
    unfold maxLen at hm
    have hZl : ∀ r, r < len → ((Z r).take (L r)).length = L r := fun r hr => by
      obtain ⟨_, h1, _, h3, _⟩ := hrow r (by omega)
      simp; omega
    refine ⟨some a, len, cap, fun r => (Z r).take (L r), hcs, by omega, A, C, ?_, fun r hr => ?_⟩
    · by_cases h0 : len = 0
      · exact .inl h0
      · right
        obtain ⟨b, off, spot⟩ := a
        have hc0 := (hrow 0 (by omega)).1
        have hspot : spot = none := by simpa [Addr.add] using World.cell?_spot hc0
        subst hspot
        refine ⟨b, off, rfl, ?_, fun j hj => ?_⟩
        · have := World.block_lt_of_cell? W _ hc0; simpa [Addr.add] using this
        · have := (hrow j (by omega)).1
          rw [hZl j hj, ← this, Addr.add_lit]
    · obtain ⟨_, h1, h2, h3, h4, h5, h6⟩ := hrow r (by omega)
      refine ⟨rfl, by rw [hZl r hr]; unfold maxLen at h2; omega, ?_⟩
      show ((Z r).take (L r)).length = 0 ∨ _
      rw [hZl r hr]
      by_cases h0 : L r = 0
      · exact .inl h0
      · right
        cases hA : A r with
        | none => have := h5 hA; omega
        | some a' =>
          obtain ⟨_, hcell⟩ := h6 a' hA
          obtain ⟨b, off, spot⟩ := a'
          have hc0 := hcell 0 (by omega)
          have hspot : spot = none := by simpa [Addr.add] using World.cell?_spot hc0
          subst hspot
          refine ⟨b, off, rfl, ?_, fun j hj => ?_⟩
          · have := World.block_lt_of_cell? W _ hc0; simpa [Addr.add] using this
          · have := hcell j (by omega)
            rw [getD_take _ _ _ _ hj, ← this, Addr.add_lit]
theorem isAuto_of {H : Type} {enc : TypeId × Value → H} {P : Program} {W : World} {r : Reach} {b0 : Nat} {t e q : TypeId} {f0 f1 f2 : Field} {v : Value} {d : DataW H} {p : List MemPlace}
    (hs : P.underlying t = some (.struct #[f0, f1, f2])) (hone : oneCellFields P #[f0, f1, f2] = true) (hC : P.cellsOf t = 3) (hi : P.underlying f0.type = some (.int .i64))
    (ht : P.underlying f1.type = some (.slice e)) (he : P.underlying e = some (.slice q)) (hq : P.underlying q = some (.int .i64)) (ce : P.cellsOf e = 1) (cq : P.cellsOf q = 1) (hstr : P.underlying f2.type = some .string)
    (hv : Value.okWide P W r b0 t v) (h : DataW.Trod enc P W 0 (fun _ => true) true t v d p) :
    ∃ b x l c Z o, v = .agg #[.int .i64 b, .slice x l c, .string o] ∧ IsMat W x l Z ∧ o.size ≤ maxLen := by
  obtain ⟨cs, rfl, hsz⟩ := okWide_struct hs hv
  obtain ⟨c0, c1, c2, rfl⟩ : ∃ c0 c1 c2, cs = #[c0, c1, c2] := by
    obtain ⟨l⟩ := cs
    match l, hsz.trans hC with
    | [c0, c1, c2], _ => exact ⟨c0, c1, c2, rfl⟩
  obtain ⟨fuel, hf⟩ := h
  obtain ⟨xs, n, _, hx, _, hlen, hff⟩ := DataW.trod_struct hs hf
  obtain ⟨o0, k0⟩ := hone_of hone 0 f0 rfl
  obtain ⟨o1, k1⟩ := hone_of hone 1 f1 rfl
  obtain ⟨o2, k2⟩ := hone_of hone 2 f2 rfl
  obtain ⟨y0, y1, y2, rfl⟩ : ∃ y0 y1 y2, xs = [y0, y1, y2] := by
    match xs, hlen with
    | [y0, y1, y2], _ => exact ⟨y0, y1, y2, rfl⟩
  have h0 := hff 0 f0 rfl
  have h1 := hff 1 f1 rfl
  have h2 := hff 2 f2 rfl
  simp [Value.cells, o0, k0] at h0
  simp [Value.cells, o1, k1] at h1
  simp [Value.cells, o2, k2] at h2
  obtain ⟨a, ea, _, wa⟩ := DataW.trod_int hi h0
  obtain ⟨x, l, c, Z, rfl, hm⟩ := isMat_raw ht he hq ce cq h1
  obtain ⟨o, eo, _, ho⟩ := DataW.trod_string hstr h2
  simp at ea eo
  subst ea eo
  exact ⟨a, x, l, c, Z, o, rfl, hm, ho⟩
end Go.Proofs.Ytfbcbfimhgaicaa
