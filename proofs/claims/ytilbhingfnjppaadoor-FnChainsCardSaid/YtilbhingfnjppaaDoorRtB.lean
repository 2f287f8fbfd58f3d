/- The first letters of a fixed point: the walk. -/
import Derived.Test.YtilbhingfnjppaaDoorRtA
set_option linter.unusedSimpArgs false
set_option linter.unusedVariables false
namespace Go.Proofs.YtilbhingfnjppaaDoor
open Go.RowKit
def letL (n : Nat) (l : List UInt8) : Prop := ∀ b ∈ l, 97 ≤ b.toNat ∧ b.toNat < 97 + n
theorem letL_of {n : Nat} {z : ByteArray} (h : letP n z) : letL n z.data.toList := by
  intro b hb
  obtain ⟨j, hj, rfl⟩ := List.getElem_of_mem hb
  have hj' : j < z.size := by simpa using hj
  obtain ⟨q1, q2⟩ := h j hj'
  have e := bt_eq z j hj'
  have e2 : z.data.toList[j] = z[j]'hj' := by simp; rfl
  rw [e2]
  unfold inL at q1
  unfold lt at q2
  omega
theorem letL_app {n : Nat} {x y : List UInt8} (hx : letL n x) (hy : letL n y) : letL n (x ++ y) := fun b hb => (List.mem_append.1 hb).elim (hx b) (hy b)
theorem letP_of {n : Nat} {l : List UInt8} (hn : n ≤ 4) (h : letL n l) : letP n ⟨l.toArray⟩ := by
  intro j hj
  have := bt_of_list (k := (n : Int)) (fun b hb => by have := h b hb; omega) j hj
  unfold inL lt; omega
theorem conv_m (w : World) (z : ByteArray) (hz : z.size ≤ 400) : ∃ K W2, (convert 9 24 (.string z)).run Tryd.prog w = .ok (.slice (some ⟨w.heap.size, 0, none⟩) z.size K) W2 ∧ w.grownBy W2 none ∧ W2.heap.size = w.heap.size + 1 ∧ Mrow W2 w.heap.size w.heap.size z.size K z.data.toList ∧ Below w.heap.size w W2 := by
  refine ⟨_, _, run_bytes_of_string w 9 24 5 z Tryd.underlying9 Tryd.underlying24 Tryd.underlying5, ⟨rfl, rfl, rfl, by simp, fun k hk _ => Below.heap_alloc w.drew _ k hk⟩, by simp, ?_, ?_⟩
  · refine mrow_conv w w.heap.size z (Nat.le_refl _) hz _ rfl _ ?_
    have hs : z.data.size = z.size := rfl
    unfold bytesRow; simp; omega
  · exact (Below.refl _ w).drew.alloc (by simp) _
theorem step_app_m {P : Program} {w : World} {ops : Array Oper} {o : Oper} {a : Act} {K : Act → World → Prop} {Q : Exit → Act → World → Prop} {E : Prop} (hgd : o.guard = none) (s x : Operand) (t : TypeId)
    (ho : o.op = .call { callee := .builtin .append, args := #[s, x], argTypes := #[t, t] }) (v u : Value) (hs : a.eval s = v) (hx : a.eval x = u)
    (R : Nat → Nat → World → Prop) (n : Nat) (hr : ∃ g' c' w', (Builtin.append_ #[t, t] o.type #[v, u]).run P w = .ok (.slice (some ⟨g', 0, none⟩) n c') w' ∧ R g' c' w')
    (h : ∀ g' c' w', R g' c' w' → K (a.put o.dst (.slice (some ⟨g', 0, none⟩) n c')) w') :
    if Region.wanted o (yielded ops a.tmps) = true then Oper.wp P o a w K Q else E := by
  have hw : Region.wanted o (yielded ops a.tmps) = true := by simp [Region.wanted, hgd]
  rw [if_pos hw]
  obtain ⟨g', c', w', hr, h2⟩ := hr
  unfold Oper.wp execOp
  simp only [ho, resolve, invoke, builtin, Sem.run_bind, Sem.run_pure, Result.andThen_ok, List.map_toArray, List.map_cons, List.map_nil, hs, hx, hr]
  exact h g' c' w' h2
end Go.Proofs.YtilbhingfnjppaaDoor
