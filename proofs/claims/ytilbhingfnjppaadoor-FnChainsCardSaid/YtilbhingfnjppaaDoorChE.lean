/- A number put into an ascending list: the walk. -/
import Derived.Test.YtilbhingfnjppaaDoorMCh
import Derived.Test.YtilbhingfnjppaaDoorMGold
import Derived.Test.YtilbhingfnjppaaDoorBase2
import Derived.Test.YtilbhingfnjppaaDoorBytes
import Derived.Maps.AppendAt
set_option linter.unusedSimpArgs false
set_option linter.unusedVariables false
namespace Go.Proofs.YtilbhingfnjppaaDoor
open Go.RowKit
theorem infoG : (Tryd.prog.info? 44).map (fun i => (i.zero, i.size, i.bytes)) = some (some (.agg #[.int .i64 0, .int .i64 0]), 2, 16) := by kernel_rfl
/-- The cells of a list of golden numbers. -/
def gv (L : List GP) : List Value := L.flatMap (fun p => [Value.int .i64 p.1, Value.int .i64 p.2])
theorem gv_len (L : List GP) : (gv L).length = L.length * 2 := by
  induction L with
  | nil => rfl
  | cons a L ih => unfold gv at *; rw [List.flatMap_cons, List.length_append, ih]; simp; omega
theorem gv_app (L M : List GP) : gv (L ++ M) = gv L ++ gv M := by simp [gv]
theorem gv_at (L : List GP) : ∀ j, j < L.length → (gv L)[2 * j]? = some (.int .i64 (L.getD j (0, 0)).1) ∧ (gv L)[2 * j + 1]? = some (.int .i64 (L.getD j (0, 0)).2) := by
  induction L with
  | nil => intro j hj; simp at hj
  | cons a L ih =>
    intro j hj
    cases j with
    | zero => simp [gv]
    | succ j =>
      have := ih j (by simpa using hj)
      have e : gv (a :: L) = [Value.int .i64 a.1, Value.int .i64 a.2] ++ gv L := by simp [gv]
      rw [e, show 2 * (j + 1) = 2 * j + 2 by omega]
      simp only [List.getElem?_append_right (show [Value.int IntKind.i64 a.1, Value.int IntKind.i64 a.2].length ≤ 2 * j + 2 by simp), List.getElem?_append_right (show [Value.int IntKind.i64 a.1, Value.int IntKind.i64 a.2].length ≤ 2 * j + 2 + 1 by simp)]
      simpa using this
theorem gv_one (L : List GP) : ∀ u ∈ gv L, u.oneCell' = true := by
  intro u hu
  obtain ⟨p, _, hp⟩ := List.mem_flatMap.1 hu
  simp at hp
  rcases hp with rfl | rfl <;> rfl
theorem own2_cell {w : World} {B : Nat} {g n cap : Nat} {xs : List Value} (h : w.ownsRow B 44 2 (.slice (some ⟨g, 0, none⟩) n cap) n xs) (j : Nat) (hj : j < n * 2) : w.cell? ⟨g, j, none⟩ = xs[j]? := h.cellAt j hj
theorem own2_below {W w1 : World} {B : Nat} {e : TypeId} {v : Value} {n : Nat} {xs : List Value} (h : W.ownsRow B e 2 v n xs) (hb : Below W.heap.size W w1) : w1.ownsRow B e 2 v n xs :=
  h.kept (below_grown hb) (by cases v.ownBlock <;> simp)
def bg (x : GP) : Prop := (-50000 ≤ x.1 ∧ x.1 ≤ 50000) ∧ (-50000 ≤ x.2 ∧ x.2 ≤ 50000)
theorem gt_key {x y : GP} (hx : bg x) (hy : bg y) : sgn (y.1 - x.1) (y.2 - x.2) = 1 ↔ key x < key y := by
  obtain ⟨⟨x1, x2⟩, ⟨x3, x4⟩⟩ := hx
  obtain ⟨⟨y1, y2⟩, ⟨y3, y4⟩⟩ := hy
  rw [(sgn_lin (bd_of (by omega) (by omega)) (bd_of (by omega) (by omega))).1, vl_sub]
  unfold key
  omega
theorem app_formS {w1 : World} {B H W n0 c0 N m sz : Nat} {e : TypeId} {v' : Value} {xs : List Value} (hown : w1.ownsRow B e sz v' N xs) (hnil : v' = .slice none 0 0 ↔ (Value.slice (some ⟨H, 0, none⟩) n0 c0) = .slice none 0 0 ∧ m = 0) (hat : v'.ownBlock = some H ∨ v'.ownBlock = some W) : ∃ g1 c1, v' = .slice (some ⟨g1, 0, none⟩) N c1 ∧ (g1 = H ∨ g1 = W) := by
  rcases hown.2 with ⟨h', _⟩ | ⟨g1, c1, _, h', _⟩
  · exact absurd (hnil.1 h').1 (by simp)
  · subst h'
    exact ⟨g1, c1, rfl, by simpa [Value.ownBlock] using hat⟩
theorem gv_takel {L : List GP} {n K : Nat} (hlen : L.length = n) (hK : K ≤ n) : (gv (L.take K)).length = K * 2 := by rw [gv_len, List.length_take, Nat.min_eq_left (by omega)]
theorem gv_take {L : List GP} {n K : Nat} {w : World} {g : Nat} (hc : Hid (∀ j, j < n * 2 → w.cell? ⟨g, j, none⟩ = (gv L)[j]?)) (hlen : L.length = n) (hK : K ≤ n) : ∀ j u, (gv (L.take K))[j]? = some u → w.cell? ((⟨g, 0, none⟩ : Addr).add j) = some u := by
  intro j u hu
  have hl : (gv (L.take K)).length = K * 2 := by rw [gv_len, List.length_take]; congr 1; omega
  have hj : j < K * 2 := by
    by_cases h : j < K * 2
    · exact h
    · rw [List.getElem?_eq_none (by omega)] at hu; cases hu
  rw [Addr.add_lit, Nat.zero_add, hc.out j (by omega), ← hu]
  conv => lhs; rw [← List.take_append_drop K L, gv_app]
  rw [List.getElem?_append_left (by omega)]
theorem gv_drop {L : List GP} {n K : Nat} {w : World} {g : Nat} (hc : Hid (∀ j, j < n * 2 → w.cell? ⟨g, j, none⟩ = (gv L)[j]?)) (hlen : L.length = n) (hK : K ≤ n) : ∀ j u, (gv (L.drop K))[j]? = some u → w.cell? ((⟨g, K * 2, none⟩ : Addr).add j) = some u := by
  intro j u hu
  have hl : (gv (L.take K)).length = K * 2 := by rw [gv_len, List.length_take]; congr 1; omega
  have hd : (gv (L.drop K)).length = (n - K) * 2 := by rw [gv_len, List.length_drop, hlen]
  have hj : j < (n - K) * 2 := by
    by_cases h : j < (n - K) * 2
    · exact h
    · rw [List.getElem?_eq_none (by omega)] at hu; cases hu
  rw [Addr.add_lit, hc.out (K * 2 + j) (by omega), ← hu]
  conv => lhs; rw [← List.take_append_drop K L, gv_app]
  rw [List.getElem?_append_right (by omega), hl, Nat.add_sub_cancel_left]
theorem far_gv {w w' : World} {g H n : Nat} {L : List GP} (h : Hid (∀ j, j < n * 2 → w.cell? ⟨g, j, none⟩ = (gv L)[j]?)) (hg : w.grownBy w' (some H)) (hl : g < w.heap.size) (hne : g ≠ H) : Hid (∀ j, j < n * 2 → w'.cell? ⟨g, j, none⟩ = (gv L)[j]?) :=
  fun j hj => (hg.cell_far ⟨g, j, none⟩ hl (by simp; omega)).trans (h.out j hj)
theorem alloc_gv {w : World} {o : Obj} {g n : Nat} {L : List GP} (h : Hid (∀ j, j < n * 2 → w.cell? ⟨g, j, none⟩ = (gv L)[j]?)) (hl : g < w.heap.size) : Hid (∀ j, j < n * 2 → (w.alloc o).cell? ⟨g, j, none⟩ = (gv L)[j]?) :=
  fun j hj => (calloc hl).trans (h.out j hj)
end Go.Proofs.YtilbhingfnjppaaDoor
