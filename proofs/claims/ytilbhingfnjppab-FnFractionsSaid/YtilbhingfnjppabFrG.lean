/- What the walk of FnFractions wants besides: an append of what may be empty, the standard word or none, a step of the convergents. -/
import Derived.Test.YtilbhingfnjppabFrF
import Derived.Test.YtilbhingfnjppabFrQ
import Derived.Test.YtilbhingfnjppabFrD
import Derived.Deep.AppendSrc
import Derived.Deep.AppendLies
set_option linter.unusedSimpArgs false
set_option linter.unusedVariables false
namespace Go.Proofs.Ytilbhingfnjppab
open Go.RowKit
theorem own_capF {w : World} {B : Nat} {e : TypeId} {g n cap : Nat} {xs : List Value} (h : w.ownsRow B e 1 (.slice (some ⟨g, 0, none⟩) n cap) n xs) : n ≤ cap := by
  rcases h.2 with ⟨e, _⟩ | ⟨g', cap', cur, e, _, _, h1, _⟩
  · cases e
  · cases e; exact h1
/-- An append to an own row of what may be empty, at a step of a region that draws. -/
theorem step_append_manyF {P : Program} {w : World} {ops : Array Oper} {o : Oper} {a : Act} {K : Act → World → Prop} {Q : Exit → Act → World → Prop} {E : Prop} (hgd : o.guard = none) (s x : Operand) (t : TypeId)
    (ho : o.op = .call { callee := .builtin .append, args := #[s, x], argTypes := #[t, t] })
    (base : Nat) (e : TypeId) (i : TypeInfo) (z : Value) (size bytes : Nat) (ht : P.underlying t = some (.slice e)) (hi : P.info? e = some i) (hz : i.zero = some z)
    (hsize : i.size = size) (hby : i.bytes = bytes) (hzs : z.cells.size = size) (hsz : 0 < size)
    (g0 n c0 : Nat) (xs : List Value) (hs : a.eval s = .slice (some ⟨g0, 0, none⟩) n c0) (hc0 : n ≤ c0) (hg0 : g0 < w.heap.size) (hown : w.ownsRow base e size (.slice (some ⟨g0, 0, none⟩) n c0) n xs)
    (y : Option Addr) (m c : Nat) (news : List Value) (hx : a.eval x = .slice y m c) (hl : news.length = m * size) (hsrc : ∃ ad, y = some ad ∧ ∀ j u, news[j]? = some u → w.cell? (ad.add j) = some u) (h1 : ∀ u ∈ news, u.oneCell' = true)
    (h63 : n + m ≤ maxLen) (hbytes : (n + m) * bytes ≤ 140737488355328) (hbase : base ≤ w.heap.size)
    (h : ∀ g cap w', w'.ownsRow base e size (.slice (some ⟨g, 0, none⟩) (n + m) cap) (n + m) (xs ++ news) → w.grownBy w' (some g0) → (g = g0 ∨ g = w.heap.size) → g < w'.heap.size → K (a.put o.dst (.slice (some ⟨g, 0, none⟩) (n + m) cap)) w') :
    if Region.wanted o (yielded ops a.tmps) = true then Oper.wp P o a w K Q else E := by
  obtain ⟨ad, rfl, hnews⟩ := hsrc
  by_cases hm : 0 < m
  · refine step_append_lies w hgd s x t ho base e i z size bytes ht hi hz hsize hby hzs hsz (.slice (some ⟨g0, 0, none⟩) n c0) n xs hs hown ad m c news hx hl hnews h1 hm h63 hbytes hbase w.heap.size rfl ?_
    intro g cap w' q1 q2 q3 q4
    have q5 : g = g0 ∨ g = w.heap.size := by
      rcases q3 with q | q
      · left
        have : g0 = g := by simpa [Value.ownBlock] using q
        omega
      · exact .inr q
    exact h g cap w' q1 q2 q5 q4
  · obtain rfl : m = 0 := by omega
    obtain rfl : news = [] := List.length_eq_zero_iff.1 (by rw [hl]; omega)
    have hw : Region.wanted o (yielded ops a.tmps) = true := by simp [Region.wanted, hgd]
    rw [if_pos hw]
    have hr : (Builtin.append_ #[t, t] o.type #[.slice (some ⟨g0, 0, none⟩) n c0, .slice (some ad) 0 c]).run P w = .ok (.slice (some ⟨g0, 0, none⟩) (n + 0) c0) w :=
      run_append_room_src w t t o.type e i ht hi g0 0 n c0 (.slice (some ad) 0 c) 0 [] (Src.ofSlice w ht ad 0 c [] (by simp) (fun j u q => by simp at q) (fun u q => by cases q)) (by omega) (fun j hj => absurd hj (by simp)) (fun j hj => absurd hj (by simp))
    unfold Oper.wp execOp
    simp only [ho, resolve, invoke, builtin, Sem.run_bind, Sem.run_pure, Result.andThen_ok, List.map_toArray, List.map_cons, List.map_nil, hs, hx, hr]
    exact h g0 c0 w (by rw [List.append_nil]; exact hown) (World.grownBy.refl _ _) (.inl rfl) hg0
/-- The standard word, or none. -/
theorem std_casesF (d : Nat) (t : List Nat) (hd : d ≤ 3) (ht : t.length ≤ 5) (h4 : ∀ j, j < t.length → 1 ≤ t.getD j 0 ∧ t.getD j 0 ≤ 4) :
    swV (zN (d :: t)) = .tuple #[.string ⟨#[]⟩, .bool false] ∨ ∃ v, swV (zN (d :: t)) = .tuple #[.string v, .bool true] ∧ v.size ≤ 400 ∧ v.data.toList.count 98 = cN (eL d t) (t.length + 1) ∧ v.size = dN (eL d t) (t.length + 1) ∧ (v.size ≤ 100 → balP v) ∧ (2 ≤ v.size → cenQ (v.extract 0 (v.size - 2))) ∧ binB v = true := by
  rcases ho : swO (zN (d :: t)) with _ | ⟨u, v⟩
  · exact .inl (sw_none ho)
  · refine .inr ⟨v, sw_some ho, ?_⟩
    unfold swO at ho
    split at ho
    · rw [zN_len, List.length_cons] at ho
      exact std_law d t hd ht h4 u v ho
    · cases ho
theorem aaabF : nsV ⟨#[98]⟩ ⟨#[97]⟩ 3 = .tuple #[.string ⟨#[97, 97, 97, 98]⟩, .bool true] := by
  have h1 : isWP ⟨#[98]⟩ := wB_word
  have h2 : isWP ⟨#[97]⟩ := ⟨by decide, fun j hj => by
    have : j < 1 := hj
    obtain rfl : j = 0 := by omega
    exact ⟨by decide, by decide⟩⟩
  have e : rpt ⟨#[97]⟩ 3 ++ (⟨#[98]⟩ : ByteArray) = ⟨#[97, 97, 97, 98]⟩ := by rfl
  have h3 : isWP ⟨#[97, 97, 97, 98]⟩ := ⟨by decide, fun j hj => by
    have : j < 4 := hj
    have : j = 0 ∨ j = 1 ∨ j = 2 ∨ j = 3 := by omega
    rcases this with rfl | rfl | rfl | rfl <;> exact ⟨by decide, by decide⟩⟩
  have hp : nsP ⟨#[98]⟩ ⟨#[97]⟩ 3 := by
    unfold nsP
    exact ⟨by omega, h1, h2, by rw [show (3 : Int).toNat = 3 from rfl, e]; exact h3⟩
  rw [ns_yes hp, show (3 : Int).toNat = 3 from rfl, e]
set_option maxRecDepth 20000 in
set_option maxHeartbeats 1000000 in
theorem Path24_any (w : World) :
    Calls Try.prog 43 #[.int .i64 2, .int .i64 4] w fun e w' => e = .returned (.string ⟨#[]⟩) ∧ Below w.heap.size w w' := by
  have hI1 : ∀ w, Calls Try.prog 65 #[.int .i64 2, .int .i64 1, .int .i64 400] w fun e w' => e = .returned (.bool true) ∧ w = w' := fun w => within_any 2 1 400 w
  have hI2 : ∀ w, Calls Try.prog 65 #[.int .i64 4, .int .i64 1, .int .i64 400] w fun e w' => e = .returned (.bool true) ∧ w = w' := fun w => within_any 4 1 400 w
  have hD : ∀ w, Calls Try.prog 86 #[.int .i64 2, .int .i64 4] w fun e w' => e = .returned (.int .i64 2) ∧ Below w.heap.size w w' := fun w => divisor_any 2 4 w (by omega) (by omega)
  go_enter Try.func43, Try.ntmps43
  go_wp2_with (first | (go_at_call 65; (with_reducible refine (hI1 _).mono ?_); rintro e w1 ⟨rfl, rfl⟩) | (go_at_call 65; (with_reducible refine (hI2 _).mono ?_); rintro e w1 ⟨rfl, rfl⟩) | (go_at_call 86; (with_reducible refine (hD _).mono ?_); rintro e w2 ⟨rfl, hb2⟩))
  go_ret
  exact ⟨rfl, by (repeat (first | with_reducible exact Below.refl _ _ | assumption | with_reducible refine Qdrew ?_ | with_reducible refine QdrewN ?_ | ((with_reducible refine Qset ?_ ?_); exact (by ((try simp only [World.size_alloc, World.size_setCell, World.size_drew, size_drewN]); (try dsimp only); omega))) | ((with_reducible refine Qalloc ?_ ?_); exact (by ((try simp only [World.size_alloc, World.size_setCell, World.size_drew, size_drewN]); (try dsimp only); omega))) | refine Qtrans (by assumption) (by ((try simp only [World.size_alloc, World.size_setCell, World.size_drew, size_drewN]); (try dsimp only); omega)) ?_))⟩
theorem Path11_any (w : World) :
    Calls Try.prog 43 #[.int .i64 1, .int .i64 1] w fun e w' => e = .returned (.string ⟨#[]⟩) ∧ Below w.heap.size w w' := by
  have := Path_any 1 1 (by omega) (by omega) (by omega) (by omega) (by decide) w
  rwa [sb_end (by omega) rfl] at this
end Go.Proofs.Ytilbhingfnjppab
