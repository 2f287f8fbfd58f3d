/- Chains: the library's Compact at golden numbers. -/
import Derived.Test.YtilbhingfnjppaaDoorChK
import Derived.Test.YtilbhingfnjppaaDoorChI
import Derived.Laws.StructEq
import Derived.Shelf.SlicesE.Kit
import Derived.Lib.SliceRun
import Derived.Laws.IdiomCopy
set_option linter.unusedSimpArgs false
set_option linter.unusedVariables false
namespace Go.Proofs.YtilbhingfnjppaaDoor
open Go.RowKit
theorem gold_eql (a b c d : Int) (w : World) : Sem.run Tryd.prog (binOp .eql 44 (.agg #[.int .i64 (a), .int .i64 (b)]) (.agg #[.int .i64 (c), .int .i64 (d)])) w = .ok (.bool ((a == c) && (b == d))) w := by
  have u3 := Tryd.underlying3
  have a3 := Tryd.isAgg3
  have z3 := Tryd.sizeOf3
  have hS : Tryd.prog.underlying 44 = some (.struct (Tryd.prog.fieldsOf 44)) := by kernel_rfl
  have hp : Tryd.prog.stoodInHeld 44 = false := by kernel_rfl
  rw [run_eql_struct, show (10000 : Nat) = 9999 + 1 from rfl, run_equalIn_agg w 9999 44 _ _ hS hp]
  simp only [Program.fieldsOf, Tryd.underlying44]
  go_simp
  by_cases h1 : a = c <;> by_cases h2 : b = d <;> simp [h1, h2]
theorem gold_neq (a b c d : Int) (w : World) : Sem.run Tryd.prog (binOp .neq 44 (.agg #[.int .i64 (a), .int .i64 (b)]) (.agg #[.int .i64 (c), .int .i64 (d)])) w = .ok (.bool (!((a == c) && (b == d)))) w := by
  have u3 := Tryd.underlying3
  have a3 := Tryd.isAgg3
  have z3 := Tryd.sizeOf3
  have hS : Tryd.prog.underlying 44 = some (.struct (Tryd.prog.fieldsOf 44)) := by kernel_rfl
  have hp : Tryd.prog.stoodInHeld 44 = false := by kernel_rfl
  rw [run_neq_struct, show (10000 : Nat) = 9999 + 1 from rfl, run_equalIn_agg w 9999 44 _ _ hS hp]
  simp only [Program.fieldsOf, Tryd.underlying44]
  go_simp
  by_cases h1 : a = c <;> by_cases h2 : b = d <;> simp [h1, h2]
theorem gold_grd : Go.Proofs.GuardAt Tryd.prog 44 (fun x : GP => .agg (#[Value.int .i64 x.1, .int .i64 x.2])) := Go.Proofs.GuardAt.agg _ (by kernel_rfl)
/-- 'clear' over a slice of golden numbers. -/
theorem run_clear2 {P : Program} (w : World) (t e ty : TypeId) (z : Value) (ht : P.underlying t = some (.slice e)) (hv : ∀ w, (zeroValue e).run P w = .ok (.agg #[z, z]) w) (h1 : z.oneCell' = true) (b o n c : Nat) (hn : 0 < n)
    (hc : ∀ j, j < n * 2 → (w.cell? ⟨b, o + j, none⟩).isSome = true) (hf : ∀ j, j < n * 2 → w.frozen? ⟨b, o + j, none⟩ = false) :
    (Builtin.clear_ #[t] ty #[.slice (some ⟨b, o, none⟩) n c]).run P w = .ok (.tuple #[]) (w.setCells b o (List.replicate (n * 2) z)) := by
  have hzc : (Builtin.zeroCells (Value.agg #[z, z]).cells n).toList = List.replicate (n * 2) z := by
    simp only [Value.cells]
    simp [Builtin.zeroCells]
    apply List.ext_getElem
    · simp
    · intro i h1 h2
      have : i % 2 = 0 ∨ i % 2 = 1 := by omega
      rcases this with q | q <;> simp [q]
  have hst := run_storeCells_cells (P := P) b o (List.replicate (n * 2) z) 0 w (by simpa using hc) (by simpa using hf) (by intro v hv'; rw [List.eq_of_mem_replicate hv']; exact h1)
  simp only [Nat.add_zero] at hst
  obtain ⟨m, rfl⟩ : ∃ m, n = m + 1 := ⟨n - 1, by omega⟩
  simp [Builtin.clear_, run_underlying ht, hv, hzc, hst]
theorem own2_setCells {B g n cap : Nat} : ∀ (vs : List Value) (o : Nat) (xs : List Value) (w : World), w.ownsRow B 44 2 (.slice (some ⟨g, 0, none⟩) n cap) n xs → ∃ ys, (w.setCells g o vs).ownsRow B 44 2 (.slice (some ⟨g, 0, none⟩) n cap) n ys ∧ ys.take o = xs.take o ∧ Below B w (w.setCells g o vs)
  | [], o, xs, w, h => ⟨xs, h, rfl, Below.refl _ _⟩
  | v :: r, o, xs, w, h => by
    have hB := (h.lt g rfl).1
    obtain ⟨ys, h1, h2, h3⟩ := own2_setCells r (o + 1) (xs.set o v) (w.setCell ⟨g, o, none⟩ v) (h.stored o v).1
    refine ⟨ys, h1, ?_, ((Below.refl B w).setCell (p := ⟨g, o, none⟩) hB v).trans h3⟩
    have e1 : ys.take o = (ys.take (o + 1)).take o := by rw [List.take_take, Nat.min_eq_left (by omega)]
    rw [e1, h2, List.take_take, Nat.min_eq_left (by omega), List.take_set_of_le (Nat.le_refl _)]
theorem own2_pre {w : World} {B g N n c : Nat} {xs : List Value} (h : w.ownsRow B 44 2 (.slice (some ⟨g, 0, none⟩) N c) N xs) (hn : n ≤ N) : w.ownsRow B 44 2 (.slice (some ⟨g, 0, none⟩) n c) n (xs.take (n * 2)) := by
  rcases h.2 with ⟨h', _⟩ | ⟨g0, cap0, cur, he, hbg, hg, hnc, hcm, hcs, ht⟩
  · cases h'
  · cases he
    refine ⟨by rw [List.length_take, h.1]; omega, .inr ⟨g, c, cur, rfl, hbg, hg, by omega, hcm, hcs, ?_⟩⟩
    have : cur.toList.take (n * 2) = (cur.toList.take (N * 2)).take (n * 2) := by rw [List.take_take, Nat.min_eq_left (by omega)]
    rw [this, ht]
theorem gv_set (L : List GP) (x : GP) : ∀ j, j < L.length → ((gv L).set (j * 2) (.int .i64 x.1)).set (j * 2 + 1) (.int .i64 x.2) = gv (L.set j x) := by
  induction L with
  | nil => intro j hj; simp at hj
  | cons a L ih =>
    intro j hj
    have e : ∀ M : List GP, gv (a :: M) = [Value.int .i64 a.1, Value.int .i64 a.2] ++ gv M := fun M => by simp [gv]
    cases j with
    | zero => simp [gv]
    | succ j =>
      have h := ih j (by simpa using hj)
      rw [List.set_cons_succ, e, e, show (j + 1) * 2 = j * 2 + 2 by omega, show j * 2 + 2 + 1 = (j * 2 + 1) + 2 by omega]
      simp only [List.cons_append, List.nil_append, List.set_cons_succ]
      rw [h]
theorem gv_takeL (L : List GP) (k : Nat) (h : k ≤ L.length) : (gv L).take (k * 2) = gv (L.take k) := by
  conv => lhs; rw [← List.take_append_drop k L, gv_app]
  exact List.take_left' (gv_takel rfl h)
theorem getD_bang (d : Array GP) (j : Nat) (h : j < d.size) : d.toList.getD j (0, 0) = d[j]! := by
  rw [getElem!_pos d j h, List.getD_eq_getElem?_getD]
  simp [h]
/-- The facts on one element. -/
theorem own2_elem {w : World} {B g n cap : Nat} {dk : Array GP} (h : w.ownsRow B 44 2 (.slice (some ⟨g, 0, none⟩) n cap) n (gv dk.toList)) (hs : dk.size = n) (j : Nat) (hj : j < n) : w.cell? ⟨g, j * 2, none⟩ = some (.int .i64 (dk[j]!).1) ∧ w.cell? ⟨g, j * 2 + 1, none⟩ = some (.int .i64 (dk[j]!).2) := by
  obtain ⟨a1, a2⟩ := gv_at dk.toList j (by simp; omega)
  rw [getD_bang dk j (by omega), Nat.mul_comm] at a1 a2
  exact ⟨(own2_cell h _ (by omega)).trans a1, (own2_cell h _ (by omega)).trans a2⟩
theorem comp_take {d dk : Array GP} {m k : Nat} (h : Lib.CompInv d m k dk) (hk : k ≤ dk.size) : dk.toList.take k = Lib.compactUpTo d m := by
  apply List.ext_getElem?
  intro j
  by_cases hj : j < k
  · rw [List.getElem?_take_of_lt hj, h.low j hj, getElem!_pos dk j (by omega)]
    simp
  · rw [List.getElem?_eq_none (by simp; omega), List.getElem?_eq_none (by rw [h.len]; omega)]
theorem gold_zero (w : World) : (zeroValue 44).run Tryd.prog w = .ok (.agg #[.int .i64 0, .int .i64 0]) w := by
  go_simp
set_option maxRecDepth 20000 in
set_option maxHeartbeats 4000000 in
theorem compactG_any (B g n cap : Nat) (M : List GP) (w : World) (hn : n ≤ 100000) (hown : w.ownsRow B 44 2 (.slice (some ⟨g, 0, none⟩) n cap) n (gv M)) :
    Calls Tryd.prog 72 #[.slice (some ⟨g, 0, none⟩) n cap] w fun e w' => e = .returned (.slice (some ⟨g, 0, none⟩) (Lib.compactUpTo M.toArray n).length cap) ∧ w'.ownsRow B 44 2 (.slice (some ⟨g, 0, none⟩) (Lib.compactUpTo M.toArray n).length cap) (Lib.compactUpTo M.toArray n).length (gv (Lib.compactUpTo M.toArray n)) ∧ Below B w w' := by
  have hlen : M.length = n := by have := hown.1; rw [gv_len] at this; omega
  obtain ⟨d, hd⟩ : ∃ d, M.toArray = d := ⟨_, rfl⟩
  have hM : M = d.toList := by rw [← hd]
  rw [hd]
  rw [hM] at hown hlen
  clear hM hd
  have hds : d.size = n := by simpa using hlen
  clear hlen
  have hnI : (n : Int) ≤ 100000 := by omega
  have hcp : n ≤ cap := by
    rcases hown.2 with ⟨h', _⟩ | ⟨_, _, _, h', _, _, hc, hm, _⟩
    · cases h'
    · cases h'; exact hc
  have hgl := hown.lt g rfl
  have hall : (∀ j, j < n → Lib.keeps d j = true) → Hid (Lib.compactUpTo d n = d.toList) := fun h => by
    show _ = _
    rw [← hds, Lib.compactUpTo_all d d.size (fun j hj => h j (by omega)), Lib.range_map_get]
  have hds' := Lib.hid hds
  by_cases h2 : n < 2
  · have hC := hall (fun j hj => Lib.keeps_lt_one d j (by omega))
    have h2I : (n : Int) < 2 := by omega
    clear hall hds
    go_enter Tryd.func72, Tryd.ntmps72
    go_wp2
    go_ret
    have hL : (Lib.compactUpTo d n).length = n := by rw [hC.out, Array.length_toList, hds'.out]
    exact ⟨by rw [hL]; rfl, by rw [hL, hC.out]; exact hown, Below.refl _ _⟩
  · have h2I : ¬ (n : Int) < 2 := by omega
    have hall' : Hid ((∀ j, j < n → Lib.keeps d j = true) → Hid (Lib.compactUpTo d n = d.toList)) := hall
    clear hall hds
    go_enter Tryd.func72, Tryd.ntmps72
    go_wp2
    go_loopw [3] (fun s3 wr => ∃ k : Nat, k + 1 ≤ n ∧ s3 = .int .i64 ((k : Int) + 1) ∧ Hid (∀ j, j < k + 1 → Lib.keeps d j = true) ∧ wr.ownsRow B 44 2 (.slice (some ⟨g, 0, none⟩) n cap) n (gv d.toList) ∧ Below B w wr) (fun s3 _ => n - (intOf s3).toNat)
    case atStart => exact ⟨0, by omega, rfl, Lib.hid (fun j hj => Lib.keeps_lt_one d j (by omega)), hown, Below.refl _ _⟩
    case round =>
      clear hown
      obtain ⟨k, hk, rfl, hkeep, hown, hbel⟩ := hrel
      by_cases hlt : k + 1 < n
      · obtain ⟨f1, f2⟩ := own2_elem hown hds'.out k (by omega)
        obtain ⟨f3, f4⟩ := own2_elem hown hds'.out (k + 1) (by omega)
        obtain ⟨a, ha⟩ : ∃ a, (d[k]!).1 = a := ⟨_, rfl⟩
        obtain ⟨b, hb⟩ : ∃ b, (d[k]!).2 = b := ⟨_, rfl⟩
        obtain ⟨c, hc⟩ : ∃ c, (d[k + 1]!).1 = c := ⟨_, rfl⟩
        obtain ⟨e, he⟩ : ∃ e, (d[k + 1]!).2 = e := ⟨_, rfl⟩
        rw [ha] at f1
        rw [hb] at f2
        rw [hc] at f3
        rw [he] at f4
        have hel := Lib.hid (And.intro (And.intro ha hb) (And.intro hc he))
        have i1 : (0 : Int) ≤ (k : Int) := by omega
        have i2 : (k : Int) < (n : Int) := by omega
        have i3 : (0 : Int) ≤ (k : Int) + 1 := by omega
        have i4 : (k : Int) + 1 < (n : Int) := by omega
        have i9 : IntKind.i64.wrap (k : Int) = (k : Int) := IntWalk.i64_in _ (by omega)
        have i8 : IntKind.i64.wrap ((k : Int) + 1) = (k : Int) + 1 := IntWalk.i64_in _ (by omega)
        clear ha hb hc he
        obtain ⟨q, hq⟩ : ∃ q, ((c == a) && (e == b)) = q := ⟨_, rfl⟩
        have hE : ∀ w, Sem.run Tryd.prog (binOp .eql 44 (.agg #[.int .i64 (c), .int .i64 (e)]) (.agg #[.int .i64 (a), .int .i64 (b)])) w = .ok (.bool q) w := fun w => by rw [gold_eql, hq]
        have hNe : ∀ w, Sem.run Tryd.prog (binOp .neq 44 (.agg #[.int .i64 (c), .int .i64 (e)]) (.agg #[.int .i64 (a), .int .i64 (b)])) w = .ok (.bool !q) w := fun w => by rw [gold_neq, hq]
        have hGd : ∀ (op : BinOp) (x y : Operand) (w : World), Sem.run Tryd.prog (eqGuard op 44 x y (.agg #[.int .i64 (c), .int .i64 (e)]) (.agg #[.int .i64 (a), .int .i64 (b)])) w = .ok () w := fun op x y w => gold_grd op x y (c, e) (a, b) w
        have hq' := Lib.hid hq
        clear hq
        cases q
        · go_wp2_with fail
          go_quiet (fail)
          go_wp2
          refine ⟨⟨k + 1, by omega, by go_num, Lib.hid (fun j hj => ?_), hown, QdrewN hbel⟩, by simp [intOf]; omega⟩
          by_cases e : j = k + 1
          · subst e
            refine Lib.keeps_pos (fun q => ?_)
            obtain ⟨⟨e1, e2⟩, e3, e4⟩ := hel.out
            simp only [Nat.add_sub_cancel] at q
            rw [← e1, ← e2, ← e3, ← e4, q] at hq'
            simp at hq'
            exact absurd hq'.out (by simp)
          · exact hkeep.out j (by omega)
        · go_wp2_with fail
          go_quiet (fail)
          have hdup : Lib.keeps d (k + 1) = false := by
            refine Lib.keeps_neg (by omega) ?_
            obtain ⟨⟨e1, e2⟩, e3, e4⟩ := hel.out
            have := hq'.out
            rw [Bool.and_eq_true, beq_iff_eq, beq_iff_eq] at this
            exact Prod.ext (by show _ = _; rw [e3, Nat.add_sub_cancel, e1, this.1]) (by show _ = _; rw [e4, Nat.add_sub_cancel, e2, this.2])
          clear f1 f2 f3 f4 hel hq' hE hNe hGd
          go_wp2
          go_loopw [3, 5] (fun s3 s5 wi => ∃ (kk k2 : Nat) (dk : Array GP), s3 = .int .i64 (kk : Int) ∧ s5 = .int .i64 (k2 : Int) ∧ 1 ≤ k2 ∧ k + 1 + k2 ≤ n ∧ wi.ownsRow B 44 2 (.slice (some ⟨g, 0, none⟩) n cap) n (gv dk.toList) ∧ Lib.CompInv d (k + 1 + k2) kk dk ∧ Below B w wi) (fun _ s5 _ => n - (intOf s5).toNat)
          case atStart => exact ⟨k + 1, 1, d, rfl, rfl, by omega, by omega, hown, Lib.CompInv.start hkeep.out hdup, QdrewN hbel⟩
          case round =>
            clear hown hbel
            obtain ⟨kk, k2, dk, rfl, rfl, h1, hle, hown, hI, hbel⟩ := hrel
            have hkk := hI.lt
            have hds := hI.size
            have I2 := Lib.hid hI
            by_cases hlt2 : k + 1 + k2 < n
            · obtain ⟨f1, f2⟩ := own2_elem hown (hds.trans hds'.out) (k + 1 + k2) (by omega)
              obtain ⟨f3, f4⟩ := own2_elem hown (hds.trans hds'.out) (k + 1 + k2 - 1) (by omega)
              obtain ⟨g1, g2⟩ := own2_elem hown (hds.trans hds'.out) kk (by omega)
              rw [hI.high (k + 1 + k2) (by omega)] at f1 f2
              rw [hI.high (k + 1 + k2 - 1) (by omega)] at f3 f4
              clear hI
              obtain ⟨a, ha⟩ : ∃ a, (d[k + 1 + k2 - 1]!).1 = a := ⟨_, rfl⟩
              obtain ⟨b, hb⟩ : ∃ b, (d[k + 1 + k2 - 1]!).2 = b := ⟨_, rfl⟩
              obtain ⟨c, hc⟩ : ∃ c, (d[k + 1 + k2]!).1 = c := ⟨_, rfl⟩
              obtain ⟨e, he⟩ : ∃ e, (d[k + 1 + k2]!).2 = e := ⟨_, rfl⟩
              rw [ha] at f3
              rw [hb] at f4
              rw [hc] at f1
              rw [he] at f2
              have hel2 := Lib.hid (And.intro (And.intro ha hb) (And.intro hc he))
              clear ha hb hc he
              generalize (dk[kk]!).1 = oa at g1
              generalize (dk[kk]!).2 = ob at g2
              rw [show (k + 1 + k2) * 2 = (k + 1) * 2 + k2 * 2 by omega] at f1 f2
              rw [show (k + 1 + k2 - 1) * 2 = (k + 1) * 2 + (k2 - 1) * 2 by omega] at f3 f4
              have j0 : (0 : Int) ≤ (k2 : Int) - 1 := by omega
              have j1 : (0 : Int) ≤ (k2 : Int) := by omega
              have j2 : (k2 : Int) < ((n - (k + 1) : Nat) : Int) := by omega
              have j4 : (k2 : Int) - 1 < ((n - (k + 1) : Nat) : Int) := by omega
              have j5 : ((k2 : Int) - 1).toNat = k2 - 1 := by omega
              have j6 : (kk : Int) < (n : Int) := by omega
              have i9 : IntKind.i64.wrap ((k2 : Int) - 1) = (k2 : Int) - 1 := IntWalk.i64_in _ (by omega)
              have i8 : IntKind.i64.wrap ((k2 : Int) + 1) = (k2 : Int) + 1 := IntWalk.i64_in _ (by omega)
              have i7 : IntKind.i64.wrap ((kk : Int) + 1) = (kk : Int) + 1 := IntWalk.i64_in _ (by omega)
              obtain ⟨q, hq⟩ : ∃ q, ((c == a) && (e == b)) = q := ⟨_, rfl⟩
              have hE : ∀ w, Sem.run Tryd.prog (binOp .eql 44 (.agg #[.int .i64 (c), .int .i64 (e)]) (.agg #[.int .i64 (a), .int .i64 (b)])) w = .ok (.bool q) w := fun w => by rw [gold_eql, hq]
              have hNe : ∀ w, Sem.run Tryd.prog (binOp .neq 44 (.agg #[.int .i64 (c), .int .i64 (e)]) (.agg #[.int .i64 (a), .int .i64 (b)])) w = .ok (.bool !q) w := fun w => by rw [gold_neq, hq]
              have hGd : ∀ (op : BinOp) (x y : Operand) (w : World), Sem.run Tryd.prog (eqGuard op 44 x y (.agg #[.int .i64 (c), .int .i64 (e)]) (.agg #[.int .i64 (a), .int .i64 (b)])) w = .ok () w := fun op x y w => gold_grd op x y (c, e) (a, b) w
              have hq' := Lib.hid hq
              clear hq
              have hfz := hown.frozenAt
              cases q
              · go_wp2_with fail
                go_quiet (fail)
                go_wp2
                refine ⟨⟨kk + 1, k2 + 1, dk.setIfInBounds kk (c, e), by go_num, by go_num, by omega, by omega, ?_, ?_, ?_⟩, by simp [intOf]; omega⟩
                · have hs := gv_set dk.toList (c, e) kk (by simp; have := hds'.out; omega)
                  rw [Array.toList_setIfInBounds, ← hs]
                  exact ((show (wr.drewN _).ownsRow _ _ _ _ _ _ from hown).stored (kk * 2) _).1.stored (kk * 2 + 1) _ |>.1
                · obtain ⟨⟨e1, e2⟩, e3, e4⟩ := hel2.out
                  have hk : Lib.keeps d (k + 1 + k2) = true := by
                    refine Lib.keeps_pos (fun q => ?_)
                    rw [← e1, ← e2, ← e3, ← e4, q] at hq'
                    have := hq'.out
                    simp at this
                  have := I2.out.keep (by have := hds'.out; omega) hk
                  have ec : d[k + 1 + k2]! = (c, e) := Prod.ext e3 e4
                  rwa [ec, Nat.add_assoc] at this
                · exact ((QdrewN hbel).setCell (p := ⟨g, kk * 2, none⟩) hgl.1 _).setCell (p := ⟨g, kk * 2 + 1, none⟩) hgl.1 _
              · go_wp2_with fail
                go_quiet (fail)
                go_wp2
                refine ⟨⟨kk, k2 + 1, dk, by go_num, by go_num, by omega, by omega, hown, ?_, QdrewN hbel⟩, by simp [intOf]; omega⟩
                obtain ⟨⟨e1, e2⟩, e3, e4⟩ := hel2.out
                have hk : Lib.keeps d (k + 1 + k2) = false := by
                  refine Lib.keeps_neg (by omega) ?_
                  have := hq'.out
                  rw [Bool.and_eq_true, beq_iff_eq, beq_iff_eq] at this
                  exact Prod.ext (by show _ = _; rw [e3, e1, this.1]) (by show _ = _; rw [e4, e2, this.2])
                exact I2.out.skip hk
            · have hend : k + 1 + k2 = n := by omega
              have hge : ¬ (k2 : Int) < ((n - (k + 1) : Nat) : Int) := by omega
              have hsz : dk.size = n := hds.trans hds'.out
              have hfz := hown.frozenAt
              have hcl : ∀ ty, (Builtin.clear_ #[48] ty #[.slice (some ⟨g, kk * 2, none⟩) (n - kk) (cap - kk)]).run Tryd.prog wr = .ok (.tuple #[]) (wr.setCells g (kk * 2) (List.replicate ((n - kk) * 2) (.int .i64 0))) :=
                fun ty => run_clear2 wr _ _ ty (.int .i64 0) Tryd.underlying48 gold_zero rfl g (kk * 2) _ _ (by omega) (fun j hj => by
                  rw [own2_cell hown _ (by omega)]
                  simp [gv_len]; omega) (fun j hj => hfz _)
              have j6 : (kk : Int) ≤ (n : Int) := by omega
              clear hI
              go_wp2
              go_ret
              have hI := I2.out
              rw [hend] at hI
              obtain ⟨ys, y1, y2, y3⟩ := own2_setCells (List.replicate ((n - kk) * 2) (.int .i64 0)) (kk * 2) _ wr hown
              have y4 := own2_pre y1 (n := kk) (by omega)
              rw [y2, gv_takeL _ _ (by simp; omega), comp_take hI (by omega)] at y4
              rw [hI.len]
              exact ⟨rfl, y4, hbel.trans y3⟩
      · obtain rfl : n = k + 1 := by omega
        have hge : ¬ (k : Int) + 1 < (k : Int) + 1 := by omega
        have hC := hall'.out hkeep.out
        go_wp2
        go_ret
        have hL : (Lib.compactUpTo d (k + 1)).length = k + 1 := by rw [hC.out, Array.length_toList, hds'.out]
        exact ⟨by rw [hL]; rfl, by rw [hL, hC.out]; exact hown, hbel⟩
end Go.Proofs.YtilbhingfnjppaaDoor
