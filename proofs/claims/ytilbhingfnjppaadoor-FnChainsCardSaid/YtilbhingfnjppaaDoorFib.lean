/- The fixed word of the golden substitution: the walks. -/
import Derived.Test.YtilbhingfnjppaaDoorRtB
import Derived.Test.YtilbhingfnjppaaDoorMSums
import Derived.Test.YtilbhingfnjppaaDoorItr
import Derived.Deep.AppendSrc
set_option linter.unusedSimpArgs false
set_option linter.unusedVariables false
namespace Go.Proofs.YtilbhingfnjppaaDoor
open Go.RowKit
theorem mrow_appS {w : World} {B : Nat} (t u ty : TypeId) (i : TypeInfo) (z : Value) (ht : Tryd.prog.underlying t = some (.slice 5)) (hu : Tryd.prog.underlying u = some .string) (hi : Tryd.prog.info? 5 = some i) (hz : i.zero = some z)
    (hsize : i.size = 1) (hby : i.bytes = 1) (hzs : z.cells.size = 1) {g n cap : Nat} {l : List UInt8} (h : Mrow w B g n cap l) (hB : B ≤ w.heap.size) (s : ByteArray) (hs : n + s.size ≤ 100000) :
    ∃ g' c' w', (Builtin.append_ #[t, u] ty #[.slice (some ⟨g, 0, none⟩) n cap, .string s]).run Tryd.prog w = .ok (.slice (some ⟨g', 0, none⟩) (n + s.size) c') w' ∧ Mrow w' B g' (n + s.size) c' (l ++ s.data.toList) ∧ w.grownBy w' (some g) := by
  obtain ⟨h1, h2, h3, h4, h5, h6, h7⟩ := h
  have hsrc : Src Tryd.prog i.size u (.string s) s.size (byteCells s) w := by rw [hsize]; exact Src.ofString w hu s
  have hbc : byteCells s = bv s.data.toList := rfl
  have hl : s.data.toList.length = s.size := Array.length_toList
  have hbl : (bv s.data.toList).length = s.size := by rw [← hbc, byteCells_length]
  have hbl1 : (bv l).length = n := by simp [bv, h1]
  have happ : bv (l ++ s.data.toList) = bv l ++ bv s.data.toList := by simp [bv]
  rw [hbc] at hsrc
  by_cases hr : n + s.size ≤ cap
  · have hin : ∀ j, j < (bv s.data.toList).length → (w.cell? ⟨g, n + j, none⟩).isSome = true := fun j hj => (h7 _ (by omega)).1
    have hrun := run_append_room_src (P := Tryd.prog) w t u ty 5 i ht hi g 0 n cap (.string s) s.size _ hsrc hr
      (fun j hj => by rw [hsize, show 0 + n * 1 + j = n + j by omega]; exact hin j hj)
      (fun j hj => by rw [hsize, show 0 + n * 1 + j = n + j by omega]; exact (h7 _ (by omega)).2)
    rw [hsize, show 0 + n * 1 = n by omega] at hrun
    have hgr := grown_setCells g (bv s.data.toList) n w
    have hset := fun j hj => World.cell?_setCells_in g (bv s.data.toList) n w hin j hj
    refine ⟨g, cap, _, hrun, ⟨by rw [List.length_append, h1, hl], h2, Nat.lt_of_lt_of_le h3 hgr.size, hr, h5, fun j hj => ?_, fun j hj => ⟨?_, ?_⟩⟩, hgr⟩
    · rw [happ]
      by_cases hj2 : j < n
      · rw [World.cell?_setCells_out g (bv s.data.toList) n w _ (fun _ _ => .inl hj2), h6 j hj2, List.getElem?_append_left (by omega)]
      · have := hset (j - n) (by omega)
        rw [show n + (j - n) = j by omega] at this
        rw [this, List.getElem?_append_right (by omega), hbl1, List.getElem?_eq_getElem (by omega)]
    · by_cases hj2 : n ≤ j ∧ j < n + s.size
      · have := hset (j - n) (by omega)
        rw [show n + (j - n) = j by omega] at this
        rw [this]; rfl
      · rw [World.cell?_setCells_out g (bv s.data.toList) n w _ (fun _ _ => by show j < n ∨ _ ≤ j; omega)]
        exact (h7 j hj).1
    · rw [World.frozen?_setCells]
      exact (h7 j hj).2
  · have hold := run_firstCells_some (P := Tryd.prog) w.drew i.size n ⟨g, 0, none⟩ n cap (bv l) (by rw [hsize, hbl1]; omega) (fun j v hj => by
      show w.cell? _ = _
      rw [Addr.add_lit, Nat.zero_add, ← hj]; exact h6 j (by have := (List.getElem?_eq_some_iff.1 hj).1; omega))
    have hrun := run_append_grow_src (P := Tryd.prog) w t u ty 5 i z ht hi hz (some ⟨g, 0, none⟩) n cap (bv l) hold (.string s) s.size _ hsrc (by omega) (by omega) (by rw [hby]; exact growslice_fits (by omega) (by omega))
    have hge := grownCap_ge w (n + s.size) cap 5
    have hcm : grownCap w (n + s.size) cap 5 ≤ maxLen := grownCap_le_maxLen w (n + s.size) cap 5 (by unfold maxLen; omega)
    have hown : (w.drew.alloc (.cells ((bv l ++ bv s.data.toList).toArray ++ Builtin.zeroCells z.cells (grownCap w (n + s.size) cap 5 - (n + s.size))) 5)).ownsRow B 5 1 (.slice (some ⟨w.heap.size, 0, none⟩) (n + s.size) (grownCap w (n + s.size) cap 5)) (n + s.size) (bv (l ++ s.data.toList)) := by
      refine ⟨by rw [happ, List.length_append, hbl1, hbl]; omega, .inr ⟨w.heap.size, _, _, rfl, hB, heap_alloc_new w.drew _, hge, hcm, ?_, ?_⟩⟩
      · simp only [Array.size_append, List.size_toArray, List.length_append, size_zeroCells, hzs, hbl1, hbl]
        omega
      · rw [happ]
        have hlen : (bv l ++ bv s.data.toList).length = (n + s.size) * 1 := by rw [List.length_append, hbl1, hbl]; omega
        rw [Array.toList_append, ← hlen]
        exact List.take_left
    exact ⟨w.heap.size, _, _, hrun, own_mrow hown, ⟨rfl, rfl, rfl, by simp, fun k hk _ => heap_alloc_old w.drew _ hk⟩⟩
theorem step_app_mS {P : Program} {w : World} {ops : Array Oper} {o : Oper} {a : Act} {K : Act → World → Prop} {Q : Exit → Act → World → Prop} {E : Prop} (hgd : o.guard = none) (s x : Operand) (t u : TypeId)
    (ho : o.op = .call { callee := .builtin .append, args := #[s, x], argTypes := #[t, u] }) (v z : Value) (hs : a.eval s = v) (hx : a.eval x = z)
    (R : Nat → Nat → World → Prop) (n : Nat) (hr : ∃ g' c' w', (Builtin.append_ #[t, u] o.type #[v, z]).run P w = .ok (.slice (some ⟨g', 0, none⟩) n c') w' ∧ R g' c' w')
    (h : ∀ g' c' w', R g' c' w' → K (a.put o.dst (.slice (some ⟨g', 0, none⟩) n c')) w') :
    if Region.wanted o (yielded ops a.tmps) = true then Oper.wp P o a w K Q else E := by
  have hw : Region.wanted o (yielded ops a.tmps) = true := by simp [Region.wanted, hgd]
  rw [if_pos hw]
  obtain ⟨g', c', w', hr, h2⟩ := hr
  unfold Oper.wp execOp
  simp only [ho, resolve, invoke, builtin, Sem.run_bind, Sem.run_pure, Result.andThen_ok, List.map_toArray, List.map_cons, List.map_nil, hs, hx, hr]
  exact h g' c' w' h2
/-- The golden substitution. -/
def FZ : List ByteArray := [⟨#[97, 98]⟩, ⟨#[97]⟩]
theorem FZ0 : FZ.getD 0 ByteArray.empty = ⟨#[97, 98]⟩ := rfl
theorem FZ1 : FZ.getD 1 ByteArray.empty = ⟨#[97]⟩ := rfl
def fx (b : UInt8) : ByteArray := if b = 97 then ⟨#[97, 98]⟩ else ⟨#[97]⟩
theorem fw_ab : ∀ k, (∀ b ∈ fw k, b = 97 ∨ b = 98) ∧ (∀ b ∈ fw (k + 1), b = 97 ∨ b = 98)
  | 0 => by
    constructor
    · intro b hb; rw [fw0, List.mem_singleton] at hb; exact .inl hb
    · intro b hb; rw [show (0 : Nat) + 1 = 1 from rfl, fw1] at hb; simpa using hb
  | k + 1 => by
    obtain ⟨h1, h2⟩ := fw_ab k
    refine ⟨h2, fun b hb => ?_⟩
    rw [show k + 1 + 1 = k + 2 from rfl, fwS] at hb
    exact (List.mem_append.1 hb).elim (h2 b) (h1 b)
theorem fw20_len : (fw 20).length = 17711 := by
  have w20 : wt 20 = 17711 := by decide +kernel
  have := (fw_len 20).1; rw [w20] at this; omega
/-- The word behind m letters' images. -/
def pm (m : Nat) : List UInt8 := phi ((fw 20).take m)
theorem pm_next {m : Nat} (hm : m < 17711) : ∃ b, (fw 20)[m]? = some b ∧ (b = 97 ∨ b = 98) ∧ pm (m + 1) = pm m ++ (fx b).data.toList := by
  have hl := fw20_len
  have hlt : m < (fw 20).length := by omega
  refine ⟨(fw 20)[m], List.getElem?_eq_getElem hlt, (fw_ab 20).1 _ (List.getElem_mem hlt), ?_⟩
  unfold pm
  rw [List.take_add_one, List.getElem?_eq_getElem hlt, phi_app]
  congr 1
  show phi [(fw 20)[m]] = _
  unfold fx phi
  rw [List.flatMap_singleton]
  split <;> rfl
theorem pm_ge : ∀ m, m ≤ 17711 → m ≤ (pm m).length ∧ (pm m).length ≤ 2 * m
  | 0, _ => by decide
  | m + 1, h => by
    obtain ⟨h1, h2⟩ := pm_ge m (by omega)
    obtain ⟨b, _, hb, e⟩ := pm_next (m := m) (by omega)
    rw [e, List.length_append]
    rcases hb with rfl | rfl
    · show m + 1 ≤ _ + 2 ∧ _ + 2 ≤ _; omega
    · show m + 1 ≤ _ + 1 ∧ _ + 1 ≤ _; omega
theorem pm_one : pm 1 = [97, 98] := by
  obtain ⟨b, hb, _, e⟩ := pm_next (m := 0) (by omega)
  have h0 := golden_at 0 (by omega)
  have g0 : gr 60 ((0 : Nat) : Int) [] = [] := by decide +kernel
  rw [g0] at h0
  have : b = 97 := by
    rw [h0] at hb
    simpa using hb.symm
  subst this
  rw [e]; rfl
theorem pm_gt (m : Nat) (h1 : 1 ≤ m) (h : m ≤ 17711) : m < (pm m).length := by
  induction m with
  | zero => omega
  | succ m ih =>
    by_cases e : m = 0
    · subst e; rw [pm_one]; decide
    · have := ih (by omega) (by omega)
      obtain ⟨b, _, hb, e⟩ := pm_next (m := m) (by omega)
      rw [e, List.length_append]
      rcases hb with rfl | rfl
      · show m + 1 < _ + 2; omega
      · show m + 1 < _ + 1; omega
theorem pm_pre {m : Nat} (h : (pm m).length ≤ 17711) : pm m = (fw 20).take (pm m).length := phi_take m h
/-- The letter at a place of the word behind m letters. -/
theorem pm_at {m j : Nat} (h : (pm m).length ≤ 17711) (hj : j < (pm m).length) : (pm m)[j]? = (fw 20)[j]? := by
  have e := pm_pre h
  have e2 : (pm m)[j]? = ((fw 20).take (pm m).length)[j]? := congrArg (fun l => l[j]?) e
  rw [e2, List.getElem?_take_of_lt hj]
theorem mrow_below {w w' : World} {B g n cap : Nat} {l : List UInt8} (h : Mrow w B g n cap l) (hb : Below w.heap.size w w') : Mrow w' B g n cap l := by
  obtain ⟨h1, h2, h3, h4, h5, h6, h7⟩ := h
  obtain ⟨hc, hf⟩ := bcell hb
  exact ⟨h1, h2, Nat.lt_of_lt_of_le h3 hb.size, h4, h5, fun j hj => (hc g j h3).trans (h6 j hj), fun j hj => by rw [hc g j h3, hf g j h3]; exact h7 j hj⟩
set_option maxRecDepth 20000 in
set_option maxHeartbeats 2000000 in
theorem fixed_any (a : ByteArray) (ha1 : a.size = 1) (ha2 : bt a 0 = 97) (x : Option Addr) (cap N : Nat) (w : World) (h : IsStrs w x 2 cap FZ) (hN : N ≤ 10001) :
    Calls Tryd.prog 82 #[.agg #[.slice x 2 cap], .string a, .int .i64 N] w fun e w' => ∃ g M c, e = .returned (.slice (some ⟨g, 0, none⟩) M c) ∧ N ≤ M ∧ M ≤ 10003 ∧ Mrow w' w.heap.size g M c ((fw 20).take M) ∧ Below w.heap.size w w' := by
  have hb : ∀ (h : 0 < a.size), ((a[0]'h).toNat : Int) = 97 := fun h => by rw [bt_eq a 0 h]; exact ha2
  have hb0 : Below w.heap.size w (w.alloc (.cells #[.slice x 2 cap] 27)) := (Below.refl _ w).alloc (Nat.le_refl _) _
  have h' := isStrs_below h (Nat.le_refl _) hb0
  obtain ⟨W, hW⟩ : ∃ W, w.alloc (.cells #[.slice x 2 cap] 27) = W := ⟨_, rfl⟩
  have kW : W.cell? ⟨w.heap.size, 0, none⟩ = some (.slice x 2 cap) := by rw [← hW]; simp [go_sem]
  have zW : W.heap.size = w.heap.size + 1 := by rw [← hW]; simp
  rw [hW] at h' hb0
  have hst : IsStrs W.drew x 2 cap FZ := h'
  have hC := image_any x 2 cap 0 FZ W.drew hst (by omega) (by omega)
  obtain ⟨z0, hz0e⟩ : ∃ z, FZ.getD 0 ByteArray.empty = z := ⟨_, rfl⟩
  have hz0s : z0.size = 2 := by rw [← hz0e]; rfl
  have hz0l := Lib.hid (show z0.data.toList = [97, 98] by rw [← hz0e]; rfl)
  rw [hz0e, show (((0 : Nat) : Int) + 97) = 97 by omega] at hC
  obtain ⟨i0, hi0, hy0, hy1, hy2⟩ := info_parts infoB
  clear h hz0e
  go_enter Tryd.func82, Tryd.ntmps82
  go_wp2_with fail
  go_cut [7] from 9 to 13 (fun o wr => ∃ g c : Nat, o = .slice (some ⟨g, 0, none⟩) 2 c ∧ Hid (Mrow wr W.heap.size g 2 c [97, 98]) ∧ Below W.heap.size W wr)
  case first =>
    go_region_law (first | (go_simp; go_at_call 99; (with_reducible refine hC.mono ?_); rintro e w6 ⟨rfl, hb6⟩; have hz6 := hb6.size; (try simp only [World.size_drew] at hz6); obtain ⟨K0, W0, hconv0, hg0, hzc0, hM0, hbW0⟩ := conv_m w6 z0 (by omega); have hM0 := Lib.hid hM0))
    all_goals
      go_wp2_with fail
      go_meet
      exact ⟨w6.heap.size, K0, rfl, Lib.hid (by
        have q := hM0.out
        rw [hz0l.out, hz0s] at q
        obtain ⟨q1, q2, q3⟩ := q
        exact ⟨q1, by omega, q3⟩), Qtrans hbW0 (by omega) (Qtrans hb6 (by simp) (Qdrew (Below.refl _ W)))⟩
  case rest =>
  rename World => W1
  obtain ⟨g0, c0, rfl, hMs, hb00⟩ := hcut
  have hz00 := hb00.size
  clear hC
  go_wp2_with fail
  go_loopw [7, 8] (fun o i wr => ∃ g M c m : Nat, o = .slice (some ⟨g, 0, none⟩) M c ∧ i = .int .i64 m ∧ 1 ≤ m ∧ m < M ∧ M ≤ 10003 ∧ Hid ((pm m).length = M) ∧ Hid (Mrow wr W.heap.size g M c (pm m)) ∧ Below W.heap.size W wr) (fun _ i _ => 10003 - (intOf i).toNat)
  case atStart => exact ⟨g0, 2, c0, 1, rfl, rfl, by omega, by omega, by omega, Lib.hid (by rw [pm_one]; rfl), Lib.hid (by rw [pm_one]; exact hMs.out), hb00⟩
  case round =>
    clear hMs hb00
    obtain ⟨g, M, c, m, rfl, rfl, hm1, hmM, hM103, hlen, hM, hbel⟩ := hrel
    have hzb := hbel.size
    obtain ⟨e1, e2, e3, e4, e5, e6, e7⟩ := hM.out
    by_cases hlt : M < N
    · obtain ⟨b, hb1, hb2, hb3⟩ := pm_next (m := m) (by omega)
      have hat := pm_at (m := m) (j := m) (by have := hlen.out; omega) (by have := hlen.out; omega)
      rw [hb1] at hat
      have hck : wr.cell? ⟨g, m, none⟩ = some (.int .u8 (b.toNat : Int)) := by
        rw [e6 m hmM]; unfold bv; rw [List.getElem?_map, hat]; rfl
      have hstw := isStrs_below h' (Nat.le_refl _) hbel
      have hstd : IsStrs wr.drew x 2 cap FZ := hstw
      have hcB : wr.cell? ⟨w.heap.size, 0, none⟩ = some (.slice x 2 cap) := (hbel.cell (p := ⟨w.heap.size, 0, none⟩) (by show w.heap.size < _; omega)).trans kW
      have hC5 : Calls Tryd.prog 99 #[.agg #[.slice x 2 cap], .int .u8 (b.toNat : Int)] wr.drew fun e w' => e = .returned (.string (fx b)) ∧ Below wr.drew.heap.size wr.drew w' := by
        rcases hb2 with rfl | rfl
        · exact image_any x 2 cap 0 FZ wr.drew hstd (by omega) (by omega)
        · exact image_any x 2 cap 1 FZ wr.drew hstd (by omega) (by omega)
      have hfs : 1 ≤ (fx b).size ∧ (fx b).size ≤ 2 := by rcases hb2 with rfl | rfl <;> decide
      have hgt := pm_gt (m + 1) (by omega) (by omega)
      have hlen2 : (pm (m + 1)).length = M + (fx b).size := by rw [hb3, List.length_append, hlen.out]; rfl
      rw [hlen2] at hgt
      have hb3H := Lib.hid hb3
      have hlen2H := Lib.hid hlen2
      obtain ⟨z, hz⟩ : ∃ z, fx b = z := ⟨_, rfl⟩
      rw [hz] at hC5 hfs hgt hb3H hlen2H
      obtain ⟨B, hB⟩ : ∃ B : Int, (b.toNat : Int) = B := ⟨_, rfl⟩
      rw [hB] at hck hC5
      have hbw : w.heap.size < wr.heap.size := by omega
      have j2 : (0 : Int) ≤ (m : Int) := by omega
      have j3 : (m : Int) < (M : Int) := by omega
      have j4 : (M : Int) < (N : Int) := by omega
      have i8 : IntKind.i64.wrap ((m : Int) + 1) = (m : Int) + 1 := IntWalk.i64_in _ (by omega)
      clear hz hB hb1 hb2 hb3 hat hlen2 e6 e7 hstw h' hst hW
      go_wp2_with fail
      go_region_law (first | (refine step_app_mS (by rfl) _ _ _ _ (by rfl) _ _ (by rfl) (by rfl) _ _ (mrow_appS (B := W.heap.size) 24 9 _ i0 _ Tryd.underlying24 Tryd.underlying9 hi0 hy0 hy1 hy2 rfl hM6.out (by omega) z (by omega)) ?_; intro gg capA w1 hR) | (go_simp; go_at_call 99; (with_reducible refine hC5.mono ?_); rintro e w6 ⟨rfl, hb6⟩; have hz6 := hb6.size; (try simp only [World.size_drew] at hz6); have hM6 : Hid (Mrow w6 W.heap.size g M c (pm m)) := mrow_below (w := wr) hM.out (Qtrans hb6 (by simp) (Qdrew (Below.refl _ wr)))))
      all_goals
        obtain ⟨hMr, hgrow⟩ := hR
        go_wp2
        go_roundw
        case rel => exact ⟨gg, M + z.size, capA, m + 1, rfl, by go_num, by omega, by omega, by omega, hlen2H, Lib.hid (by rw [hb3H.out]; exact hMr), (Qtrans hb6 (by simp; omega) (Qdrew hbel)).grown hgrow (by omega) (fun k hk => by cases hk; exact e2)⟩
        case measure => (simp [intOf]) <;> omega
    · have j4 : ¬ (M : Int) < (N : Int) := by omega
      have hpre := pm_pre (m := m) (by have := hlen.out; omega)
      rw [hlen.out] at hpre
      have hMf : Hid (Mrow wr w.heap.size g M c ((fw 20).take M)) := by
        show Mrow _ _ _ _ _ _
        rw [← hpre]
        exact ⟨e1, by omega, e3, e4, e5, e6, e7⟩
      clear hpre e6 e7
      go_wp2
      go_ret
      exact ⟨g, M, c, rfl, by omega, by omega, hMf.out, Qtrans hbel (by omega) hb0⟩
end Go.Proofs.YtilbhingfnjppaaDoor
