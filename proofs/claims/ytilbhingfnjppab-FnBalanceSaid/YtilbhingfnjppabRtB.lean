/- The first letters of a fixed point: the walk. -/
import Derived.Test.YtilbhingfnjppabRtA
set_option linter.unusedSimpArgs false
set_option linter.unusedVariables false
namespace Go.Proofs.Ytilbhingfnjppab
open Go.RowKit
def letL (n : Nat) (l : List UInt8) : Prop := ∀ b ∈ l, 97 ≤ b.toNat ∧ b.toNat < 97 + n
theorem letL_of {n : Nat} {z : ByteArray} (h : letP n z) : letL n z.data.toList := by
  intro b hb
  obtain ⟨j, hj, rfl⟩ := List.getElem_of_mem hb
  have hj' : j < z.size := by simpa using hj
  obtain ⟨q1, q2⟩ := h j hj'
  have e := bt_eq z j hj'
  have e2 : z.data.toList[j] = z[j]'hj' := by simp; rfl
  rw [e2]
  unfold inL at q1
  unfold lt at q2
  omega
theorem letL_app {n : Nat} {x y : List UInt8} (hx : letL n x) (hy : letL n y) : letL n (x ++ y) := fun b hb => (List.mem_append.1 hb).elim (hx b) (hy b)
theorem letP_of {n : Nat} {l : List UInt8} (hn : n ≤ 4) (h : letL n l) : letP n ⟨l.toArray⟩ := by
  intro j hj
  have := bt_of_list (k := (n : Int)) (fun b hb => by have := h b hb; omega) j hj
  unfold inL lt; omega
theorem conv_m (w : World) (z : ByteArray) (hz : z.size ≤ 400) : ∃ K W2, (convert 9 22 (.string z)).run Try.prog w = .ok (.slice (some ⟨w.heap.size, 0, none⟩) z.size K) W2 ∧ w.grownBy W2 none ∧ W2.heap.size = w.heap.size + 1 ∧ Mrow W2 w.heap.size w.heap.size z.size K z.data.toList ∧ Below w.heap.size w W2 := by
  refine ⟨_, _, run_bytes_of_string w 9 22 5 z Try.underlying9 Try.underlying22 Try.underlying5, ⟨rfl, rfl, rfl, by simp, fun k hk _ => Below.heap_alloc w.drew _ k hk⟩, by simp, ?_, ?_⟩
  · refine mrow_conv w w.heap.size z (Nat.le_refl _) hz _ rfl _ ?_
    have hs : z.data.size = z.size := rfl
    unfold bytesRow; simp; omega
  · exact (Below.refl _ w).drew.alloc (by simp) _
theorem step_app_m {P : Program} {w : World} {ops : Array Oper} {o : Oper} {a : Act} {K : Act → World → Prop} {Q : Exit → Act → World → Prop} {E : Prop} (hgd : o.guard = none) (s x : Operand) (t : TypeId)
    (ho : o.op = .call { callee := .builtin .append, args := #[s, x], argTypes := #[t, t] }) (v u : Value) (hs : a.eval s = v) (hx : a.eval x = u)
    (R : Nat → Nat → World → Prop) (n : Nat) (hr : ∃ g' c' w', (Builtin.append_ #[t, t] o.type #[v, u]).run P w = .ok (.slice (some ⟨g', 0, none⟩) n c') w' ∧ R g' c' w')
    (h : ∀ g' c' w', R g' c' w' → K (a.put o.dst (.slice (some ⟨g', 0, none⟩) n c')) w') :
    if Region.wanted o (yielded ops a.tmps) = true then Oper.wp P o a w K Q else E := by
  have hw : Region.wanted o (yielded ops a.tmps) = true := by simp [Region.wanted, hgd]
  rw [if_pos hw]
  obtain ⟨g', c', w', hr, h2⟩ := hr
  unfold Oper.wp execOp
  simp only [ho, resolve, invoke, builtin, Sem.run_bind, Sem.run_pure, Result.andThen_ok, List.map_toArray, List.map_cons, List.map_nil, hs, hx, hr]
  exact h g' c' w' h2
set_option maxRecDepth 20000 in
set_option maxHeartbeats 2000000 in
theorem l05Start_any (x : Option Addr) (cap : Nat) (zs : List ByteArray) (N : Nat) (w : World) (h : IsStrs w x zs.length cap zs) (hS : sB zs = true) (h2 : 2 ≤ (zs.getD 0 ByteArray.empty).size) (hN1 : 1 ≤ N) (hN : N ≤ 100) :
    Calls Try.prog 68 #[.agg #[.slice x zs.length cap], .int .i64 0, .int .i64 N] w fun e w' => ∃ v : ByteArray, e = .returned (.string v) ∧ v.size = N ∧ letP zs.length v ∧ Below w.heap.size w w' := by
  obtain ⟨i0, hi0, hy0, hy1, hy2⟩ := info_parts infoB
  have hb0 : Below w.heap.size w (w.alloc (.cells #[.slice x zs.length cap] 25)) := (Below.refl _ w).alloc (Nat.le_refl _) _
  have h' := isStrs_below h (Nat.le_refl _) hb0
  have h4 := (s_of hS).1
  have h8 := Lib.hid (small8_sB hS)
  have hne := Lib.hid (fun j (hj : j < zs.length) => ((s_of hS).2 j hj).1.1)
  have hle := Lib.hid (fun j => letL_of (letP_img hS j))
  obtain ⟨n, hn⟩ : ∃ n, zs.length = n := ⟨_, rfl⟩
  rw [hn] at h' h4 hne hle hb0 ⊢
  obtain ⟨b0, off0, rfl, hbl0, hcl0⟩ := isStrs_cell h' (by omega)
  have hc00 := hcl0 0 (by omega)
  rw [Nat.add_zero] at hc00
  obtain ⟨K0, W0, hconv0, hg0, hz0, hM0, hbW0⟩ := conv_m (w.alloc (.cells #[.slice (some ⟨b0, off0, none⟩) n cap] 25)) (zs.getD 0 ByteArray.empty) (by have := h8.out 0; omega)
  have hle0 := hle.out 0
  have h80 := h8.out 0
  obtain ⟨z0, hz0e⟩ : ∃ z0, zs.getD 0 ByteArray.empty = z0 := ⟨_, rfl⟩
  rw [hz0e] at h2 hconv0 hM0 hle0 h80 hc00
  have hn0 : (0 : Int) < (n : Int) := by omega
  have hl0 := Lib.hid hle0
  have hM0' := Lib.hid hM0
  clear h hcl0 hz0e hle0 hM0
  go_enter Try.func68, Try.ntmps68
  go_wp2_with fail
  go_loopw [7, 8] (fun o i wr => ∃ (g M c m : Nat) (l : List UInt8), o = .slice (some ⟨g, 0, none⟩) M c ∧ i = .int .i64 m ∧ m < M ∧ m ≤ N ∧ M ≤ 120 ∧ Hid (letL n l) ∧ Hid (Mrow wr (w.heap.size + 1) g M c l) ∧ Below (w.heap.size + 1) (w.alloc (.cells #[.slice (some ⟨b0, off0, none⟩) n cap] 25)) wr) (fun _ i _ => N + 1 - (intOf i).toNat)
  case atStart => exact ⟨_, _, _, 1, _, rfl, rfl, by omega, by omega, by omega, hl0, Lib.hid (by simpa using hM0'.out), by simpa using hbW0⟩
  case round =>
    clear hM0' hl0 hconv0 hg0 hz0 hbW0
    obtain ⟨g, M, c, m, l, rfl, rfl, hmM, hmN, hM120, hl, hM, hbel⟩ := hrel
    have hzb := hbel.size
    simp only [World.size_alloc] at hzb
    have hMo := hM.out
    obtain ⟨e1, e2, e3, e4, e5, e6, e7⟩ := hMo
    by_cases hlt : M < N
    · have hbyte := hl.out l[m] (List.getElem_mem (by omega))
      obtain ⟨q, hq⟩ : ∃ q, l[m].toNat = q + 97 := ⟨l[m].toNat - 97, by omega⟩
      have hck : wr.cell? ⟨g, m, none⟩ = some (.int .u8 ((q : Int) + 97)) := by
        rw [e6 m hmM, bv_at _ _ (by omega), hq]; simp
      have hqn : q < n := by omega
      have hst := isStrs_below h' (show (w.alloc (.cells #[.slice (some ⟨b0, off0, none⟩) n cap] 25)).heap.size ≤ w.heap.size + 1 by simp) hbel
      obtain ⟨b, off, hbe, hbl, hcl⟩ := isStrs_cell hst (by omega)
      cases hbe
      have hcz := hcl q hqn
      have hcB : wr.cell? ⟨w.heap.size, 0, none⟩ = some (.slice (some ⟨b0, off0, none⟩) n cap) := (hbel.cell (by simp)).trans (by simp [go_sem])
      have hzs := h8.out q
      have hzz := hne.out q hqn
      have hzl := hle.out q
      obtain ⟨z, hz⟩ : ∃ z, zs.getD q ByteArray.empty = z := ⟨_, rfl⟩
      rw [hz] at hzs hcz hzz hzl
      have hzlH := Lib.hid hzl
      have hbw : w.heap.size < wr.heap.size := by omega
      have hu : IntKind.u8.wrap ((q : Int) + 97 - 97) = (q : Int) := by rw [show (q : Int) + 97 - 97 = (q : Int) by omega]; exact u8_small q (by omega)
      have hu2 := u8_small q (by omega)
      have j0 : (0 : Int) ≤ (q : Int) := by omega
      have j1 : (q : Int) < (n : Int) := by omega
      have j2 : (0 : Int) ≤ (m : Int) := by omega
      have j3 : (m : Int) < (M : Int) := by omega
      have j4 : (M : Int) < (N : Int) := by omega
      have i8 : IntKind.i64.wrap ((m : Int) + 1) = (m : Int) + 1 := IntWalk.i64_in _ (by omega)
      clear hz hcl hst h' hq hbyte hzl e6 e7
      obtain ⟨K, W2, hconv, hgW, hzW, hcW⟩ := conv_bytes wr z
      have hMW := mrow_kept hM.out hgW
      have hbelW := hbel.grown hgW (by omega) (fun k hk => by cases hk)
      have happ := fun ty => mrow_app (B := w.heap.size + 1) 22 ty i0 _ Try.underlying22 hi0 hy0 hy1 hy2 rfl hMW (by omega) ⟨wr.heap.size, 0, none⟩ z.size K z.data.toList (by rfl) hcW (by omega)
      have happH := Lib.hid happ
      clear happ
      go_wp2_with fail
      go_region_law ((refine step_app_m (by rfl) _ _ _ (by rfl) _ _ (by rfl) (by rfl) _ _ (happH.out _) ?_; intro gg capA w1 hR))
      all_goals
        obtain ⟨hMr, hgrow⟩ := hR
        go_wp2
        go_roundw
        case rel => exact ⟨gg, M + z.size, capA, m + 1, l ++ z.data.toList, rfl, by go_num, by omega, by omega, by omega, Lib.hid (letL_app hl.out hzlH.out), Lib.hid hMr, hbelW.grown hgrow (by omega) (fun k hk => by cases hk; exact e2)⟩
        case measure => (simp [intOf]) <;> omega
    · have j4 : ¬ (M : Int) < (N : Int) := by omega
      have j5 : (N : Int) ≤ (c : Int) := by omega
      have hstr := mrow_string (k := N) hM.out (by omega)
      have hlT : letL n (l.take N) := fun b hb => hl.out b (List.mem_of_mem_take hb)
      have hv := Lib.hid (letP_of h4.2 hlT)
      have hvs : (l.take N).length = N := by rw [List.length_take]; omega
      clear hlT
      go_wp2
      go_ret
      exact ⟨_, rfl, hvs, hv.out, Qtrans hbel (by omega) hb0⟩
end Go.Proofs.Ytilbhingfnjppab
