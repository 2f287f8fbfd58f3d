/- Ancestors: plain laws, the walks, the law. -/
import Derived.Test.YtilbhingfnjppabParE
set_option linter.unusedSimpArgs false
set_option linter.unusedVariables false
namespace Go.Proofs.Ytilbhingfnjppab
open Go.RowKit
theorem bt_list (l : List UInt8) (j : Nat) (h : j < l.length) : bt ⟨l.toArray⟩ j = ((l.getD j 0).toNat : Int) := by
  have : j < (⟨l.toArray⟩ : ByteArray).size := by simpa [ByteArray.size] using h
  simp [bt, this, ByteArray.getElem_eq_getElem_data, List.getD_eq_getElem?_getD, h]
theorem its_ok {s : ByteArray} {zs : List ByteArray} (hS : sB zs = true) (h0 : 0 < (wys s zs).getD 0 0) : ∀ m, (its s zs (wys s zs) m).2 ≤ s.size ∧ 0 < (wys s zs).getD (its s zs (wys s zs) m).2 0 ∧ ∀ x ∈ (its s zs (wys s zs) m).1, 97 ≤ x.toNat ∧ x.toNat ≤ 100
  | 0 => ⟨Nat.zero_le _, h0, by simp [its]⟩
  | m + 1 => by
    obtain ⟨h1, h2, h3⟩ := its_ok hS h0 m
    rw [its, nxt1]
    split
    · obtain ⟨v, hv, hh, hp⟩ := wys_pos (ge1_of hS) (by assumption) h2
      have hex : ∃ v ∈ zs, good s (wys s zs) (its s zs (wys s zs) m).2 v = true := ⟨v, hv, by simp only [good, hh, Bool.true_and, decide_eq_true_eq]; exact hp⟩
      have hlt := ch_lt hex
      have h4 := (s_of hS).1.2
      have hg : good s (wys s zs) (its s zs (wys s zs) m).2 (zs.getD (ch s zs (wys s zs) (its s zs (wys s zs) m).2) ByteArray.empty) = true := by
        have := List.findIdx_getElem (w := hlt)
        rw [List.getD_eq_getElem?_getD, List.getElem?_eq_getElem hlt]
        exact this
      obtain ⟨k, hk⟩ : ∃ k, ch s zs (wys s zs) (its s zs (wys s zs) m).2 = k := ⟨_, rfl⟩
      rw [hk] at hlt hg ⊢
      simp only [good, hitP, Bool.and_eq_true, decide_eq_true_eq] at hg
      refine ⟨hg.1.1, hg.2, fun y hy => ?_⟩
      rcases List.mem_append.1 hy with hy | hy
      · exact h3 y hy
      · have hy' := List.mem_singleton.1 hy
        have hk4 : k < 4 := by omega
        subst hy'
        match k, hk4 with
        | 0, _ => decide
        | 1, _ => decide
        | 2, _ => decide
        | 3, _ => decide
    · exact ⟨h1, h2, h3⟩
theorem par_word {s : ByteArray} {zs : List ByteArray} (hS : sB zs = true) (h0 : 0 < (wys s zs).getD 0 0) (hl : (par s zs).length ≤ 400) : isWB ⟨(par s zs).toArray⟩ = true := by
  refine isWB_true ⟨by simpa [ByteArray.size] using hl, fun j hj => ?_⟩
  have hj' : j < (par s zs).length := by simpa [ByteArray.size] using hj
  have := (its_ok hS h0 s.size).2.2 ((par s zs)[j]) (List.getElem_mem hj')
  unfold inL
  rw [bt_list _ _ hj', List.getD_eq_getElem?_getD, List.getElem?_eq_getElem hj']
  simp only [Option.getD_some]
  omega
noncomputable def stopB (zs : List ByteArray) (s : ByteArray) : Bool := decide ((wys s zs).getD 0 0 = 0) || decide (s.size ≤ (par s zs).length)
noncomputable def anc (zs : List ByteArray) : Nat → ByteArray → Nat → ByteArray × Nat
  | 0, s, n => (s, n)
  | f + 1, s, n => if stopB zs s then (s, n) else anc zs f ⟨(par s zs).toArray⟩ (n + 1)
theorem anc_stop {zs : List ByteArray} {f n : Nat} {s : ByteArray} (h : stopB zs s = true) : anc zs (f + 1) s n = (s, n) := by simp [anc, h]
theorem anc_go {zs : List ByteArray} {f n : Nat} {s : ByteArray} (h : stopB zs s = false) : anc zs (f + 1) s n = anc zs f ⟨(par s zs).toArray⟩ (n + 1) := by simp [anc, h]
noncomputable def anV (zs : List ByteArray) (s : ByteArray) : Value := if sB zs && isWB s then .tuple #[.string (anc zs (s.size + 1) s 0).1, .int .i64 ((anc zs (s.size + 1) s 0).2 : Nat)] else .tuple #[.string ⟨#[]⟩, .int .i64 (-1)]
theorem an_form (zs : List ByteArray) (s : ByteArray) : ∃ (v : ByteArray) (b : Int), anV zs s = .tuple #[.string v, .int .i64 b] := by
  unfold anV; split
  · exact ⟨_, _, rfl⟩
  · exact ⟨_, _, rfl⟩
def strLen : Value → Nat | .string s => s.size | _ => 0
set_option maxRecDepth 20000 in
set_option maxHeartbeats 2000000 in
theorem implAnc_any (x : Option Addr) (n cap : Nat) (zs : List ByteArray) (s : ByteArray) (w : World) (h : IsStrs w x n cap zs) (hn : n ≤ 1048576) (hs : s.size ≤ 9223372036854775807) :
    Calls Try.prog 16 #[.agg #[.slice x n cap], .string s] w fun e w' => e = .returned (anV zs s) ∧ Below w.heap.size w w' := by
  have hb0 : Below w.heap.size w (w.alloc (.cells #[.slice x n cap] 25)) := (Below.refl _ w).alloc (Nat.le_refl _) _
  have h' := isStrs_below h (Nat.le_refl _) hb0
  cases hk : sB zs && isWB s
  · have hv : Hid (anV zs s = .tuple #[.string ⟨#[]⟩, .int .i64 (-1)]) := by show _ = _; simp [anV, hk]
    cases hS : sB zs
    · go_enter Try.func16, Try.ntmps16
      go_wp2_with (go_at_call 32; refine (implSubstOk_any _ _ _ _ _ h' hn).mono ?_; rintro e w1 ⟨rfl, hb1⟩)
      refine bodyPost_ret (v := anV zs s) (by rw [hv.out]; simp [results, Try.results16, go_sem]) rfl ⟨rfl, by (repeat (first | with_reducible exact Below.refl _ _ | assumption | with_reducible refine Qdrew ?_ | with_reducible refine QdrewN ?_ | ((with_reducible refine Qset ?_ ?_); exact (by ((try simp only [World.size_alloc, World.size_setCell, World.size_drew, size_drewN]); (try dsimp only); omega))) | ((with_reducible refine Qalloc ?_ ?_); exact (by ((try simp only [World.size_alloc, World.size_setCell, World.size_drew, size_drewN]); (try dsimp only); omega))) | refine Qtrans (by assumption) (by ((try simp only [World.size_alloc, World.size_setCell, World.size_drew, size_drewN]); (try dsimp only); omega)) ?_))⟩
    · rw [hS, Bool.true_and] at hk
      go_enter Try.func16, Try.ntmps16
      go_wp2_with (first | (go_at_call 32; refine (implSubstOk_any _ _ _ _ _ h' hn).mono ?_; rintro e w1 ⟨rfl, hb1⟩) | (go_at_call 62; refine (isWord_any _ _ hs).mono ?_; rintro e w1 ⟨rfl, rfl⟩))
      refine bodyPost_ret (v := anV zs s) (by rw [hv.out]; simp [results, Try.results16, go_sem]) rfl ⟨rfl, by (repeat (first | with_reducible exact Below.refl _ _ | assumption | with_reducible refine Qdrew ?_ | with_reducible refine QdrewN ?_ | ((with_reducible refine Qset ?_ ?_); exact (by ((try simp only [World.size_alloc, World.size_setCell, World.size_drew, size_drewN]); (try dsimp only); omega))) | ((with_reducible refine Qalloc ?_ ?_); exact (by ((try simp only [World.size_alloc, World.size_setCell, World.size_drew, size_drewN]); (try dsimp only); omega))) | refine Qtrans (by assumption) (by ((try simp only [World.size_alloc, World.size_setCell, World.size_drew, size_drewN]); (try dsimp only); omega)) ?_))⟩
  skip
  have hk2 := hk
  rw [Bool.and_eq_true] at hk2
  obtain ⟨hS, hW⟩ := hk2
  have hv : Hid (anV zs s = .tuple #[.string (anc zs (s.size + 1) s 0).1, .int .i64 ((anc zs (s.size + 1) s 0).2 : Nat)]) := by show _ = _; simp only [anV]; rw [hk]; rfl
  go_enter Try.func16, Try.ntmps16
  go_wp2_with (first | (go_at_call 32; refine (implSubstOk_any _ _ _ _ _ h' hn).mono ?_; rintro e w1 ⟨rfl, hb1⟩; obtain ⟨hc1, hf1⟩ := bcell hb1) | (go_at_call 62; refine (isWord_any _ _ hs).mono ?_; rintro e w1 ⟨rfl, rfl⟩))
  have h1 := isStrs_below h' (Nat.le_refl _) hb1
  have hz1 := hb1.size
  simp only [World.size_alloc] at hz1
  have hcB0 : w1.cell? ⟨w.heap.size, 0, none⟩ = some (.slice x n cap) := (hb1.cell (by simp)).trans (by simp [go_sem])
  have hb10 : Below w.heap.size w w1 := Qtrans hb1 (by simp) hb0
  go_loopw [1, 6] (fun cv nv wr => ∃ (f m : Nat) (c : ByteArray), cv = .string c ∧ nv = .int .i64 m ∧ isWB c = true ∧ c.size + 1 ≤ f ∧ m + c.size ≤ s.size ∧ Hid (anc zs f c m = anc zs (s.size + 1) s 0) ∧ wr.cell? ⟨w.heap.size, 0, none⟩ = some (.slice x n cap) ∧ w1.heap.size ≤ wr.heap.size ∧ Below w1.heap.size w1 wr) (fun cv _ _ => strLen cv)
  case atStart => exact ⟨s.size + 1, 0, s, rfl, rfl, hW, Nat.le_refl _, by omega, Lib.hid rfl, hcB0, Nat.le_refl _, Below.refl _ _⟩
  case round =>
    obtain ⟨f, m, c, rfl, rfl, hcw, hf, hmc, hanc, hcB, hz, hbel⟩ := hrel
    have hst := isStrs_below h1 (Nat.le_refl _) hbel
    have hc4 := (isW_of hcw).1
    have hs4 := (isW_of hW).1
    have hlo : 0 ≤ (wys c zs).getD 0 0 ∧ (wys c zs).getD 0 0 ≤ 1000000 := wq_low c zs c.size 0
    obtain ⟨f, rfl⟩ : ∃ f', f = f' + 1 := ⟨f - 1, by omega⟩
    have hpc := fun (w : World) (q : IsStrs w x n cap zs) => implParent_ok x n cap zs c w q hS hc4 hcw
    by_cases h00 : (wys c zs).getD 0 0 = 0
    · have hsb : stopB zs c = true := by simp only [stopB]; rw [decide_eq_true h00, Bool.true_or]
      have hend := Lib.hid (anc_stop (f := f) (n := m) hsb)
      have hpv := pa_no h00
      rw [hpv] at hpc
      clear hpv h00 hsb
      go_wp2_with (go_at_call 10; refine (hpc _ hst).mono ?_; rintro e w2 ⟨rfl, hb2⟩)
      refine bodyPost_ret (v := anV zs s) (by rw [hv.out, ← hanc.out, hend.out]; simp [results, Try.results16, go_sem]) rfl ⟨rfl, Qtrans hb2 (by omega) (Qtrans hbel (by omega) hb10)⟩
    · have hpv := pa_yes h00
      rw [hpv] at hpc
      have hps := size_arr (par c zs)
      by_cases hge : c.size ≤ (par c zs).length
      · have hsb : stopB zs c = true := by simp only [stopB]; rw [decide_eq_true hge, Bool.or_true]
        have hend := Lib.hid (anc_stop (f := f) (n := m) hsb)
        obtain ⟨q, hq⟩ : ∃ q : ByteArray, ⟨(par c zs).toArray⟩ = q := ⟨_, rfl⟩
        rw [hq] at hpc hps
        have hge' : (c.size : Int) ≤ (q.size : Int) := by omega
        clear hpv h00 hsb hq
        go_wp2_with (go_at_call 10; refine (hpc _ hst).mono ?_; rintro e w2 ⟨rfl, hb2⟩)
        refine bodyPost_ret (v := anV zs s) (by rw [hv.out, ← hanc.out, hend.out]; simp [results, Try.results16, go_sem]) rfl ⟨rfl, Qtrans hb2 (by omega) (Qtrans hbel (by omega) hb10)⟩
      · have hsb : stopB zs c = false := by simp only [stopB]; rw [decide_eq_false hge, decide_eq_false h00]; rfl
        have hend := Lib.hid (anc_go (f := f) (n := m) hsb)
        have hpw := par_word (s := c) (zs := zs) hS (by omega) (by omega)
        obtain ⟨q, hq⟩ : ∃ q : ByteArray, ⟨(par c zs).toArray⟩ = q := ⟨_, rfl⟩
        rw [hq] at hpc hps hpw
        have hq' := Lib.hid hq
        have hge' : ¬ (c.size : Int) ≤ (q.size : Int) := by omega
        clear hpv h00 hsb hq
        go_wp2_with (go_at_call 10; refine (hpc _ hst).mono ?_; rintro e w2 ⟨rfl, hb2⟩)
        have hz2 := hb2.size
        go_roundw
        case rel => exact ⟨f, m + 1, q, rfl, by go_num, hpw, by omega, by omega, Lib.hid (by rw [← hanc.out, hend.out, hq'.out]), (hb2.cell (by show w.heap.size < _; omega)).trans hcB, by omega, Qtrans hb2 (by omega) hbel⟩
        case measure => show q.size < c.size; omega
end Go.Proofs.Ytilbhingfnjppab
