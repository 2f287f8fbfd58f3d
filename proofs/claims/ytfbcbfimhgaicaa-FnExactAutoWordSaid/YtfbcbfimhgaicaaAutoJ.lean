/- The first letters of an automaton: the two walks. -/
import Derived.Test.YtfbcbfimhgaicaaAutoH
set_option linter.unusedSimpArgs false
set_option linter.unusedVariables false
namespace Go.Proofs.Ytfbcbfimhgaicaa
open Go.RowKit
/-- The first letters. -/
def aw (d : Nat) (Z : Nat → List Int) (o : ByteArray) (k : Nat) : List UInt8 := (List.range k).map (fun i => lb o (ed d Z i))
theorem aw_next (d : Nat) (Z : Nat → List Int) (o : ByteArray) (k : Nat) : aw d Z o (k + 1) = aw d Z o k ++ [lb o (ed d Z k)] := by
  simp [aw, List.range_succ]
theorem aw_len (d : Nat) (Z : Nat → List Int) (o : ByteArray) (k : Nat) : (aw d Z o k).length = k := by simp [aw]
noncomputable def awS (b : Int) (n : Nat) (Z : Nat → List Int) (o : ByteArray) (m : Int) : ByteArray := if raB b n Z o m 400 then ⟨(aw b.toNat Z o m.toNat).toArray⟩ else ⟨#[]⟩
theorem aw_add (l : List UInt8) (c : UInt8) : (⟨l.toArray⟩ : ByteArray) ++ ⟨#[c]⟩ = ⟨(l ++ [c]).toArray⟩ := by apply ByteArray.ext; simp
theorem aw_run (l : List UInt8) (c : UInt8) (hl : l.length ≤ 1000) (w : World) : (Op.stringOp .add ⟨l.toArray⟩ ⟨#[c]⟩).run Try.prog w = .ok (.string ⟨(l ++ [c]).toArray⟩) w := by
  have e : (⟨l.toArray⟩ : ByteArray).size = l.length := by simp [ByteArray.size]
  have e2 : (⟨#[c]⟩ : ByteArray).size = 1 := rfl
  rw [run_string_add_sum w _ _ (by rw [e, e2]; omega), aw_add l c]
set_option maxHeartbeats 2000000 in
theorem specAutoWord_any (b : Int) (x : Option Addr) (n cap : Nat) (Z : Nat → List Int) (o : ByteArray) (m : Int) (w : World) (h : IsMat w x n Z) (hn : n ≤ 1048576) (ho : o.size ≤ 1048576) (hZ : ∀ r, r < n → (Z r).length ≤ 1048576) :
    Calls Try.prog 22 #[(Value.agg #[.int .i64 b, .slice x n cap, .string o]), .int .i64 m] w fun e w' => e = .returned (.tuple #[.string (awS b n Z o m), .bool (raB b n Z o m 400)]) ∧ Below w.heap.size w w' := by
  have h0 := isMat_below h (Nat.le_refl _) ((Below.refl _ w).alloc (Nat.le_refl _) (Obj.cells #[.int .i64 b, .slice x n cap, .string o] 27))
  cases hA : auB b n Z o
  · have hf : Hid (awS b n Z o m = ⟨#[]⟩ ∧ raB b n Z o m 400 = false) := Lib.hid (by simp [awS, raB, hA])
    go_enter Try.func22, Try.ntmps22
    go_wp2_with (first | (go_at_call 16; refine (specAutoOk_any _ _ _ _ _ _ _ h0 hn ho hZ).mono ?_; rintro e w1 ⟨rfl, hb1⟩; have hz1 := hb1.size) | (go_at_call 54; refine (l01In_any _ _ _ _).mono ?_; rintro e w1 ⟨rfl, rfl⟩))
    go_ret2
    exact ⟨by rw [hf.out.1, hf.out.2]; rfl, by (repeat (first | with_reducible exact Below.refl _ _ | assumption | with_reducible refine Qdrew ?_ | with_reducible refine QdrewN ?_ | ((with_reducible refine Qset ?_ ?_); exact (by ((try simp only [World.size_alloc, World.size_setCell, World.size_drew, size_drewN]); (try dsimp only); omega))) | ((with_reducible refine Qalloc ?_ ?_); exact (by ((try simp only [World.size_alloc, World.size_setCell, World.size_drew, size_drewN]); (try dsimp only); omega))) | refine Qtrans (by assumption) (by ((try simp only [World.size_alloc, World.size_setCell, World.size_drew, size_drewN]); (try dsimp only); omega)) ?_))⟩
  · cases hI : inB m 0 400
    · have hf : Hid (awS b n Z o m = ⟨#[]⟩ ∧ raB b n Z o m 400 = false) := Lib.hid (by simp [awS, raB, hI])
      go_enter Try.func22, Try.ntmps22
      go_wp2_with (first | (go_at_call 16; refine (specAutoOk_any _ _ _ _ _ _ _ h0 hn ho hZ).mono ?_; rintro e w1 ⟨rfl, hb1⟩; have hz1 := hb1.size) | (go_at_call 54; refine (l01In_any _ _ _ _).mono ?_; rintro e w1 ⟨rfl, rfl⟩))
      go_ret2
      exact ⟨by rw [hf.out.1, hf.out.2]; rfl, by (repeat (first | with_reducible exact Below.refl _ _ | assumption | with_reducible refine Qdrew ?_ | with_reducible refine QdrewN ?_ | ((with_reducible refine Qset ?_ ?_); exact (by ((try simp only [World.size_alloc, World.size_setCell, World.size_drew, size_drewN]); (try dsimp only); omega))) | ((with_reducible refine Qalloc ?_ ?_); exact (by ((try simp only [World.size_alloc, World.size_setCell, World.size_drew, size_drewN]); (try dsimp only); omega))) | refine Qtrans (by assumption) (by ((try simp only [World.size_alloc, World.size_setCell, World.size_drew, size_drewN]); (try dsimp only); omega)) ?_))⟩
    · have hau := au_of hA
      have hm := inB_true.1 hI
      obtain ⟨d, rfl⟩ : ∃ d : Nat, b = d := ⟨b.toNat, by have := hau.1; omega⟩
      obtain ⟨m, rfl⟩ : ∃ k : Nat, m = k := ⟨m.toNat, by omega⟩
      have hf : Hid (awS d n Z o m = ⟨(aw d Z o m).toArray⟩ ∧ raB d n Z o m 400 = true) := Lib.hid (by simp [awS, raB, hA, hI])
      have hm4 : m ≤ 400 := by omega
      have hWz : (w.alloc (Obj.cells #[.int .i64 d, .slice x n cap, .string o] 27)).heap.size = w.heap.size + 1 := by simp
      have hW0 : (w.alloc (Obj.cells #[.int .i64 d, .slice x n cap, .string o] 27)).cell? ⟨w.heap.size, 0, none⟩ = some (.int .i64 d) := by simp [go_sem]
      have hW1 : (w.alloc (Obj.cells #[.int .i64 d, .slice x n cap, .string o] 27)).cell? ⟨w.heap.size, 1, none⟩ = some (.slice x n cap) := by simp [go_sem]
      have hW2 : (w.alloc (Obj.cells #[.int .i64 d, .slice x n cap, .string o] 27)).cell? ⟨w.heap.size, 2, none⟩ = some (.string o) := by simp [go_sem]
      have hau' := Lib.hid hau
      clear hau hm
      go_enter Try.func22, Try.ntmps22
      go_wp2_with (first | ((go_at_call 16; refine (specAutoOk_any _ _ _ _ _ _ _ h0 hn ho hZ).mono ?_; rintro e w1 ⟨rfl, hb1⟩; have hz1 := hb1.size; (try simp at hz1); obtain ⟨hc1, hf1⟩ := bcellK (w := w) 1 hb1 (by ((try simp only [World.size_alloc, World.size_setCell, World.size_drew, size_drewN]); (try dsimp only); omega)); have hl1 := ltK (n := w.heap.size) (p := 1) (w1 := w1) (by omega); (try (have tk1 := trackAlloc hb1 (by ((try simp only [World.size_alloc, World.size_setCell, World.size_drew, size_drewN]); (try dsimp only); omega)); try simp only [World.size_alloc, World.size_drew] at tk1)); (try (have tk2 := trackAllocD hb1 (by ((try simp only [World.size_alloc, World.size_setCell, World.size_drew, size_drewN]); (try dsimp only); omega)); try simp only [World.size_alloc, World.size_drew] at tk2)); (try have tk3 := trackNext hb1 (by assumption) (by ((try simp only [World.size_alloc, World.size_setCell, World.size_drew, size_drewN]); (try dsimp only); omega)))); have h1 := isMat_below h0 (Nat.le_refl _) hb1) | (go_at_call 54; refine (l01In_any _ _ _ _).mono ?_; rintro e w1 ⟨rfl, rfl⟩))
      go_loopw [6, 7] (fun ov i wr => ∃ k : Nat, k ≤ m ∧ ov = .string ⟨(aw d Z o k).toArray⟩ ∧ i = .int .i64 k ∧ Below (w.heap.size + 1) (w.alloc (Obj.cells #[.int .i64 d, .slice x n cap, .string o] 27)) wr) (fun _ i _ => m - (intOf i).toNat)
      case atStart => exact ⟨0, by omega, rfl, rfl, by simpa using hb1⟩
      case round =>
        obtain ⟨k, hk, rfl, rfl, hbel⟩ := hrel
        have hzr := hbel.size
        simp only [World.size_alloc] at hzr
        have hq0 := (hbel.cell (by show w.heap.size < w.heap.size + 1; omega)).trans hW0
        have hq1 := (hbel.cell (by show w.heap.size < w.heap.size + 1; omega)).trans hW1
        have hq2 := (hbel.cell (by show w.heap.size < w.heap.size + 1; omega)).trans hW2
        by_cases hlt : k < m
        · have hMr := isMat_below h0 (by simp) hbel
          have hC := l18Letter_any d x n cap Z o hau'.out k (by omega) wr hMr
          have hnx := Lib.hid (aw_next d Z o k)
          have hll := aw_len d Z o k
          have hrun := aw_run (aw d Z o k) (lb o (ed d Z k)) (by omega)
          simp only [ltr] at hC
          obtain ⟨c, hc⟩ : ∃ c, lb o (ed d Z k) = c := ⟨_, rfl⟩
          rw [hc] at hC hnx hrun
          obtain ⟨l, hl⟩ : ∃ l, aw d Z o k = l := ⟨_, rfl⟩
          rw [hl] at hnx hrun hll ⊢
          have hll' := Lib.hid hll
          have hk0 : (0 : Int) ≤ (k : Int) := by omega
          have hk1 : (k : Int) < (m : Int) := by omega
          clear hc hl hll hW0 hW1 hW2 hMr h0 h
          go_wp2_with (go_at_call 60; refine hC.mono ?_; rintro e w2 ⟨rfl, hb2⟩)
          go_roundw
          case rel => exact ⟨k + 1, by omega, by rw [hnx.out], by go_num, Qtrans hb2 hzr hbel⟩
          case measure => (simp [intOf]) <;> omega
        · obtain rfl : k = m := by omega
          go_wp2
          go_ret2
          exact ⟨by rw [hf.out.1, hf.out.2]; rfl, by (repeat (first | with_reducible exact Below.refl _ _ | assumption | with_reducible refine Qdrew ?_ | with_reducible refine QdrewN ?_ | ((with_reducible refine Qset ?_ ?_); exact (by ((try simp only [World.size_alloc, World.size_setCell, World.size_drew, size_drewN]); (try dsimp only); omega))) | ((with_reducible refine Qalloc ?_ ?_); exact (by ((try simp only [World.size_alloc, World.size_setCell, World.size_drew, size_drewN]); (try dsimp only); omega))) | refine Qtrans (by assumption) (by ((try simp only [World.size_alloc, World.size_setCell, World.size_drew, size_drewN]); (try dsimp only); omega)) ?_))⟩
set_option maxHeartbeats 2000000 in
theorem implAutoWord_any (b : Int) (x : Option Addr) (n cap : Nat) (Z : Nat → List Int) (o : ByteArray) (m : Int) (w : World) (h : IsMat w x n Z) (hn : n ≤ 1048576) (ho : o.size ≤ 1048576) (hZ : ∀ r, r < n → (Z r).length ≤ 1048576) :
    Calls Try.prog 23 #[(Value.agg #[.int .i64 b, .slice x n cap, .string o]), .int .i64 m] w fun e w' => e = .returned (.tuple #[.string (awS b n Z o m), .bool (raB b n Z o m 400)]) ∧ Below w.heap.size w w' := by
  have h0 := isMat_below h (Nat.le_refl _) ((Below.refl _ w).alloc (Nat.le_refl _) (Obj.cells #[.int .i64 b, .slice x n cap, .string o] 27))
  cases hA : auB b n Z o
  · have hf : Hid (awS b n Z o m = ⟨#[]⟩ ∧ raB b n Z o m 400 = false) := Lib.hid (by simp [awS, raB, hA])
    go_enter Try.func23, Try.ntmps23
    go_wp2_with (first | (go_at_call 18; refine (implAutoOk_any _ _ _ _ _ _ _ h0 hn ho hZ).mono ?_; rintro e w1 ⟨rfl, hb1⟩; have hz1 := hb1.size) | (go_at_call 57; refine (within_any _ _ _ _).mono ?_; rintro e w1 ⟨rfl, rfl⟩))
    go_ret2
    exact ⟨by rw [hf.out.1, hf.out.2]; rfl, by (repeat (first | with_reducible exact Below.refl _ _ | assumption | with_reducible refine Qdrew ?_ | with_reducible refine QdrewN ?_ | ((with_reducible refine Qset ?_ ?_); exact (by ((try simp only [World.size_alloc, World.size_setCell, World.size_drew, size_drewN]); (try dsimp only); omega))) | ((with_reducible refine Qalloc ?_ ?_); exact (by ((try simp only [World.size_alloc, World.size_setCell, World.size_drew, size_drewN]); (try dsimp only); omega))) | refine Qtrans (by assumption) (by ((try simp only [World.size_alloc, World.size_setCell, World.size_drew, size_drewN]); (try dsimp only); omega)) ?_))⟩
  · cases hI : inB m 0 400
    · have hf : Hid (awS b n Z o m = ⟨#[]⟩ ∧ raB b n Z o m 400 = false) := Lib.hid (by simp [awS, raB, hI])
      go_enter Try.func23, Try.ntmps23
      go_wp2_with (first | (go_at_call 18; refine (implAutoOk_any _ _ _ _ _ _ _ h0 hn ho hZ).mono ?_; rintro e w1 ⟨rfl, hb1⟩; have hz1 := hb1.size) | (go_at_call 57; refine (within_any _ _ _ _).mono ?_; rintro e w1 ⟨rfl, rfl⟩))
      go_ret2
      exact ⟨by rw [hf.out.1, hf.out.2]; rfl, by (repeat (first | with_reducible exact Below.refl _ _ | assumption | with_reducible refine Qdrew ?_ | with_reducible refine QdrewN ?_ | ((with_reducible refine Qset ?_ ?_); exact (by ((try simp only [World.size_alloc, World.size_setCell, World.size_drew, size_drewN]); (try dsimp only); omega))) | ((with_reducible refine Qalloc ?_ ?_); exact (by ((try simp only [World.size_alloc, World.size_setCell, World.size_drew, size_drewN]); (try dsimp only); omega))) | refine Qtrans (by assumption) (by ((try simp only [World.size_alloc, World.size_setCell, World.size_drew, size_drewN]); (try dsimp only); omega)) ?_))⟩
    · have hau := au_of hA
      have hm := inB_true.1 hI
      obtain ⟨d, rfl⟩ : ∃ d : Nat, b = d := ⟨b.toNat, by have := hau.1; omega⟩
      obtain ⟨m, rfl⟩ : ∃ k : Nat, m = k := ⟨m.toNat, by omega⟩
      have hf : Hid (awS d n Z o m = ⟨(aw d Z o m).toArray⟩ ∧ raB d n Z o m 400 = true) := Lib.hid (by simp [awS, raB, hA, hI])
      have hm4 : m ≤ 400 := by omega
      have hWz : (w.alloc (Obj.cells #[.int .i64 d, .slice x n cap, .string o] 27)).heap.size = w.heap.size + 1 := by simp
      have hW0 : (w.alloc (Obj.cells #[.int .i64 d, .slice x n cap, .string o] 27)).cell? ⟨w.heap.size, 0, none⟩ = some (.int .i64 d) := by simp [go_sem]
      have hW1 : (w.alloc (Obj.cells #[.int .i64 d, .slice x n cap, .string o] 27)).cell? ⟨w.heap.size, 1, none⟩ = some (.slice x n cap) := by simp [go_sem]
      have hW2 : (w.alloc (Obj.cells #[.int .i64 d, .slice x n cap, .string o] 27)).cell? ⟨w.heap.size, 2, none⟩ = some (.string o) := by simp [go_sem]
      have hau' := Lib.hid hau
      clear hau hm
      obtain ⟨i0, hi0, hz0, hz1, hz2⟩ := info_parts infoB
      go_enter Try.func23, Try.ntmps23
      go_wp2_with (first | (go_at_call 18; refine (implAutoOk_any _ _ _ _ _ _ _ h0 hn ho hZ).mono ?_; rintro e w1 ⟨rfl, hb1⟩; have hy1 := hb1.size; simp only [World.size_alloc] at hy1; obtain ⟨hc1, hf1⟩ := bcell hb1; have hl1 := ltW hb1) | (go_at_call 57; refine (within_any _ _ _ _).mono ?_; rintro e w1 ⟨rfl, rfl⟩))
      have hlit := World.ownsRow_lit (base := w.heap.size + 1) (e := 5) (size := 1) w1 #[] 0 hy1 (by decide) rfl
      have hbs := hb1
      simp only [World.size_alloc] at hbs
      go_loopw [6, 18] (fun ov i wr => ∃ (k g c : Nat), k ≤ m ∧ ov = .slice (some ⟨g, 0, none⟩) k c ∧ i = .int .i64 k ∧ wr.ownsRow (w.heap.size + 1) 5 1 (.slice (some ⟨g, 0, none⟩) k c) k (bv (aw d Z o k)) ∧ Below (w.heap.size + 1) (w.alloc (Obj.cells #[.int .i64 d, .slice x n cap, .string o] 27)) wr) (fun _ i _ => m - (intOf i).toNat)
      case atStart => exact ⟨0, w1.heap.size, 0, by omega, rfl, rfl, hlit, hbs.alloc hy1 _⟩
      case round =>
        obtain ⟨k, g, c, hk, rfl, rfl, hown, hbel⟩ := hrel
        have hzr := hbel.size
        simp only [World.size_alloc] at hzr
        have hq0 := (hbel.cell (by show w.heap.size < w.heap.size + 1; omega)).trans hW0
        have hq1 := (hbel.cell (by show w.heap.size < w.heap.size + 1; omega)).trans hW1
        have hq2 := (hbel.cell (by show w.heap.size < w.heap.size + 1; omega)).trans hW2
        have hll := aw_len d Z o k
        by_cases hlt : k < m
        · have hMr := isMat_below h0 (by simp) hbel
          have hC := letter_any d x n cap Z o hau'.out k (by omega) wr hMr
          rw [← lb_bt] at hC
          have hnx := Lib.hid (aw_next d Z o k)
          obtain ⟨z, hc⟩ : ∃ z, lb o (ed d Z k) = z := ⟨_, rfl⟩
          rw [hc] at hC hnx
          obtain ⟨l, hl⟩ : ∃ l, aw d Z o k = l := ⟨_, rfl⟩
          rw [hl] at hnx hown
          have hk0 : (0 : Int) ≤ (k : Int) := by omega
          have hk1 : (k : Int) < (m : Int) := by omega
          clear hc hl hll hW0 hW1 hW2 hMr h0 h hc1 hf1 hl1 hb1 hbs hlit
          go_wp2_with (first | (go_at_call 61; refine hC.mono ?_; rintro e w2 ⟨rfl, hb2⟩; have hy2 := hb2.size; have hown2 := own_below hown hb2; have hbel2 := Qtrans hb2 hzr hbel) | (at_builtin; refine wpList_append_lies _ rfl _ _ _ rfl (w.heap.size + 1) 5 i0 _ 1 1 Try.underlying72 hi0 hz0 hz1 hz2 rfl (by decide) (_) (k) (bv l) (by rfl) (hown2.alloc _) ⟨(w2).heap.size, 0, none⟩ 1 1 [.int .u8 (z.toNat : Int)] (by rfl) (by rfl) (World.news_of_block (cs := #[.int .u8 (z.toNat : Int)]) (t := 5) (fr := (0, 0)) (heap_alloc_new (w2) _)) (by simp [Value.oneCell']) (by omega) (by unfold maxLen; omega) (by omega) (by simp; omega) ((w2).heap.size + 1) (by simp) ?_; intro gg cap w1 hown1 hgrow hatg hltg))
          go_roundw
          case rel => exact ⟨k + 1, gg, _, by omega, rfl, by go_num, by rw [hnx.out, bv_snoc]; exact hown1, below_app hbel2 (by omega) hown2 hgrow⟩
          case measure => (simp [intOf]) <;> omega
        · obtain rfl : k = m := by omega
          have hstr := own_string (l := aw d Z o k) (by rw [hll]; exact hown)
          rw [hll] at hstr
          go_wp2
          go_ret2
          exact ⟨by rw [hf.out.1, hf.out.2]; rfl, by (repeat (first | with_reducible exact Below.refl _ _ | assumption | with_reducible refine Qdrew ?_ | with_reducible refine QdrewN ?_ | ((with_reducible refine Qset ?_ ?_); exact (by ((try simp only [World.size_alloc, World.size_setCell, World.size_drew, size_drewN]); (try dsimp only); omega))) | ((with_reducible refine Qalloc ?_ ?_); exact (by ((try simp only [World.size_alloc, World.size_setCell, World.size_drew, size_drewN]); (try dsimp only); omega))) | refine Qtrans (by assumption) (by ((try simp only [World.size_alloc, World.size_setCell, World.size_drew, size_drewN]); (try dsimp only); omega)) ?_))⟩
end Go.Proofs.Ytfbcbfimhgaicaa
