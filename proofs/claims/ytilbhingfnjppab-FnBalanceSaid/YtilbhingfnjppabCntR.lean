/- How many return words the factors have: the walks and the law. -/
import Derived.Test.YtilbhingfnjppabFacW
import Derived.Test.YtilbhingfnjppabMWds
import Derived.Test.YtilbhingfnjppabMFra
set_option linter.unusedSimpArgs false
set_option linter.unusedVariables false
namespace Go.Proofs.Ytilbhingfnjppab
open Go.RowKit
noncomputable def facsL (s : ByteArray) (n : Int) : List ByteArray := if (isWB s && inB n 1 400) = true then facs s n.toNat else []
theorem facsL_len (s : ByteArray) (n : Int) : (facsL s n).length ≤ 401 := by
  unfold facsL
  split
  · rename_i h
    rw [Bool.and_eq_true] at h
    have h1 := (isW_of h.1).1
    have := FF_len s n.toNat (s.size + 1 - n.toNat)
    unfold facs; omega
  · simp
theorem mem_fkn {s : ByteArray} {n k : Nat} {z : ByteArray} (h : z ∈ fkn s n k) : z.size ≤ s.size := by
  obtain ⟨i, _, rfl⟩ := List.mem_map.1 h
  rw [ByteArray.size_extract]; omega
theorem facsL_size (s : ByteArray) (n : Int) : ∀ z ∈ facsL s n, z.size ≤ s.size := by
  intro z hz
  unfold facsL at hz
  split at hz
  · unfold facs FF at hz
    rcases ((fold_asc _ [] List.Pairwise.nil).2 z).1 hz with h | h
    · simp at h
    · exact mem_fkn h
  · simp at hz
set_option maxRecDepth 20000 in
set_option maxHeartbeats 400000 in
theorem isLength_any (s : ByteArray) (n : Int) (w : World) (hs : s.size ≤ 9223372036854775807) :
    Calls Try.prog 75 #[.string s, .int .i64 n] w fun e w' => e = .returned (.bool (isWB s && inB n 1 400)) ∧ w = w' := by
  cases hW : isWB s <;> cases hN : inB n 1 400
  all_goals
    go_enter Try.func75, Try.ntmps75
    go_wp2_with (first | (go_at_call 62; refine (isWord_any _ _ hs).mono ?_; rintro e w1 ⟨rfl, rfl⟩) | (go_at_call 65; refine (within_any _ _ _ _).mono ?_; rintro e w1 ⟨rfl, rfl⟩))
    go_ret
    exact ⟨rfl, rfl⟩
set_option maxRecDepth 20000 in
set_option maxHeartbeats 1000000 in
theorem implFacs_any (s : ByteArray) (n : Int) (w : World) (hs : s.size ≤ 9223372036854775807) :
    Calls Try.prog 34 #[.string s, .int .i64 n] w fun e w' => ∃ x c, e = .returned (.slice x (facsL s n).length c) ∧ w'.ownsRow w.heap.size 9 1 (.slice x (facsL s n).length c) (facsL s n).length (sv (facsL s n)) ∧ Below w.heap.size w w' := by
  cases hW : isWB s
  · have hL : Hid (facsL s n = []) := by show _ = _; simp [facsL, hW]
    go_enter Try.func34, Try.ntmps34
    go_wp2_with ((go_at_call 75; refine (isLength_any _ _ _ hs).mono ?_; rintro e w1 ⟨rfl, rfl⟩))
    go_ret
    exact ⟨none, 0, by rw [hL.out]; rfl, by rw [hL.out]; exact World.ownsRow_nil _ _ _ _, by (repeat (first | with_reducible exact Below.refl _ _ | assumption | with_reducible refine Qdrew ?_ | with_reducible refine QdrewN ?_ | ((with_reducible refine Qset ?_ ?_); exact (by ((try simp only [World.size_alloc, World.size_setCell, World.size_drew, size_drewN]); (try dsimp only); omega))) | ((with_reducible refine Qalloc ?_ ?_); exact (by ((try simp only [World.size_alloc, World.size_setCell, World.size_drew, size_drewN]); (try dsimp only); omega))) | refine Qtrans (by assumption) (by ((try simp only [World.size_alloc, World.size_setCell, World.size_drew, size_drewN]); (try dsimp only); omega)) ?_))⟩
  · cases hN : inB n 1 400
    · have hL : Hid (facsL s n = []) := by show _ = _; simp [facsL, hN]
      go_enter Try.func34, Try.ntmps34
      go_wp2_with ((go_at_call 75; refine (isLength_any _ _ _ hs).mono ?_; rintro e w1 ⟨rfl, rfl⟩))
      go_ret
      exact ⟨none, 0, by rw [hL.out]; rfl, by rw [hL.out]; exact World.ownsRow_nil _ _ _ _, by (repeat (first | with_reducible exact Below.refl _ _ | assumption | with_reducible refine Qdrew ?_ | with_reducible refine QdrewN ?_ | ((with_reducible refine Qset ?_ ?_); exact (by ((try simp only [World.size_alloc, World.size_setCell, World.size_drew, size_drewN]); (try dsimp only); omega))) | ((with_reducible refine Qalloc ?_ ?_); exact (by ((try simp only [World.size_alloc, World.size_setCell, World.size_drew, size_drewN]); (try dsimp only); omega))) | refine Qtrans (by assumption) (by ((try simp only [World.size_alloc, World.size_setCell, World.size_drew, size_drewN]); (try dsimp only); omega)) ?_))⟩
    · have hb := inB_true.1 hN
      have h400 := (isW_of hW).1
      obtain ⟨m, hm⟩ : ∃ m : Nat, n = (m : Int) := ⟨n.toNat, by omega⟩
      have hL : Hid (facsL s n = facs s m) := by show _ = _; rw [facsL, if_pos (by rw [hW, hN]; rfl), hm]; rfl
      have hc := fun w => factorsOf_any s m w h400 (by omega)
      rw [hm] at hN ⊢
      rw [hm] at hL
      go_enter Try.func34, Try.ntmps34
      go_wp2_with (first | ((go_at_call 75; refine (isLength_any _ _ _ hs).mono ?_; rintro e w1 ⟨rfl, rfl⟩)) | (go_at_call 76; refine (hc _).mono ?_; rintro e w1 ⟨g, c, rfl, ho, hb1⟩))
      go_ret
      exact ⟨_, c, by rw [hL.out]; rfl, by rw [hL.out]; exact ho, hb1⟩
noncomputable def crk (s : ByteArray) (L : List ByteArray) (k : Nat) : List Int := (L.take k).map (fun f => ((dd (R s f)).length : Int))
theorem crk_next (s : ByteArray) (L : List ByteArray) (k : Nat) (h : k < L.length) : crk s L (k + 1) = crk s L k ++ [((dd (R s (L.getD k ByteArray.empty))).length : Int)] := by
  unfold crk; rw [take_next L k ByteArray.empty h]; simp
theorem crk_len (s : ByteArray) (L : List ByteArray) (k : Nat) (h : k ≤ L.length) : (crk s L k).length = k := by simp [crk]; omega
noncomputable def crL (s : ByteArray) (n : Int) : List Int := crk s (facsL s n) (facsL s n).length
theorem ne_app2 {g b gg n cap H : Nat} (hne : b ≠ g) (hgl : b < H) (hat : (Value.slice (some ⟨g, 0, none⟩) n cap).ownBlock = some gg ∨ gg = H + 1) : b ≠ gg := by
  rcases hat with e | e
  · have : g = gg := by simpa [Value.ownBlock] using e
    omega
  · omega
theorem isStrs_grow {wr w1 : World} {x : Option Addr} {n cap g : Nat} {zs : List ByteArray} {o : Obj} (h : IsStrs wr x n cap zs) (hx : ∀ b off, x = some ⟨b, off, none⟩ → b ≠ g) (hg : (wr.alloc o).grownBy w1 (some g)) : IsStrs w1 x n cap zs := by
  refine ⟨h.1, h.2.1, h.2.2.1, h.2.2.2.1, ?_⟩
  rcases h.2.2.2.2 with h0 | ⟨b, off, rfl, hlt, hc⟩
  · exact .inl h0
  · have hb := hx b off rfl
    refine .inr ⟨b, off, rfl, Nat.lt_trans hlt (size_app hg), fun j hj => ?_⟩
    rw [hg.cell_far ⟨b, off + j, none⟩ (by show b < _; simp; omega) (by simp; omega)]
    rw [show (wr.alloc o).cell? ⟨b, off + j, none⟩ = wr.cell? ⟨b, off + j, none⟩ from calloc hlt]
    exact hc j hj
set_option maxRecDepth 20000 in
set_option maxHeartbeats 2000000 in
theorem implCR_any (s : ByteArray) (n : Int) (w : World) (hs : s.size ≤ 9223372036854775807) :
    Calls Try.prog 33 #[.string s, .int .i64 n] w fun e w' => ∃ x c, e = .returned (.slice x (crL s n).length c) ∧ w'.ownsRow w.heap.size 3 1 (.slice x (crL s n).length c) (crL s n).length (iv (crL s n)) ∧ Below w.heap.size w w' := by
  obtain ⟨i0, hi0, hz0, hz1, hz2⟩ := info_parts infoI
  have hfc := fun w => implFacs_any s n w hs
  have hll := facsL_len s n
  have hlz := facsL_size s n
  have hcr : Hid (crL s n = crk s (facsL s n) (facsL s n).length) := rfl
  obtain ⟨L, hL⟩ : ∃ L, facsL s n = L := ⟨_, rfl⟩
  rw [hL] at hfc hll hlz hcr
  obtain ⟨m, hm⟩ : ∃ m, L.length = m := ⟨_, rfl⟩
  rw [hm] at hfc hll hcr
  have hm' := Lib.hid hm
  have hlz' := Lib.hid hlz
  have hown0 := World.ownsRow_lit (base := w.heap.size) (e := 3) (size := 1) w #[] 0 (Nat.le_refl _) (by decide) rfl
  clear hL hm hlz
  go_enter Try.func33, Try.ntmps33
  go_wp2_with (go_at_call 34; refine (hfc _).mono ?_; rintro e wA ⟨xa, ca, rfl, hoA, hbA⟩)
  have hzA := hbA.size
  simp only [World.size_alloc] at hzA
  have hownA := own_below hown0 hbA
  have hstA : IsStrs wA xa m ca L := by
    rcases hoA.2 with ⟨e0, h0⟩ | ⟨g0, c0, cur, e0, _, _, _⟩
    · simp only [Value.slice.injEq] at e0
      obtain ⟨rfl, h1, rfl⟩ := e0
      exact ⟨hm'.out, by omega, by unfold maxLen; omega, fun z hz => by have := hlz'.out z hz; unfold maxLen; omega, .inl h0⟩
    · simp only [Value.slice.injEq] at e0
      obtain ⟨rfl, h1, rfl⟩ := e0
      exact isStrs_own hoA (fun z hz => by have := hlz'.out z hz; unfold maxLen; omega)
  have hxa : Hid (∀ b off, xa = some ⟨b, off, none⟩ → w.heap.size < b ∧ b < wA.heap.size) := fun b off e => by
    subst e; have := hoA.lt b rfl; simp at this; omega
  have hbA' : Below w.heap.size w wA := Qtrans hbA (by simp) ((Below.refl _ w).alloc (Nat.le_refl _) _)
  clear hoA hown0
  go_loopw [5, 13] (fun out i wr => ∃ k g c : Nat, k ≤ m ∧ i = .int .i64 k ∧ out = .slice (some ⟨g, 0, none⟩) k c ∧ wr.ownsRow w.heap.size 3 1 (.slice (some ⟨g, 0, none⟩) k c) k (iv (crk s L k)) ∧ Hid (∀ b off, xa = some ⟨b, off, none⟩ → b ≠ g) ∧ IsStrs wr xa m ca L ∧ wA.heap.size ≤ wr.heap.size ∧ Below w.heap.size w wr) (fun _ i _ => m - (intOf i).toNat)
  case atStart => exact ⟨0, w.heap.size, 0, by omega, rfl, rfl, hownA, Lib.hid (fun b off e => by have := hxa.out b off e; omega), hstA, Nat.le_refl _, hbA'⟩
  case round =>
    clear hownA hstA
    obtain ⟨k, g, c, hk, rfl, rfl, hown, hne, hst, hz, hbel⟩ := hrel
    by_cases hlt : k < m
    · obtain ⟨b, off, rfl, hb, hcl⟩ := isStrs_cell hst (by omega)
      have hck := hcl k hlt
      have hnext := crk_next s L k (by rw [hm'.out]; exact hlt)
      have hzs := size_le hst.2.2.2.1 k
      unfold maxLen at hzs
      obtain ⟨z, hzz⟩ : ∃ z, L.getD k ByteArray.empty = z := ⟨_, rfl⟩
      rw [hzz] at hck hnext hzs
      have hrc := fun w => implReturns_any s z w hs (by omega)
      have hrl : (dd (R s z)).length ≤ 401 := Nat.le_trans (ddl _) (R_len s z hs)
      obtain ⟨D, hD⟩ : ∃ D, dd (R s z) = D := ⟨_, rfl⟩
      rw [hD] at hnext hrc hrl
      obtain ⟨d, hd⟩ : ∃ d, D.length = d := ⟨_, rfl⟩
      rw [hd] at hnext hrc hrl
      have hnext' := Lib.hid hnext
      have hk0 : (0 : Int) ≤ (k : Int) := by omega
      have hk1 : (k : Int) < (m : Int) := by omega
      have hgl := (hown.lt g rfl).2
      clear hzz hcl hnext hD hd
      go_wp2_with (first | (go_at_call 22; refine (hrc _).mono ?_; rintro e wB ⟨xb, cb, rfl, hrowb, hbB⟩; have hzB := hbB.size; have hownB := own_below hown hbB; clear hrowb) | (at_builtin; refine wpList_append_lies _ rfl _ _ _ rfl (w.heap.size) 3 i0 _ 1 8 Try.underlying32 hi0 hz0 hz1 hz2 rfl (by decide) (.slice (some ⟨g, 0, none⟩) k c) (k) (iv (crk s L k)) (by rfl) (hownB.alloc _) ⟨(wB).heap.size, 0, none⟩ 1 1 [.int .i64 d] (by rfl) (by rfl) (World.news_of_block (cs := #[.int .i64 d]) (t := 3) (fr := (0, 0)) (heap_alloc_new (wB) _)) (by simp [Value.oneCell']) (by omega) (by unfold maxLen; omega) (by omega) (by simp; omega) ((wB).heap.size + 1) (by simp) ?_; intro gg cap w1 hown1 hgrow hatg hltg))
      go_roundw
      case rel => exact ⟨k + 1, gg, _, by omega, by go_num, rfl, by rw [hnext'.out, iv_snoc]; exact hown1, Lib.hid (fun b' off' e => ne_app2 (hne.out b' off' e) (by have := hxa.out b' off' e; omega) hatg), isStrs_grow (isStrs_below hst (Nat.le_refl _) hbB) (fun b' off' e => hne.out b' off' e) hgrow, by have := size_app hgrow; omega, below_app (Qtrans hbB (by omega) hbel) (by omega) hownB hgrow⟩
      case measure => (simp [intOf]) <;> omega
    · obtain rfl : m = k := by omega
      have hlt' : ¬ (m : Int) < (m : Int) := by omega
      have hcl : Hid ((crL s n).length = m) := by show _ = _; rw [hcr.out]; exact crk_len s L m (by rw [hm'.out]; exact Nat.le_refl _)
      go_wp2
      go_ret
      exact ⟨_, c, by rw [hcl.out]; rfl, by rw [hcl.out, hcr.out]; exact hown, hbel⟩
theorem crL_len (s : ByteArray) (n : Int) : (crL s n).length ≤ 401 := by
  have := facsL_len s n
  unfold crL
  rw [crk_len _ _ _ (Nat.le_refl _)]; exact this
end Go.Proofs.Ytilbhingfnjppab
