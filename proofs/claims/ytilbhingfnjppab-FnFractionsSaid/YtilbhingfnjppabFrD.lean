/- Convergents: plain, and the walks. -/
import Derived.Test.YtilbhingfnjppabFrC
import Derived.Test.YtilbhingfnjppabLawU
import Derived.Deep.Onto
set_option linter.unusedSimpArgs false
set_option linter.unusedVariables false
namespace Go.Proofs.Ytilbhingfnjppab
open Go.RowKit
/-- One step of the convergents. -/
def cvS (s : Nat × Nat × Nat × Nat) (k : Nat) : Nat × Nat × Nat × Nat := (s.2.2.1, s.2.2.2, k * s.2.2.1 + s.1, k * s.2.2.2 + s.2.1)
def cvAt (l : List Nat) (j : Nat) : Nat × Nat × Nat × Nat := (l.take j).foldl cvS (0, 1, 1, 0)
theorem cvAt_next (l : List Nat) (j : Nat) (h : j < l.length) : cvAt l (j + 1) = cvS (cvAt l j) (l.getD j 0) := by
  unfold cvAt
  rw [List.take_add_one, List.foldl_append]
  simp [h, List.getD_eq_getElem?_getD]
def cN (l : List Nat) (j : Nat) : Nat := (cvAt l (j + 1)).2.2.1
def dN (l : List Nat) (j : Nat) : Nat := (cvAt l (j + 1)).2.2.2
/-- Quotients that the program takes. -/
structure QOk (l : List Nat) : Prop where
  n1 : 1 ≤ l.length
  n2 : l.length ≤ 20
  at1 : ∀ j, j < l.length → min j 1 ≤ l.getD j 0 ∧ l.getD j 0 ≤ 1000
  most : ∀ j, j < l.length → cN l j ≤ 1000000000 ∧ dN l j ≤ 1000000000
def zN (l : List Nat) : List Int := l.map (fun (k : Nat) => (k : Int))
theorem zN_len (l : List Nat) : (zN l).length = l.length := by simp [zN]
theorem zN_at (l : List Nat) (j : Nat) : (zN l).getD j 0 = (l.getD j 0 : Int) := by
  by_cases h : j < l.length
  · simp [zN, List.getD_eq_getElem?_getD, h]
  · simp [zN, List.getD_eq_getElem?_getD, List.getElem?_eq_none (show l.length ≤ j by omega)]
theorem infoMat : (Try.prog.info? 32).map (fun i => (i.zero, i.size, i.bytes)) = some (some (.slice none 0 0), 1, 24) := by kernel_rfl
def cdR (l : List Nat) (j : Nat) : List Value := [.int .i64 (cN l j), .int .i64 (dN l j)]
/-- A slice of slices of two numbers, the first convergents, each in a block of its own. -/
def OM2 (w : World) (B g n cap : Nat) (l : List Nat) : Prop :=
  ∃ (V : List Value) (f : Nat → Nat), V.length = n ∧ w.ownsRow B 32 1 (.slice (some ⟨g, 0, none⟩) n cap) n V ∧ (∀ j, j < n → V[j]? = some (.slice (some ⟨f j, 0, none⟩) 2 2) ∧ w.ownsRow B 3 1 (.slice (some ⟨f j, 0, none⟩) 2 2) 2 (cdR l j) ∧ f j ≠ g)
theorem om_below {w w' : World} {B g n cap : Nat} {l : List Nat} (h : OM2 w B g n cap l) (hb : Below w.heap.size w w') : OM2 w' B g n cap l := by
  obtain ⟨V, f, h1, h2, h3⟩ := h
  exact ⟨V, f, h1, own_below h2 hb, fun j hj => by obtain ⟨q1, q3, q4⟩ := h3 j hj; exact ⟨q1, own_below q3 hb, q4⟩⟩
theorem om_lt {w : World} {B g n cap : Nat} {l : List Nat} (h : OM2 w B g n cap l) : B ≤ g ∧ g < w.heap.size := by
  obtain ⟨V, f, h1, h2, h3⟩ := h
  exact h2.lt g rfl
theorem om_nil (w : World) (B : Nat) (hB : B ≤ w.heap.size) (l : List Nat) : OM2 (w.alloc (.cells #[] 32)) B w.heap.size 0 0 l :=
  ⟨[], fun _ => 0, rfl, World.ownsRow_lit (base := B) (e := 32) (size := 1) w #[] 0 hB (by decide) rfl, fun j hj => absurd hj (by omega)⟩
theorem heap_newT (w : World) (a b : Obj) : ((w.alloc a).alloc b).heap[w.heap.size + 1]? = some b := by
  have := heap_alloc_new (w.alloc a) b
  rw [World.size_alloc] at this
  exact this
theorem om_app {w wr w1 : World} {B g n cap cap' gg : Nat} {l : List Nat} {V : List Value} {f : Nat → Nat}
    (hrows : ∀ j, j < n → V[j]? = some (.slice (some ⟨f j, 0, none⟩) 2 2) ∧ w.ownsRow B 3 1 (.slice (some ⟨f j, 0, none⟩) 2 2) 2 (cdR l j) ∧ f j ≠ g) (hB : B ≤ w.heap.size) (hgl : g < w.heap.size) (hVl : V.length = n)
    (hwr : wr = (w.alloc (.cells #[.int .i64 (cN l n), .int .i64 (dN l n)] 3)).alloc (.cells #[.slice (some ⟨w.heap.size, 0, none⟩) 2 2] 32))
    (hown : w1.ownsRow B 32 1 (.slice (some ⟨gg, 0, none⟩) (n + 1) cap') (n + 1) (V ++ [.slice (some ⟨w.heap.size, 0, none⟩) 2 2]))
    (hg : wr.grownBy w1 (some g)) (hat : (Value.slice (some ⟨g, 0, none⟩) n cap).ownBlock = some gg ∨ gg = w.heap.size + 1 + 1) : OM2 w1 B gg (n + 1) cap' l := by
  subst hwr
  have hgg : gg = g ∨ gg = w.heap.size + 1 + 1 := by
    rcases hat with e | e
    · left; have : g = gg := by simpa [Value.ownBlock] using e
      omega
    · exact .inr e
  have hlt : ∀ j, j < n → f j < w.heap.size := fun j hj => ((hrows j hj).2.1.lt (f j) rfl).2
  refine ⟨V ++ [.slice (some ⟨w.heap.size, 0, none⟩) 2 2], fun j => if j < n then f j else w.heap.size, by simp [hVl], hown, fun j hj => ?_⟩
  by_cases e : j < n
  · obtain ⟨q1, q3, q4⟩ := hrows j e
    have hfl := hlt j e
    simp only [if_pos e]
    refine ⟨by rw [List.getElem?_append_left (by omega)]; exact q1, ?_, by omega⟩
    exact ((q3.alloc _).alloc _).kept hg (.inr (by simp [Value.ownBlock]; omega))
  · obtain rfl : j = n := by omega
    simp only [if_neg e]
    refine ⟨by rw [List.getElem?_append_right (by omega), hVl, Nat.sub_self]; rfl, ?_, by omega⟩
    exact ((World.ownsRow_lit (base := B) (e := 3) (size := 1) w #[.int .i64 (cN l j), .int .i64 (dN l j)] 2 hB (by decide) rfl).alloc _).kept hg (.inr (by simp [Value.ownBlock]; omega))
set_option maxRecDepth 20000 in
set_option maxHeartbeats 4000000 in
theorem areQ_yes (x : Option Addr) (n cap : Nat) (l : List Nat) (w : World) (h : RI w x n (zN l)) (hq : QOk l) :
    Calls Try.prog 77 #[.slice x n cap] w fun e w' => e = .returned (.bool true) ∧ Below w.heap.size w w' := by
  have hl : l.length = n := by have := h.1; rwa [zN_len] at this
  have n1 := hq.n1
  have n2 := hq.n2
  have hat := Lib.hid hq.at1
  have hIn : ∀ w, Calls Try.prog 65 #[.int .i64 n, .int .i64 1, .int .i64 20] w fun e w' => e = .returned (.bool true) ∧ w = w' := fun w => by
    have := within_any (n : Int) 1 20 w
    rwa [inB_true.2 (by omega)] at this
  have hlH := Lib.hid hl
  rw [hl] at n1 n2
  clear hl hq
  go_enter Try.func77, Try.ntmps77
  go_wp2_with fail
  go_loopw [7] (fun i wr => ∃ k : Nat, k ≤ n ∧ i = .int .i64 k ∧ w = wr) (fun i _ => n - (intOf i).toNat)
  case atStart => exact ⟨0, by omega, rfl, by first | rfl | trivial⟩
  case round =>
    obtain ⟨k, hkn, rfl, rfl⟩ := hrel
    by_cases hlt : k < n
    · obtain ⟨b, off, rfl, hb, hc⟩ := rI_cell h (by omega)
      have hck := hc k hlt
      rw [zN_at] at hck
      obtain ⟨q1, q2⟩ := hat.out k (by rw [hlH.out]; exact hlt)
      obtain ⟨z, hz⟩ : ∃ z, l.getD k 0 = z := ⟨_, rfl⟩
      rw [hz] at hck q1 q2
      clear hz
      have hk0 : (0 : Int) ≤ (k : Int) := by omega
      have hk1 : (k : Int) < (n : Int) := by omega
      have hI1 : 1 ≤ z → ∀ w, Calls Try.prog 65 #[.int .i64 z, .int .i64 1, .int .i64 1000] w fun e w' => e = .returned (.bool true) ∧ w = w' := fun hh w => by
        have := within_any (z : Int) 1 1000 w
        rwa [inB_true.2 (by omega)] at this
      have hI0 : ∀ w, Calls Try.prog 65 #[.int .i64 z, .int .i64 k, .int .i64 1000] w fun e w' => ∃ b, e = .returned (.bool b) ∧ (k ≤ z → b = true) ∧ w = w' := fun w => by
        refine (within_any (z : Int) k 1000 w).mono ?_
        rintro e w' ⟨h1, h2⟩
        exact ⟨_, h1, fun h => inB_true.2 (by omega), h2⟩
      clear hc
      go_wp2_with (first | (go_at_call 65; (with_reducible refine (hI1 (by omega) _).mono ?_); rintro e w1 ⟨rfl, rfl⟩) | (go_at_call 65; (with_reducible refine (hI0 _).mono ?_); rintro e w1 ⟨bb, rfl, hbb, rfl⟩; obtain rfl := hbb (by omega)))
      all_goals exact ⟨⟨k + 1, by omega, by go_num, by first | rfl | trivial⟩, by simp [intOf]; omega⟩
    · obtain rfl : n = k := by omega
      go_wp2_with (go_at_call 65; (with_reducible refine (hIn _).mono ?_); rintro e w1 ⟨rfl, rfl⟩)
      go_ret
      exact ⟨rfl, Below.refl _ _⟩
set_option maxRecDepth 20000 in
set_option maxHeartbeats 4000000 in
theorem conv_yes (x : Option Addr) (n cap : Nat) (l : List Nat) (w : World) (h : RI w x n (zN l)) (hq : QOk l) :
    Calls Try.prog 78 #[.slice x n cap] w fun e w' => ∃ g c, e = .returned (.tuple #[.slice (some ⟨g, 0, none⟩) n c, .bool true]) ∧ OM2 w' w.heap.size g n c l ∧ Below w.heap.size w w' := by
  obtain ⟨i0, hi0, hz0, hz1, hz2⟩ := info_parts infoMat
  have hl : l.length = n := by have := h.1; rwa [zN_len] at this
  have n1 := hq.n1
  have n2 := hq.n2
  have hat := Lib.hid hq.at1
  have hmost := Lib.hid hq.most
  have hlH := Lib.hid hl
  rw [hl] at n1 n2
  have hO := om_nil w w.heap.size (Nat.le_refl _) l
  clear hl hq
  go_enter Try.func78, Try.ntmps78
  go_wp2_with fail
  go_loopw [4, 5, 6, 7, 8, 14] (fun o av bv' cv dv i wr => ∃ (k a b c d g cp : Nat), k ≤ n ∧ i = .int .i64 k ∧ o = .slice (some ⟨g, 0, none⟩) k cp ∧ av = .int .i64 a ∧ bv' = .int .i64 b ∧ cv = .int .i64 c ∧ dv = .int .i64 d ∧ Hid (cvAt l k = (a, b, c, d)) ∧ a ≤ 1000000000 ∧ b ≤ 1000000000 ∧ c ≤ 1000000000 ∧ d ≤ 1000000000 ∧ OM2 wr w.heap.size g k cp l ∧ Below w.heap.size w wr) (fun _ _ _ _ _ i _ => n - (intOf i).toNat)
  case atStart => exact ⟨0, 0, 1, 1, 0, w.heap.size, 0, by omega, rfl, rfl, rfl, rfl, rfl, rfl, Lib.hid rfl, by omega, by omega, by omega, by omega, hO, by (repeat (first | with_reducible exact Below.refl _ _ | assumption | with_reducible refine Qdrew ?_ | with_reducible refine QdrewN ?_ | ((with_reducible refine Qset ?_ ?_); exact (by ((try simp only [World.size_alloc, World.size_setCell, World.size_drew, size_drewN]); (try dsimp only); omega))) | ((with_reducible refine Qalloc ?_ ?_); exact (by ((try simp only [World.size_alloc, World.size_setCell, World.size_drew, size_drewN]); (try dsimp only); omega))) | refine Qtrans (by assumption) (by ((try simp only [World.size_alloc, World.size_setCell, World.size_drew, size_drewN]); (try dsimp only); omega)) ?_))⟩
  case round =>
    clear hO
    obtain ⟨k, a, b, c, d, g, cp, hkn, rfl, rfl, rfl, rfl, rfl, rfl, hcv, ha, hb', hc', hd, hom, hbel⟩ := hrel
    have hzr := hbel.size
    by_cases hlt : k < n
    · obtain ⟨b0, off, rfl, hb, hcl⟩ := rI_cell h (by omega)
      have hck0 := hcl k hlt
      rw [zN_at] at hck0
      have hck := (hbel.cell (by exact hb)).trans hck0
      have hnx := cvAt_next l k (by rw [hlH.out]; exact hlt)
      obtain ⟨q1, q2⟩ := hat.out k (by rw [hlH.out]; exact hlt)
      obtain ⟨m1, m2⟩ := hmost.out k (by rw [hlH.out]; exact hlt)
      obtain ⟨z, hz⟩ : ∃ z, l.getD k 0 = z := ⟨_, rfl⟩
      have hcN : cN l k = z * c + a := by unfold cN; rw [hnx, hcv.out, hz]; rfl
      have hdN : dN l k = z * d + b := by unfold dN; rw [hnx, hcv.out, hz]; rfl
      have hnx' : Hid (cvAt l (k + 1) = (c, d, z * c + a, z * d + b)) := by show _ = _; rw [hnx, hcv.out, hz]; rfl
      rw [hcN] at m1
      rw [hdN] at m2
      rw [hz] at hck hck0 q1 q2
      have hb0r : b0 < wr.heap.size := by omega
      obtain ⟨X, hX⟩ : ∃ X, z * c = X := ⟨_, rfl⟩
      obtain ⟨Y, hY⟩ : ∃ Y, z * d = Y := ⟨_, rfl⟩
      rw [hX] at m1 hcN hnx'
      rw [hY] at m2 hdN hnx'
      have e1 : IntKind.i64.wrap ((z : Int) * (c : Int)) = (X : Int) := by rw [← Int.natCast_mul, hX, IntWalk.i64_in _ (by omega)]
      have e2 : IntKind.i64.wrap ((z : Int) * (d : Int)) = (Y : Int) := by rw [← Int.natCast_mul, hY, IntWalk.i64_in _ (by omega)]
      obtain ⟨C, hC⟩ : ∃ C, X + a = C := ⟨_, rfl⟩
      obtain ⟨D, hD⟩ : ∃ D, Y + b = D := ⟨_, rfl⟩
      have e3 : IntKind.i64.wrap ((X : Int) + (a : Int)) = (C : Int) := by rw [IntWalk.i64_in _ (by omega)]; omega
      have e4 : IntKind.i64.wrap ((Y : Int) + (b : Int)) = (D : Int) := by rw [IntWalk.i64_in _ (by omega)]; omega
      rw [hC] at m1 hcN hnx'
      rw [hD] at m2 hdN hnx'
      have g1 : ¬ (1000000000 : Int) < (C : Int) := by omega
      have g2 : ¬ (1000000000 : Int) < (D : Int) := by omega
      have hk0 : (0 : Int) ≤ (k : Int) := by omega
      have hk1 : (k : Int) < (n : Int) := by omega
      have hcNH := Lib.hid hcN
      have hdNH := Lib.hid hdN
      obtain ⟨hgB, hgl⟩ := om_lt hom
      obtain ⟨V, f, hVl, hown, hrows⟩ := hom
      have hrowsH := Lib.hid hrows
      clear hrows hcl hnx hz hX hY hC hD hck0 hcN hdN hcv
      go_wp2_with (at_builtin; refine wpList_append_lies _ rfl _ _ _ rfl (w.heap.size) 32 i0 _ 1 24 Try.underlying59 hi0 hz0 hz1 hz2 rfl (by decide) (.slice (some ⟨g, 0, none⟩) k cp) (k) (V) (by rfl) (((hown.alloc _).alloc _)) ⟨wr.heap.size + 1, 0, none⟩ 1 1 [.slice (some ⟨wr.heap.size, 0, none⟩) 2 2] (by rfl) (by rfl) (World.news_of_block (cs := #[.slice (some ⟨wr.heap.size, 0, none⟩) 2 2]) (t := 32) (fr := (0, 0)) (heap_newT wr _ _)) (by simp [Value.oneCell']) (by omega) (by unfold maxLen; omega) (by omega) (by simp; omega) (wr.heap.size + 1 + 1) (by simp) ?_; intro gg capA w9 hown9 hgrow hatg hltg)
      have hb9 : Below w.heap.size w w9 := Below.grown (((hbel.alloc hzr _).alloc (by simp; omega) _)) hgrow (by simp; omega) (fun j hj => by cases hj; exact hgB)
      refine ⟨⟨k + 1, c, d, C, D, gg, capA, by omega, by go_num, rfl, rfl, rfl, rfl, rfl, hnx', by omega, by omega, by omega, by omega, om_app hrowsH.out hzr hgl hVl (by rw [hcNH.out, hdNH.out]) hown9 hgrow hatg, hb9⟩, by simp [intOf]; omega⟩
    · obtain rfl : n = k := by omega
      go_wp2_with fail
      refine bodyPost_ret (v := .tuple #[.slice (some ⟨g, 0, none⟩) n cp, .bool true]) (by simp [results, Try.results78, go_sem, *]) rfl ⟨g, cp, rfl, hom, hbel⟩
set_option maxRecDepth 20000 in
set_option maxHeartbeats 4000000 in
theorem ConvOf_yes (x : Option Addr) (n cap : Nat) (l : List Nat) (w : World) (h : RI w x n (zN l)) (hq : QOk l) :
    Calls Try.prog 37 #[.slice x n cap] w fun e w' => ∃ g c, e = .returned (.slice (some ⟨g, 0, none⟩) n c) ∧ OM2 w' w.heap.size g n c l ∧ Below w.heap.size w w' := by
  go_enter Try.func37, Try.ntmps37
  go_wp2_with (first | (go_at_call 77; refine (areQ_yes x n cap l _ h hq).mono ?_; rintro e w1 ⟨rfl, hb1⟩; have hz1 := hb1.size; have hr1 := rI_below h (Nat.le_refl _) hb1) | (go_at_call 78; refine (conv_yes x n cap l _ hr1 hq).mono ?_; rintro e w2 ⟨g, c, rfl, hom, hb2⟩))
  go_ret
  obtain ⟨V, f, q1, q2, q3⟩ := hom
  exact ⟨g, c, rfl, ⟨V, f, q1, q2.mono hz1, fun j hj => ⟨(q3 j hj).1, (q3 j hj).2.1.mono hz1, (q3 j hj).2.2⟩⟩, Qtrans hb2 hz1 hb1⟩
set_option maxRecDepth 20000 in
set_option maxHeartbeats 4000000 in
theorem FracOf_yes (x : Option Addr) (n cap : Nat) (l : List Nat) (w : World) (h : RI w x n (zN l)) (hq : QOk l) :
    Calls Try.prog 36 #[.slice x n cap] w fun e w' => e = .returned (.tuple #[.int .i64 (cN l (n - 1)), .int .i64 (dN l (n - 1)), .bool true]) ∧ Below w.heap.size w w' := by
  have hl : l.length = n := by have := h.1; rwa [zN_len] at this
  have n1 := hq.n1
  have n2 := hq.n2
  rw [hl] at n1 n2
  clear hl
  obtain ⟨m, rfl⟩ : ∃ m, n = m + 1 := ⟨n - 1, by omega⟩
  rw [show m + 1 - 1 = m by omega]
  go_enter Try.func36, Try.ntmps36
  go_upto_region 2 with (go_at_call 37; refine (ConvOf_yes x (m + 1) cap l _ h hq).mono ?_; rintro e w1 ⟨g, c, rfl, hom, hb1⟩)
  clear h hq
  obtain ⟨V, f, q1, q2, q3⟩ := hom
  obtain ⟨r1, r2, r3⟩ := q3 m (by omega)
  have c0 := own_cell q2 m (by omega)
  rw [r1] at c0
  have c1 := own_cell r2 0 (by omega)
  have c2 := own_cell r2 1 (by omega)
  simp only [cdR, Nat.zero_add, List.getElem?_cons_zero, List.getElem?_cons_succ] at c1 c2
  have hm2 : IntKind.i64.wrap (((m + 1 : Nat) : Int) - 1) = (m : Int) := by rw [IntWalk.i64_in _ (by omega)]; omega
  have hm3 : ¬ ((m + 1 : Nat) : Int) = 0 := by omega
  have hm0 : (0 : Int) ≤ (m : Int) := by omega
  have hm4 : (m : Int) < ((m + 1 : Nat) : Int) := by omega
  have hg1 := (q2.lt g rfl).2
  have hg2 := (r2.lt (f m) rfl).2
  clear q3 r1 q1
  go_wp2_with fail
  go_region
  all_goals
    go_wp2_with fail
    refine bodyPost_ret (v := .tuple #[.int .i64 (cN l m), .int .i64 (dN l m), .bool true]) (by simp [results, Try.results36, go_sem, *]) rfl ⟨rfl, by (repeat (first | with_reducible exact Below.refl _ _ | assumption | with_reducible refine Qdrew ?_ | with_reducible refine QdrewN ?_ | ((with_reducible refine Qset ?_ ?_); exact (by ((try simp only [World.size_alloc, World.size_setCell, World.size_drew, size_drewN]); (try dsimp only); omega))) | ((with_reducible refine Qalloc ?_ ?_); exact (by ((try simp only [World.size_alloc, World.size_setCell, World.size_drew, size_drewN]); (try dsimp only); omega))) | refine Qtrans (by assumption) (by ((try simp only [World.size_alloc, World.size_setCell, World.size_drew, size_drewN]); (try dsimp only); omega)) ?_))⟩
end Go.Proofs.Ytilbhingfnjppab
