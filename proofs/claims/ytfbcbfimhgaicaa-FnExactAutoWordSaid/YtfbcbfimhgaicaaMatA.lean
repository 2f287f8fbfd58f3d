/- Slices of slices of integers: what a walk is told, and the laws' own copies and tests of them. -/
import Derived.Test.YtfbcbfimhgaicaaRowI
import Derived.Deep.Matrix
import Derived.Deep.QuietTactic
set_option linter.unusedSimpArgs false
set_option linter.unusedVariables false
namespace Go.Proofs.Ytfbcbfimhgaicaa
open Go.RowKit
def IsMat (w : World) (x : Option Addr) (n : Nat) (Z : Nat → List Int) : Prop :=
  n ≤ 9223372036854775807 ∧ ∃ (A : Nat → Option Addr) (C : Nat → Nat), (n = 0 ∨ ∃ b off, x = some ⟨b, off, none⟩ ∧ b < w.heap.size ∧ ∀ r, r < n → w.cell? ⟨b, off + r, none⟩ = some (.slice (A r) (Z r).length (C r))) ∧ ∀ r, r < n → RI w (A r) (Z r).length (Z r)
theorem isMat_row {w : World} {x : Option Addr} {n : Nat} {Z : Nat → List Int} (h : IsMat w x n Z) {r : Nat} (hr : r < n) : ∃ b off y c, x = some ⟨b, off, none⟩ ∧ b < w.heap.size ∧ w.cell? ⟨b, off + r, none⟩ = some (.slice y (Z r).length c) ∧ RI w y (Z r).length (Z r) := by
  obtain ⟨_, A, C, h1, h2⟩ := h
  rcases h1 with h1 | ⟨b, off, rfl, hb, hc⟩
  · omega
  · exact ⟨b, off, A r, C r, rfl, hb, hc r hr, h2 r hr⟩
theorem isMat_below {w w' : World} {x : Option Addr} {n : Nat} {Z : Nat → List Int} (h : IsMat w x n Z) {B : Nat} (hB : w.heap.size ≤ B) (hb : Below B w w') : IsMat w' x n Z := by
  obtain ⟨h0, A, C, h1, h2⟩ := h
  refine ⟨h0, A, C, ?_, fun r hr => rI_below (h2 r hr) hB hb⟩
  rcases h1 with h1 | ⟨b, off, rfl, hlt, hc⟩
  · exact .inl h1
  · exact .inr ⟨b, off, rfl, Nat.lt_of_lt_of_le hlt hb.size, fun j hj => (hb.cell (by show b < B; omega)).trans (hc j hj)⟩
/-- The same, all its blocks from a bound on. -/
def IsMatB (B : Nat) (w : World) (x : Option Addr) (n : Nat) (Z : Nat → List Int) : Prop :=
  n ≤ 9223372036854775807 ∧ ∃ (A : Nat → Option Addr) (C : Nat → Nat), (n = 0 ∨ ∃ b off, x = some ⟨b, off, none⟩ ∧ B ≤ b ∧ b < w.heap.size ∧ ∀ r, r < n → w.cell? ⟨b, off + r, none⟩ = some (.slice (A r) (Z r).length (C r))) ∧ ∀ r, r < n → RI w (A r) (Z r).length (Z r) ∧ ∀ b off, A r = some ⟨b, off, none⟩ → B ≤ b
theorem isMatB_mat {B : Nat} {w : World} {x : Option Addr} {n : Nat} {Z : Nat → List Int} (h : IsMatB B w x n Z) : IsMat w x n Z := by
  obtain ⟨h0, A, C, h1, h2⟩ := h
  refine ⟨h0, A, C, ?_, fun r hr => (h2 r hr).1⟩
  rcases h1 with h1 | ⟨b, off, q1, _, q2, q3⟩
  · exact .inl h1
  · exact .inr ⟨b, off, q1, q2, q3⟩
theorem isMatB_agree {B : Nat} {w w' : World} {x : Option Addr} {n : Nat} {Z : Nat → List Int} (h : IsMatB B w x n Z) (hs : w.heap.size ≤ w'.heap.size) (hc : ∀ b o, B ≤ b → b < w.heap.size → w'.cell? ⟨b, o, none⟩ = w.cell? ⟨b, o, none⟩) : IsMatB B w' x n Z := by
  obtain ⟨h0, A, C, h1, h2⟩ := h
  refine ⟨h0, A, C, ?_, fun r hr => ⟨?_, (h2 r hr).2⟩⟩
  · rcases h1 with h1 | ⟨b, off, q1, qB, q2, q3⟩
    · exact .inl h1
    · exact .inr ⟨b, off, q1, qB, Nat.lt_of_lt_of_le q2 hs, fun r hr => (hc _ _ qB q2).trans (q3 r hr)⟩
  · obtain ⟨⟨r1, r2, r3⟩, r4⟩ := h2 r hr
    refine ⟨r1, r2, ?_⟩
    rcases r3 with r3 | ⟨b, off, q1, q2, q3⟩
    · exact .inl r3
    · exact .inr ⟨b, off, q1, Nat.lt_of_lt_of_le q2 hs, fun j hj => (hc _ _ (r4 b off q1) q2).trans (q3 j hj)⟩
theorem isMatB_set {B : Nat} {w : World} {x : Option Addr} {n : Nat} {Z : Nat → List Int} (h : IsMatB B w x n Z) {b' o' : Nat} (hb : b' < B) (u : Value) : IsMatB B (w.setCell ⟨b', o', none⟩ u) x n Z :=
  isMatB_agree h (by simp) (fun b o q1 _ => cset (by omega))
theorem infoM : (Try.prog.info? 45).map (fun i => (i.zero, i.size, i.bytes)) = some (some (.slice none 0 0), 1, 24) := by kernel_rfl
set_option maxRecDepth 20000 in
set_option maxHeartbeats 1000000 in
theorem toIntSS_any (x : Option Addr) (n cap : Nat) (Z : Nat → List Int) (w : World) (h : IsMat w x n Z) (hn : n ≤ 1048576) (hZ : ∀ r, r < n → (Z r).length ≤ 1048576) :
    Calls Try.prog 56 #[.slice x n cap] w fun e w' => ∃ g, e = .returned (.slice (some ⟨g, 0, none⟩) n n) ∧ w.heap.size ≤ g ∧ IsMatB w.heap.size w' (some ⟨g, 0, none⟩) n Z ∧ Below w.heap.size w w' := by
  obtain ⟨i0, hi0, hz0, hz1, hz2⟩ := info_parts infoM
  go_enter Try.func56, Try.ntmps56
  go_wp2_with (at_make; refine wpList_make_full _ rfl _ _ 22 rfl w.heap.size 45 i0 _ 1 Try.underlying22 hi0 hz0 hz1 .i64 .i64 _ _ n (by rfl) (by rfl) (by omega) (by omega) (by rw [hz2]; omega) (by unfold maxLen; omega) (by omega) ?_; intro wM hownM hgM)
  have hbM : Below w.heap.size w wM := (Below.refl _ w).grown hgM (by omega) (by simp)
  obtain ⟨V0, hV0⟩ : ∃ V, (madeCells (Value.slice none 0 0).cells (n * 1)).toList = V := ⟨_, rfl⟩
  rw [hV0] at hownM
  go_loopw [4] (fun i wr => ∃ (k : Nat) (V : List Value), k ≤ n ∧ i = .int .i64 k ∧ wr.ownsRow w.heap.size 45 1 (.slice (some ⟨w.heap.size, 0, none⟩) n n) n V ∧ (∀ j, j < k → ∃ gj, V[j]? = some (.slice (some ⟨gj, 0, none⟩) (Z j).length (Z j).length) ∧ w.heap.size < gj ∧ RI wr (some ⟨gj, 0, none⟩) (Z j).length (Z j)) ∧ Below w.heap.size w wr) (fun i _ => n - (intOf i).toNat)
  case atStart => exact ⟨0, V0, by omega, rfl, hownM, fun j hj => absurd hj (by omega), hbM⟩
  case round =>
    clear hownM hbM hV0
    obtain ⟨k, V, hk, rfl, hown, hrows, hbel⟩ := hrel
    by_cases hlt : k < n
    · obtain ⟨b, off, y, c, rfl, hb, hck0, hri0⟩ := isMat_row h hlt
      have hck := (hbel.cell (by exact hb)).trans hck0
      have hri := rI_below hri0 (Nat.le_refl _) hbel
      have hlen := hZ k hlt
      have hVl : V.length = n := by have := hown.1; simpa using this
      have hBl : w.heap.size < wr.heap.size := by
        obtain ⟨g, c, e, _, hgl⟩ := World.ownsRow.form hown (by omega)
        cases e; exact hgl
      have hk0 : (0 : Int) ≤ (k : Int) := by omega
      have hk1 : (k : Int) < (n : Int) := by omega
      have hrows' := Lib.hid hrows
      clear hrows hck0 hri0 hZ h
      go_wp2_with fail
      go_at_call 32
      refine (toIntS_any _ _ _ _ _ hri hlen).mono ?_
      rintro e w1 ⟨g1, rfl, hg1, hown1, hb1⟩
      have hz1' := hb1.size
      have ho1 := own_below hown hb1
      have hfz := ho1.frozenAt
      have hsl := own_cell ho1 k hlt
      rw [List.getElem?_eq_getElem (by omega)] at hsl
      obtain ⟨v, hv⟩ : ∃ v, V[k]'(by omega) = v := ⟨_, rfl⟩
      rw [hv] at hsl
      have hbel1 : Below w.heap.size w w1 := Qtrans hb1 (by omega) hbel
      have hri1 := rI_own hown1 (by omega)
      have hrows1 := Lib.hid (show ∀ j, j < k + 1 → ∃ gj, (V.set k (.slice (some ⟨g1, 0, none⟩) (Z k).length (Z k).length))[j]? = some (.slice (some ⟨gj, 0, none⟩) (Z j).length (Z j).length) ∧ w.heap.size < gj ∧ RI w1 (some ⟨gj, 0, none⟩) (Z j).length (Z j) from fun j hj => by
        by_cases e : j = k
        · subst e
          exact ⟨g1, by rw [List.getElem?_set_self (by omega)], by omega, hri1⟩
        · obtain ⟨gj, q1, q2, q3⟩ := hrows'.out j (by omega)
          exact ⟨gj, by rw [List.getElem?_set_ne (by omega)]; exact q1, q2, rI_below q3 (Nat.le_refl _) hb1⟩)
      clear hv hrows' hri1
      go_wp2
      go_roundw
      case rel =>
        obtain ⟨o2, g2⟩ := ho1.stored k (.slice (some ⟨g1, 0, none⟩) (Z k).length (Z k).length)
        exact ⟨k + 1, V.set k (.slice (some ⟨g1, 0, none⟩) (Z k).length (Z k).length), by omega, by go_num, o2, fun j hj => by
          obtain ⟨gj, q1, q2, q3⟩ := hrows1.out j hj
          exact ⟨gj, q1, q2, rI_grownBy q3 g2 (fun b off e => by cases e; simp [Value.ownBlock]; omega)⟩, hbel1.setCell (by simp) _⟩
      case measure => (simp [intOf]) <;> omega
    · obtain rfl : k = n := by omega
      have hm : IsMatB w.heap.size wr (some ⟨w.heap.size, 0, none⟩) k Z := by
        obtain ⟨f, hf⟩ : ∃ f : Nat → Nat, ∀ j, j < k → V[j]? = some (.slice (some ⟨f j, 0, none⟩) (Z j).length (Z j).length) ∧ RI wr (some ⟨f j, 0, none⟩) (Z j).length (Z j) ∧ w.heap.size < f j := by
          classical
          refine ⟨fun j => if h : j < k then (hrows j h).choose else 0, fun j hj => ?_⟩
          simp only [hj, dif_pos]
          exact ⟨(hrows j hj).choose_spec.1, (hrows j hj).choose_spec.2.2, (hrows j hj).choose_spec.2.1⟩
        refine ⟨by omega, fun j => some ⟨f j, 0, none⟩, fun j => (Z j).length, ?_, fun r hr => ⟨(hf r hr).2.1, fun b off q => by have := (hf r hr).2.2; cases q; omega⟩⟩
        by_cases h0 : k = 0
        · exact .inl h0
        · obtain ⟨g, c, e, _, hgl⟩ := World.ownsRow.form hown (by omega)
          cases e
          exact .inr ⟨_, 0, rfl, Nat.le_refl _, hgl, fun r hr => by rw [Nat.zero_add, own_cell hown r hr]; exact (hf r hr).1⟩
      go_wp2
      go_ret
      exact ⟨_, rfl, Nat.le_refl _, hm, hbel⟩
set_option maxHeartbeats 1000000 in
theorem eqIntSS_same (x y : Option Addr) (n cap cap' : Nat) (Z : Nat → List Int) (w : World) (h : IsMat w x n Z) (h' : IsMat w y n Z) :
    Calls Try.prog 59 #[.slice x n cap, .slice y n cap'] w fun e w' => e = .returned (.bool true) ∧ Below w.heap.size w w' := by
  have hn63 : (n : Int) ≤ 9223372036854775807 := by have := h.1; omega
  go_enter Try.func59, Try.ntmps59
  go_wp2
  go_loopw [5] (fun i wr => ∃ k : Nat, k ≤ n ∧ i = .int .i64 k ∧ Below w.heap.size w wr) (fun i _ => n - (intOf i).toNat)
  case atStart => exact ⟨0, by omega, rfl, Below.refl _ _⟩
  case round =>
    obtain ⟨k, hk, rfl, hbel⟩ := hrel
    have hzb := hbel.size
    by_cases hlt : k < n
    · obtain ⟨b, off, a1, c1, rfl, hb, hc1, hr1⟩ := isMat_row h hlt
      obtain ⟨b', off', a2, c2, rfl, hb', hc2, hr2⟩ := isMat_row h' hlt
      have hck := (hbel.cell (by exact hb)).trans hc1
      have hck' := (hbel.cell (by exact hb')).trans hc2
      have hr1d : RI wr.drew a1 (Z k).length (Z k) := rI_below hr1 (Nat.le_refl _) hbel.drew
      have hr2d : RI wr.drew a2 (Z k).length (Z k) := rI_below hr2 (Nat.le_refl _) hbel.drew
      obtain ⟨m, hm⟩ : ∃ m, (Z k).length = m := ⟨_, rfl⟩
      rw [hm] at hck hck' hr1d hr2d
      have hbw := Nat.lt_of_lt_of_le hb hzb
      have hbw' := Nat.lt_of_lt_of_le hb' hzb
      have hk0 : (0 : Int) ≤ (k : Int) := by omega
      have hk1 : (k : Int) < (n : Int) := by omega
      clear hc1 hc2 hr1 hr2 hm h h'
      go_wp2_with fail
      go_region_held3 (fun wx => (∀ bk ofs, bk < wr.heap.size → wx.cell? ⟨bk, ofs, none⟩ = (wr).cell? ⟨bk, ofs, none⟩) ∧ Below (wr.heap.size) (wr) wx) ((refine stays ?_; ((repeat (first | with_reducible exact Below.refl _ _ | assumption | with_reducible refine Qdrew ?_ | with_reducible refine QdrewN ?_ | ((with_reducible refine Qset ?_ ?_); exact (by ((try simp only [World.size_alloc, World.size_setCell, World.size_drew, size_drewN]); (try dsimp only); omega))) | ((with_reducible refine Qalloc ?_ ?_); exact (by ((try simp only [World.size_alloc, World.size_setCell, World.size_drew, size_drewN]); (try dsimp only); omega))) | refine Qtrans (by assumption) (by ((try simp only [World.size_alloc, World.size_setCell, World.size_drew, size_drewN]); (try dsimp only); omega)) ?_)) <;> (go_split_ands; assumption)))) (first | (go_at_call 34; refine (eqIntS_same a1 a2 m _ _ (Z k) wr.drew hr1d hr2d).mono ?_; rintro e w6 ⟨rfl, hb6⟩; obtain ⟨hc6, hf6⟩ := bcell hb6; have hl6 := ltW hb6; have hz6 := hb6.size; (try simp only [World.size_drew] at hz6)))
      all_goals go_wp2
      all_goals go_roundw
      case rel => exact ⟨k + 1, by omega, by go_num, by (repeat (first | with_reducible exact Below.refl _ _ | assumption | with_reducible refine Qdrew ?_ | with_reducible refine QdrewN ?_ | ((with_reducible refine Qset ?_ ?_); exact (by ((try simp only [World.size_alloc, World.size_setCell, World.size_drew, size_drewN]); (try dsimp only); omega))) | ((with_reducible refine Qalloc ?_ ?_); exact (by ((try simp only [World.size_alloc, World.size_setCell, World.size_drew, size_drewN]); (try dsimp only); omega))) | refine Qtrans (by assumption) (by ((try simp only [World.size_alloc, World.size_setCell, World.size_drew, size_drewN]); (try dsimp only); omega)) ?_))⟩
      case measure => (simp [intOf]) <;> omega
    · obtain rfl : k = n := by omega
      go_wp2
      go_ret
      exact ⟨rfl, hbel⟩
set_option maxHeartbeats 1000000 in
theorem szIntS_any (x : Option Addr) (n cap : Nat) (left : Nat) (w : World) (hn : n ≤ 9223372036854775807) (hl : left ≤ 1048576) :
    Calls Try.prog 98 #[.slice x n cap, .int .i64 left] w fun e w' => ∃ r : Int, e = .returned (.int .i64 r) ∧ (r = -1 ∨ (0 ≤ r ∧ r = (left : Int) - n)) ∧ w = w' := by
  go_enter Try.func98, Try.ntmps98
  go_wp2
  all_goals go_ret
  · exact ⟨-1, rfl, .inl rfl, rfl⟩
  · exact ⟨_, rfl, .inr ⟨by omega, rfl⟩, rfl⟩
set_option maxHeartbeats 1000000 in
theorem szIntSS_any (x : Option Addr) (n cap : Nat) (Z : Nat → List Int) (left : Nat) (w : World) (h : IsMat w x n Z) (hl : left ≤ 1048576) :
    Calls Try.prog 53 #[.slice x n cap, .int .i64 left] w fun e w' => ∃ r : Int, e = .returned (.int .i64 r) ∧ (r = -1 ∨ (0 ≤ r ∧ r ≤ left ∧ n ≤ left ∧ ∀ j, j < n → (Z j).length ≤ left)) ∧ w = w' := by
  have hn63 := h.1
  by_cases hbig : left < n
  · go_enter Try.func53, Try.ntmps53
    go_wp2
    go_ret
    exact ⟨-1, rfl, .inl rfl, rfl⟩
  have hbig' : ¬ (left : Int) < (n : Int) := by omega
  go_enter Try.func53, Try.ntmps53
  go_wp2
  go_loopw [1, 5] (fun l i wr => ∃ (k m : Nat), k ≤ n ∧ i = .int .i64 k ∧ l = .int .i64 m ∧ m ≤ left ∧ Hid (∀ j, j < k → (Z j).length ≤ left) ∧ w = wr) (fun _ i _ => n - (intOf i).toNat)
  case atStart => exact ⟨0, left - n, by omega, rfl, by first | (congr 1; omega) | (simp; omega), by omega, Lib.hid (fun j hj => absurd hj (by omega)), by first | rfl | trivial⟩
  case round =>
    obtain ⟨k, m, hk, rfl, rfl, hm, hall, rfl⟩ := hrel
    by_cases hlt : k < n
    · obtain ⟨b, off, y, c, rfl, hb, hck, hri⟩ := isMat_row h hlt
      have hk0 : (0 : Int) ≤ (k : Int) := by omega
      have hk1 : (k : Int) < (n : Int) := by omega
      have hr63 := hri.2.1
      obtain ⟨len, hlen⟩ : ∃ m, (Z k).length = m := ⟨_, rfl⟩
      rw [hlen] at hck hr63
      have hlen' := Lib.hid hlen
      clear hri h hlen
      by_cases hneg : m < len
      · have hsz : ∀ w, Calls Try.prog 98 #[.slice y len c, .int .i64 m] w fun e w' => e = .returned (.int .i64 (-1)) ∧ w = w' := fun w => (szIntS_any y len c m w hr63 (by omega)).mono fun e w' ⟨r, h1, h2, h3⟩ => ⟨by
          rcases h2 with rfl | h2
          · exact h1
          · omega, h3⟩
        go_wp2_with ((go_at_call 98; refine (hsz _).mono ?_; rintro e w1 ⟨rfl, rfl⟩))
        go_ret
        exact ⟨-1, rfl, .inl rfl, rfl⟩
      · obtain ⟨q, hq⟩ : ∃ q : Nat, (m : Int) - len = q := ⟨m - len, by omega⟩
        have hsz : ∀ w, Calls Try.prog 98 #[.slice y len c, .int .i64 m] w fun e w' => e = .returned (.int .i64 q) ∧ w = w' := fun w => by
          go_enter Try.func98, Try.ntmps98
          have h5 : ¬ (m : Int) < (len : Int) := by omega
          have h6 : (0 : Int) ≤ (q : Int) := by omega
          go_wp2
          go_ret
          exact ⟨by first | rfl | simp [hq], rfl⟩
        have hq0 : ¬ (q : Int) < 0 := by omega
        have hall' := Lib.hid (fun j (hj : j < k + 1) => by
          by_cases e : j = k
          · subst e; rw [hlen'.out]; omega
          · exact hall.out j (by omega) : ∀ j, j < k + 1 → (Z j).length ≤ left)
        go_wp2_with ((go_at_call 98; refine (hsz _).mono ?_; rintro e w1 ⟨rfl, rfl⟩))
        go_roundw
        case rel => exact ⟨k + 1, q, by omega, by go_num, rfl, by omega, hall', by first | rfl | trivial⟩
        case measure => (simp [intOf]) <;> omega
    · obtain rfl : n = k := by omega
      go_wp2
      go_ret
      exact ⟨m, rfl, .inr ⟨by omega, by omega, by omega, hall.out⟩, rfl⟩
end Go.Proofs.Ytfbcbfimhgaicaa
