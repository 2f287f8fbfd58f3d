/- Rows of rows of strings: the laws' own functions. -/
import Derived.Test.YtieibopegmoanaaPPB
import Derived.Test.YtieibopegmoanaaLawT
set_option linter.unusedSimpArgs false
set_option linter.unusedVariables false
namespace Go.Proofs.Ytieibopegmoanaa
open Go.RowKit
/-- A slice of slices of strings, all its blocks below B. -/
def IsSS (B : Nat) (w : World) (x : Option Addr) (n : Nat) (L : List (List ByteArray)) : Prop :=
  n ≤ 9223372036854775807 ∧ ∃ (A : Nat → Option Addr) (C : Nat → Nat), (n = 0 ∨ ∃ b off, x = some ⟨b, off, none⟩ ∧ b < B ∧ b < w.heap.size ∧ ∀ r, r < n → w.cell? ⟨b, off + r, none⟩ = some (.slice (A r) (L.getD r []).length (C r))) ∧ ∀ r, r < n → IsStrs w (A r) (L.getD r []).length (C r) (L.getD r []) ∧ ∀ b off, A r = some ⟨b, off, none⟩ → b < B
theorem isStrs_low {w w' : World} {x : Option Addr} {n cap B : Nat} {zs : List ByteArray} (h : IsStrs w x n cap zs) (hx : ∀ b off, x = some ⟨b, off, none⟩ → b < B) (hb : Below B w w') : IsStrs w' x n cap zs := by
  refine ⟨h.1, h.2.1, h.2.2.1, h.2.2.2.1, ?_⟩
  rcases h.2.2.2.2 with h0 | ⟨b, off, rfl, hlt, hc⟩
  · exact .inl h0
  · exact .inr ⟨b, off, rfl, Nat.lt_of_lt_of_le hlt hb.size, fun j hj => (hb.cell (by exact hx b off rfl)).trans (hc j hj)⟩
theorem isSS_keep {B : Nat} {w w' : World} {x : Option Addr} {n : Nat} {L : List (List ByteArray)} (h : IsSS B w x n L) (hb : Below B w w') : IsSS B w' x n L := by
  obtain ⟨h0, A, C, h1, h2⟩ := h
  refine ⟨h0, A, C, ?_, fun r hr => ⟨isStrs_low (h2 r hr).1 (h2 r hr).2 hb, (h2 r hr).2⟩⟩
  rcases h1 with h1 | ⟨b, off, q1, q2, q3, q4⟩
  · exact .inl h1
  · exact .inr ⟨b, off, q1, q2, Nat.lt_of_lt_of_le q3 hb.size, fun r hr => (hb.cell (by exact q2)).trans (q4 r hr)⟩
theorem isSS_row {B : Nat} {w : World} {x : Option Addr} {n : Nat} {L : List (List ByteArray)} (h : IsSS B w x n L) {r : Nat} (hr : r < n) : ∃ b off y c, x = some ⟨b, off, none⟩ ∧ b < w.heap.size ∧ w.cell? ⟨b, off + r, none⟩ = some (.slice y (L.getD r []).length c) ∧ IsStrs w y (L.getD r []).length c (L.getD r []) := by
  obtain ⟨_, A, C, h1, h2⟩ := h
  rcases h1 with h1 | ⟨b, off, rfl, _, hb, hc⟩
  · omega
  · exact ⟨b, off, A r, C r, rfl, hb, hc r hr, (h2 r hr).1⟩
theorem isSS_of {w : World} {B g n cap : Nat} {L : List (List ByteArray)} (h : OSS w B g n cap L) (hn : n ≤ 9223372036854775807) (hz : ∀ j, ∀ z ∈ L.getD j [], z.size ≤ maxLen) : IsSS w.heap.size w (some ⟨g, 0, none⟩) n L := by
  obtain ⟨V, f, h1, h2, h3, h4⟩ := h
  refine ⟨hn, fun r => some ⟨f r, 0, none⟩, fun _ => 3, .inr ⟨g, 0, rfl, (h2.lt g rfl).2, (h2.lt g rfl).2, fun r hr => ?_⟩, fun r hr => ⟨?_, fun b off q => ?_⟩⟩
  · obtain ⟨q1, q2, q3, q4⟩ := h3 r hr
    rw [Nat.zero_add, own_cell h2 r hr, q1, q2]
  · obtain ⟨q1, q2, q3, q4⟩ := h3 r hr
    rw [q2]
    exact isStrs_own q3 (hz r)
  · obtain ⟨q1, q2, q3, q4⟩ := h3 r hr
    cases q
    exact (q3.lt (f r) rfl).2
set_option maxHeartbeats 1000000 in
theorem eqStringSS_same (x y : Option Addr) (n cap cap' B B' : Nat) (L : List (List ByteArray)) (w : World) (h : IsSS B w x n L) (h' : IsSS B' w y n L) :
    Calls Try.prog 15 #[.slice x n cap, .slice y n cap'] w fun e w' => e = .returned (.bool true) ∧ Below w.heap.size w w' := by
  have hn63 : (n : Int) ≤ 9223372036854775807 := by have := h.1; omega
  go_enter Try.func15, Try.ntmps15
  go_wp2
  go_loopw [5] (fun i wr => ∃ k : Nat, k ≤ n ∧ i = .int .i64 k ∧ Below w.heap.size w wr) (fun i _ => n - (intOf i).toNat)
  case atStart => exact ⟨0, by omega, rfl, Below.refl _ _⟩
  case round =>
    obtain ⟨k, hk, rfl, hbel⟩ := hrel
    have hzb := hbel.size
    by_cases hlt : k < n
    · obtain ⟨b, off, a1, c1, rfl, hb, hc1, hr1⟩ := isSS_row h hlt
      obtain ⟨b', off', a2, c2, rfl, hb', hc2, hr2⟩ := isSS_row h' hlt
      have hck := (hbel.cell (by exact hb)).trans hc1
      have hck' := (hbel.cell (by exact hb')).trans hc2
      have hr1d : IsStrs wr.drew a1 (L.getD k []).length c1 (L.getD k []) := isStrs_below hr1 (Nat.le_refl _) hbel.drew
      have hr2d : IsStrs wr.drew a2 (L.getD k []).length c2 (L.getD k []) := isStrs_below hr2 (Nat.le_refl _) hbel.drew
      obtain ⟨m, hm⟩ : ∃ m, (L.getD k []).length = m := ⟨_, rfl⟩
      rw [hm] at hck hck' hr1d hr2d
      have hbw := Nat.lt_of_lt_of_le hb hzb
      have hbw' := Nat.lt_of_lt_of_le hb' hzb
      have hk0 : (0 : Int) ≤ (k : Int) := by omega
      have hk1 : (k : Int) < (n : Int) := by omega
      clear hc1 hc2 hr1 hr2 hm h h'
      go_wp2_with fail
      go_region_held3 (fun wx => (∀ bk ofs, bk < wr.heap.size → wx.cell? ⟨bk, ofs, none⟩ = (wr).cell? ⟨bk, ofs, none⟩) ∧ Below (wr.heap.size) (wr) wx) ((refine stays ?_; ((repeat (first | with_reducible exact Below.refl _ _ | assumption | with_reducible refine Qdrew ?_ | with_reducible refine QdrewN ?_ | ((with_reducible refine Qset ?_ ?_); exact (by ((try simp only [World.size_alloc, World.size_setCell, World.size_drew, size_drewN]); (try dsimp only); omega))) | ((with_reducible refine Qalloc ?_ ?_); exact (by ((try simp only [World.size_alloc, World.size_setCell, World.size_drew, size_drewN]); (try dsimp only); omega))) | refine Qtrans (by assumption) (by ((try simp only [World.size_alloc, World.size_setCell, World.size_drew, size_drewN]); (try dsimp only); omega)) ?_)) <;> (go_split_ands; assumption)))) (first | (go_at_call 51; refine (eqStringS_same a1 a2 m c1 c2 _ wr.drew hr1d hr2d).mono ?_; rintro e w6 ⟨rfl, hb6⟩; obtain ⟨hc6, hf6⟩ := bcell hb6; have hl6 := ltW hb6; have hz6 := hb6.size; (try simp only [World.size_drew] at hz6)))
      all_goals go_wp2
      all_goals go_roundw
      case rel => exact ⟨k + 1, by omega, by go_num, by (repeat (first | with_reducible exact Below.refl _ _ | assumption | with_reducible refine Qdrew ?_ | with_reducible refine QdrewN ?_ | ((with_reducible refine Qset ?_ ?_); exact (by ((try simp only [World.size_alloc, World.size_setCell, World.size_drew, size_drewN]); (try dsimp only); omega))) | ((with_reducible refine Qalloc ?_ ?_); exact (by ((try simp only [World.size_alloc, World.size_setCell, World.size_drew, size_drewN]); (try dsimp only); omega))) | refine Qtrans (by assumption) (by ((try simp only [World.size_alloc, World.size_setCell, World.size_drew, size_drewN]); (try dsimp only); omega)) ?_))⟩
      case measure => (simp [intOf]) <;> omega
    · obtain rfl : k = n := by omega
      go_wp2
      go_ret
      exact ⟨rfl, hbel⟩
def mkk (k n : Nat) : List (List ByteArray) := (List.range n).map (fun j => mk (k + 3 * j) 3)
theorem mkk_at (k n j : Nat) (h : j < n) : (mkk k n).getD j [] = mk (k + 3 * j) 3 := by simp [mkk, List.getD_eq_getElem?_getD, h]
theorem mk3_len (k : Nat) : (mk k 3).length = 3 := rfl
theorem mkk_len (k n : Nat) : (mkk k n).length = n := by simp [mkk]
set_option maxHeartbeats 2000000 in
theorem markStringSS_any (g n cap k B : Nat) (L : List (List ByteArray)) (w : World) (h : OSS w B g n cap L) (hB : B ≤ w.heap.size) (hk : k + 3 * n ≤ 1000000) :
    Calls Try.prog 17 #[.slice (some ⟨g, 0, none⟩) n cap, .int .i64 k] w fun e w' => e = .returned (.int .i64 ((k : Int) + 3 * n)) ∧ OSS w' B g n cap (mkk k n) ∧ Below B w w' := by
  obtain ⟨V, f, h1, h2, h3, h4⟩ := h
  have h4' := Lib.hid h4
  have hinj : ∀ i j, i < n → j < n → i ≠ j → f i ≠ f j := fun i j hi hj hne => by
    rcases Nat.lt_or_gt_of_ne hne with q | q
    · have := h4 i j q hj; omega
    · have := h4 j i q hi; omega
  have hinj' := Lib.hid hinj
  have hV : Hid (∀ j, j < n → V[j]? = some (.slice (some ⟨f j, 0, none⟩) 3 3) ∧ f j ≠ g) := fun j hj => ⟨(h3 j hj).1, (h3 j hj).2.2.2⟩
  have hn63 : (n : Int) ≤ 9223372036854775807 := by omega
  have hst : Hid (∀ j, j < n → w.ownsRow B 9 1 (.slice (some ⟨f j, 0, none⟩) 3 3) 3 (sv (if j < 0 then mk (k + 3 * j) 3 else L.getD j []))) := fun j hj => (h3 j hj).2.2.1
  clear h3 h4 hinj
  go_enter Try.func17, Try.ntmps17
  go_wp2_with fail
  go_loopw [1, 5] (fun kv iv wr => ∃ j : Nat, j ≤ n ∧ iv = .int .i64 j ∧ kv = .int .i64 ((k : Int) + 3 * j) ∧ wr.ownsRow B 22 1 (.slice (some ⟨g, 0, none⟩) n cap) n V ∧ Hid (∀ i, i < n → wr.ownsRow B 9 1 (.slice (some ⟨f i, 0, none⟩) 3 3) 3 (sv (if i < j then mk (k + 3 * i) 3 else L.getD i []))) ∧ Below B w wr) (fun _ iv _ => n - (intOf iv).toNat)
  case atStart => exact ⟨0, by omega, rfl, by simp, h2, hst, Below.refl _ _⟩
  case round =>
    clear h2 hst
    obtain ⟨j, hj, rfl, rfl, hown, hrows, hbel⟩ := hrel
    have hzb := hbel.size
    by_cases hlt : j < n
    · have hck := (own_cell hown j hlt).trans (hV.out j hlt).1
      have hgl := (hown.lt g rfl).2
      have hrow := hrows.out j hlt
      have hj0 : (0 : Int) ≤ (j : Int) := by omega
      have hj1 : (j : Int) < (n : Int) := by omega
      obtain ⟨K, hK⟩ : ∃ K : Nat, (k : Int) + 3 * (j : Int) = (K : Int) ∧ k + 3 * j = K := ⟨k + 3 * j, by omega, rfl⟩
      obtain ⟨hK1, hK2⟩ := hK
      have hmark := markStringS_any (some ⟨f j, 0, none⟩) 3 3 K B _ wr hrow (by omega)
      rw [hK1]
      clear hrow
      go_wp2_with (go_at_call 55; refine hmark.mono ?_; rintro e w6 ⟨rfl, hown6, hg6⟩)
      go_roundw
      case rel =>
        refine ⟨j + 1, by omega, by go_num, by congr 1; omega, hown.kept hg6 (.inr ?_), fun i hi => ?_, hbel.grown hg6 (by omega) (fun q hq => by cases hq; exact (hown6.lt (f j) rfl).1)⟩
        · have := (hV.out j hlt).2; simp [Value.ownBlock]; omega
        · by_cases e : i = j
          · subst e
            rw [if_pos (by omega), hK2]; exact hown6
          · have := (hrows.out i hi).kept hg6 (.inr (by have := hinj'.out i j hi hlt e; simpa [Value.ownBlock] using this))
            by_cases e2 : i < j
            · rw [if_pos (by omega)]; rw [if_pos e2] at this; exact this
            · rw [if_neg (by omega)]; rw [if_neg e2] at this; exact this
      case measure => (simp [intOf]) <;> omega
    · obtain rfl : n = j := by omega
      go_wp2
      go_ret
      refine ⟨rfl, ⟨V, f, mkk_len k n, hown, fun i hi => ⟨(hV.out i hi).1, by rw [mkk_at k n i hi]; exact mk3_len _, ?_, (hV.out i hi).2⟩, h4'.out⟩, hbel⟩
      have := hrows.out i hi
      rw [if_pos hi] at this
      rw [mkk_at k n i hi]; exact this
set_option maxHeartbeats 2000000 in
theorem heldStringSS_any (x : Option Addr) (n cap k B : Nat) (w : World) (h : IsSS B w x n (mkk k n)) (hk : k + 3 * n ≤ 1000000) :
    Calls Try.prog 18 #[.slice x n cap, .int .i64 k] w fun e w' => e = .returned (.int .i64 ((k : Int) + 3 * n)) ∧ Below w.heap.size w w' := by
  go_enter Try.func18, Try.ntmps18
  go_wp2_with fail
  go_loopw [1, 5] (fun kv iv wr => ∃ j : Nat, j ≤ n ∧ iv = .int .i64 j ∧ kv = .int .i64 ((k : Int) + 3 * j) ∧ Below w.heap.size w wr) (fun _ iv _ => n - (intOf iv).toNat)
  case atStart => exact ⟨0, by omega, rfl, by simp, Below.refl _ _⟩
  case round =>
    obtain ⟨j, hj, rfl, rfl, hbel⟩ := hrel
    have hzb := hbel.size
    by_cases hlt : j < n
    · obtain ⟨b, off, a1, c1, rfl, hb, hc1, hr1⟩ := isSS_row h hlt
      rw [mkk_at k n j hlt] at hc1 hr1
      have hck := (hbel.cell (by exact hb)).trans hc1
      have hr1d := isStrs_below hr1 (Nat.le_refl _) hbel
      have hbw := Nat.lt_of_lt_of_le hb hzb
      have hj0 : (0 : Int) ≤ (j : Int) := by omega
      have hj1 : (j : Int) < (n : Int) := by omega
      obtain ⟨K, hK⟩ : ∃ K : Nat, (k : Int) + 3 * (j : Int) = (K : Int) ∧ k + 3 * j = K := ⟨k + 3 * j, by omega, rfl⟩
      obtain ⟨hK1, hK2⟩ := hK
      rw [hK2, mk3_len] at hck hr1d
      have hheld := heldStringS_any a1 3 c1 K wr hr1d (by omega)
      have hK3 : ¬ (K : Int) + 3 < 0 := by omega
      rw [hK1]
      clear hc1 hr1 h
      go_wp2_with (go_at_call 56; refine hheld.mono ?_; rintro e w6 ⟨rfl, hb6⟩)
      go_roundw
      case rel => exact ⟨j + 1, by omega, by go_num, by congr 1; omega, Qtrans hb6 hzb hbel⟩
      case measure => (simp [intOf]) <;> omega
    · obtain rfl : n = j := by omega
      go_wp2
      go_ret
      exact ⟨rfl, hbel⟩
end Go.Proofs.Ytieibopegmoanaa
