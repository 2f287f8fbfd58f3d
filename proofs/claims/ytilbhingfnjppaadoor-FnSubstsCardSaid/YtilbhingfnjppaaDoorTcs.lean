/- A substitution turned, and composed with another: the walks. -/
import Derived.Test.YtilbhingfnjppaaDoorPrs
import Derived.Test.YtilbhingfnjppaaDoorRev
set_option linter.unusedSimpArgs false
set_option linter.unusedVariables false
namespace Go.Proofs.YtilbhingfnjppaaDoor
open Go.RowKit
def rvs (zs : List ByteArray) (k : Nat) : List ByteArray := (zs.take k).map rev
theorem rvs_len {zs : List ByteArray} {k : Nat} (h : k ≤ zs.length) : (rvs zs k).length = k := by simp [rvs]; omega
theorem rvs_next {zs : List ByteArray} {k : Nat} (h : k < zs.length) : rvs zs (k + 1) = rvs zs k ++ [rev (zs.getD k ByteArray.empty)] := by
  unfold rvs
  rw [List.take_add_one, List.getElem?_eq_getElem h, List.map_append, List.getD_eq_getElem?_getD, List.getElem?_eq_getElem h]; rfl
theorem rev_size (s : ByteArray) : (rev s).size = s.size := by
  show (revL s s.size).toArray.size = s.size
  rw [List.size_toArray, revL_len]
set_option maxRecDepth 20000 in
set_option maxHeartbeats 4000000 in
theorem TurnSubst_any (x : Option Addr) (n cap : Nat) (zs : List ByteArray) (w : World) (h : IsStrs w x n cap zs) (hS : sB zs = true) :
    Calls Tryd.prog 12 #[.agg #[.slice x n cap]] w fun e w' => ∃ y cy, e = .returned (.tuple #[.agg #[.slice y n cy], .bool true]) ∧ IsStrs w' y n cy (rvs zs n) ∧ Below w.heap.size w w' := by
  obtain ⟨i0, hi0, hz0, hz1, hz2⟩ := info_parts infoS
  have hn := h.1
  have hn4 := (s_of hS).1
  rw [hn] at hn4
  have h8 := Lib.hid (small8_sB hS)
  have hb0 : Below w.heap.size w ((w.alloc (.cells #[.slice x n cap] 27)).alloc (.cells #[.slice none 0 0] 27)) := ((Below.refl _ w).alloc (Nat.le_refl _) _).alloc (by simp) _
  have h0 := isStrs_below h (Nat.le_refl _) hb0
  have cO := fun w h => implSubstOk_any x n cap zs w h (by omega)
  rw [hS] at cO
  have k0 : ((w.alloc (.cells #[.slice x n cap] 27)).alloc (.cells #[.slice none 0 0] 27)).cell? ⟨w.heap.size, 0, none⟩ = some (.slice x n cap) := by simp [go_sem]
  have z0 : ((w.alloc (.cells #[.slice x n cap] 27)).alloc (.cells #[.slice none 0 0] 27)).heap.size = w.heap.size + 2 := by simp
  clear h
  go_enter Tryd.func12, Tryd.ntmps12
  go_upto_region 3 with (go_at_call 57; refine (cO _ h0).mono ?_; rintro e w2 ⟨rfl, hb2⟩)
  have zz2 := hb2.size
  have h2 := isStrs_below h0 (Nat.le_refl _) hb2
  have k2 : w2.cell? ⟨w.heap.size, 0, none⟩ = some (.slice x n cap) := (hb2.cell (p := ⟨w.heap.size, 0, none⟩) (by show w.heap.size < _; omega)).trans k0
  have b2 : Below w.heap.size w w2 := Qtrans hb2 (by omega) hb0
  have c12 : w2.cell? ⟨w.heap.size + 1, 0, none⟩ = some (.slice none 0 0) := (hb2.cell (p := ⟨w.heap.size + 1, 0, none⟩) (by show w.heap.size + 1 < _; omega)).trans (by simp [go_sem])
  have f12 : w2.frozen? ⟨w.heap.size + 1, 0, none⟩ = false := (hb2.frozen (p := ⟨w.heap.size + 1, 0, none⟩) (by show w.heap.size + 1 < _; omega)).trans (by simp [go_sem])
  have hs2 : w.heap.size + 1 < w2.heap.size := by omega
  clear hb2 k0 hb0
  go_upto_region 4 with fail
  have hb3 : Below w2.heap.size w2 (w2.alloc (.cells #[.slice none 0 0] 27)) := (Below.refl _ w2).alloc (Nat.le_refl _) _
  obtain ⟨w3, hw3⟩ : ∃ W, w2.alloc (.cells #[.slice none 0 0] 27) = W := ⟨_, rfl⟩
  have c3 : w3.cell? ⟨w2.heap.size, 0, none⟩ = some (.slice none 0 0) := by rw [← hw3]; simp [go_sem]
  have f3 : w3.frozen? ⟨w2.heap.size, 0, none⟩ = false := by rw [← hw3]; simp [go_sem]
  have z3 : w3.heap.size = w2.heap.size + 1 := by rw [← hw3]; simp
  rw [hw3] at hb3 ⊢
  have k3 := (hb3.cell (p := ⟨w.heap.size, 0, none⟩) (by show w.heap.size < _; omega)).trans k2
  have h3 : True := trivial
  clear hw3 h3 k2
  go_wp2_with fail
  go_loopw [15] (fun i wr => ∃ (k cy : Nat) (y : Option Addr), k ≤ n ∧ i = .int .i64 k ∧ wr.cell? ⟨w2.heap.size, 0, none⟩ = some (.slice y k cy) ∧ wr.frozen? ⟨w2.heap.size, 0, none⟩ = false ∧ wr.ownsRow (w2.heap.size + 1) 9 1 (.slice y k cy) k (sv (rvs zs k)) ∧ w2.heap.size < wr.heap.size ∧ Below w2.heap.size w2 wr) (fun i _ => n - (intOf i).toNat)
  case atStart => exact ⟨0, 0, none, by omega, rfl, c3, f3, World.ownsRow_nil _ _ _ _, by omega, hb3⟩
  case round =>
    clear c3 f3 hb3 k3
    obtain ⟨k, cy, y, hk, rfl, cB, fB, hown, hzB, hbel⟩ := hrel
    by_cases hlt : k < n
    · have hst := isStrs_below h2 (Nat.le_refl _) hbel
      obtain ⟨b, off, rfl, hbl, hcl⟩ := isStrs_cell hst (by omega)
      have hck := hcl k hlt
      have hnx := rvs_next (zs := zs) (k := k) (by omega)
      have hzs := h8.out k
      obtain ⟨z, hz⟩ : ∃ z, zs.getD k ByteArray.empty = z := ⟨_, rfl⟩
      rw [hz] at hck hnx hzs
      have cT := fun w => turned_any z w (by omega)
      have hrz := rev_size z
      obtain ⟨rz, hrze⟩ : ∃ y, rev z = y := ⟨_, rfl⟩
      rw [hrze] at cT hnx hrz
      have hnxH := Lib.hid hnx
      have hownH := Lib.hid hown
      have i0' : (0 : Int) ≤ (k : Int) := by omega
      have i1 : (k : Int) < (n : Int) := by omega
      have i8 : IntKind.i64.wrap ((k : Int) + 1) = (k : Int) + 1 := IntWalk.i64_in _ (by omega)
      clear hcl hz hst hnx hrze hown h2
      go_wp2_with fail
      go_region_law (first | (((refine step_append_lies _ (by rfl) _ _ _ (by rfl) (w2.heap.size + 1) 9 i0 _ 1 16 Tryd.underlying25 hi0 hz0 hz1 hz2 rfl (by decide) (.slice y k cy) (k) (sv (rvs zs k)) (by rfl) (hown6.alloc _) ⟨(w6).heap.size, 0, none⟩ 1 1 [.string rz] (by rfl) (by rfl) (World.news_of_block (cs := #[.string rz]) (t := 9) (fr := (0, 0)) (heap_alloc_new (w6) _)) (by simp [Value.oneCell']) (by omega) (by unfold maxLen; omega) (by omega) (by simp; omega) ((w6).heap.size + 1) (by simp) ?_; intro gg cap w1 hown1 hgrow hatg hltg)); have k9 := (hgrow.cell_far ⟨w2.heap.size, 0, none⟩ (by simp; omega) (fun e => by have := (hown6.lt w2.heap.size e.symm).1; omega)).trans ((calloc hz6').trans c6); have kf9 := (hgrow.frozen_far ⟨w2.heap.size, 0, none⟩ (by simp; omega) (fun e => by have := (hown6.lt w2.heap.size e.symm).1; omega)).trans ((falloc hz6').trans f6)) | (go_simp; go_at_call 58; (with_reducible refine (cT _).mono ?_); rintro e w6 ⟨rfl, hb6⟩; have hb6' : Below wr.heap.size wr w6 := Qtrans hb6 (by simp) (Qdrew (Below.refl _ wr)); have hz6 := hb6'.size; have hz6' : w2.heap.size < w6.heap.size := (by omega); have c6 : w6.cell? ⟨w2.heap.size, 0, none⟩ = some (.slice y k cy) := (hb6'.cell (p := ⟨w2.heap.size, 0, none⟩) hzB).trans cB; have f6 : w6.frozen? ⟨w2.heap.size, 0, none⟩ = false := (hb6'.frozen (p := ⟨w2.heap.size, 0, none⟩) hzB).trans fB; have hown6 := own_below hownH.out hb6'))
      all_goals go_wp2
      all_goals
        have hz9 := hgrow.size
        simp only [World.size_alloc] at hz9
        have hA := (Qtrans hb6' (by omega) hbel).alloc (by omega) (.cells #[.string rz] 9)
        have hG := hA.grown hgrow (by simp; omega) (fun b e => by have := (hown6.lt b e).1; omega)
        refine ⟨⟨k + 1, cap, some ⟨gg, 0, none⟩, by omega, by go_num, by rw [csame, k9]; rfl, (World.frozen?_setCell _ _ _ _).trans kf9, ?_, by simp; omega, hG.setCell (by show w2.heap.size ≤ w2.heap.size; omega) _⟩, by simp [intOf]; omega⟩
        rw [hnxH.out, sv_snoc]
        exact ownsRow_setCell_below hown1 (by show w2.heap.size < _; omega) _
    · obtain rfl : n = k := by omega
      have c12' : wr.cell? ⟨w.heap.size + 1, 0, none⟩ = some (.slice none 0 0) := (hbel.cell (p := ⟨w.heap.size + 1, 0, none⟩) (by show w.heap.size + 1 < _; omega)).trans c12
      have f12' : wr.frozen? ⟨w.heap.size + 1, 0, none⟩ = false := (hbel.frozen (p := ⟨w.heap.size + 1, 0, none⟩) (by show w.heap.size + 1 < _; omega)).trans f12
      have hsm : ∀ z ∈ rvs zs n, z.size ≤ maxLen := fun z hz => by
        obtain ⟨y, hy, rfl⟩ := List.mem_map.1 hz
        obtain ⟨j, hj, rfl⟩ := List.getElem_of_mem (List.mem_of_mem_take hy)
        have := h8.out j
        rw [List.getD_eq_getElem?_getD, List.getElem?_eq_getElem hj] at this
        have h9 : (zs[j]).size ≤ 8 := this
        rw [rev_size]; unfold maxLen; omega
      have hrl := rvs_len (zs := zs) (k := n) (by omega)
      have i9 : ¬ (n : Int) < (n : Int) := by omega
      have hs3 : w.heap.size + 1 < wr.heap.size := by omega
      have o3 := Lib.hid (isStrs_ownAny (ownsRow_setCell_below (a := ⟨w.heap.size + 1, 0, none⟩) hown (by show w.heap.size + 1 < _; omega) (.slice y n cy)) hrl hsm)
      have hB := (Qtrans hbel (by omega) b2).setCell (p := ⟨w.heap.size + 1, 0, none⟩) (by show w.heap.size ≤ w.heap.size + 1; omega) (.slice y n cy)
      clear hsm hrl hown h2
      go_wp2_with fail
      refine bodyPost_ret (v := .tuple #[.agg #[.slice y n cy], .bool true]) (by simp [results, Tryd.results12, go_sem, csame, cset, *]) rfl ⟨y, cy, rfl, o3.out, hB⟩
end Go.Proofs.YtilbhingfnjppaaDoor
