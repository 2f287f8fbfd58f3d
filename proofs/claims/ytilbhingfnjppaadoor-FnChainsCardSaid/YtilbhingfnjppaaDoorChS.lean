/- Chains: the library's sort at golden numbers. -/
import Derived.Test.YtilbhingfnjppaaDoorChE
import Derived.Shelf.SlSortCmp.WholeK
import Derived.Shelf.Lay
import Derived.Ground.SlsfProg
set_option linter.unusedSimpArgs false
set_option linter.unusedVariables false
namespace Go.Proofs
open Go.Shelf
shelf_lay_g SlLaysF0.n6 Slsf 6 at Tryd 69 as Tryd.sortGold
end Go.Proofs
namespace Go.Proofs.YtilbhingfnjppaaDoor
open Go.RowKit
/-- A world that holds all as it was has grown and drawn, and nothing else. -/
theorem grown_of {W w' : World} (h : Below W.heap.size W w') (hd : W.drawn ≤ w'.drawn) : ∃ q os', w' = Go.Sort.grow (W.drewN q) os' := by
  refine ⟨w'.drawn - W.drawn, w'.heap.extract W.heap.size w'.heap.size, ?_⟩
  obtain ⟨h1, h2, h3, h4, h5⟩ := h
  cases W; cases w'
  simp only [Go.Sort.grow, World.drewN] at *
  subst h1 h2 h3
  congr 1
  · apply Array.ext_getElem?
    intro k
    rw [Array.getElem?_append]
    split
    · rename_i hk; exact h5 k hk
    · rename_i hk
      rw [Array.getElem?_extract]
      split
      · congr 1; omega
      · rw [Array.getElem?_eq_none]; omega
  · omega
set_option maxRecDepth 20000 in
set_option maxHeartbeats 1000000 in
theorem minus_d (a b c d : Int) (w : World) (ha : -50000000 ≤ a ∧ a ≤ 50000000) (hb : -50000000 ≤ b ∧ b ≤ 50000000) (hc : -50000000 ≤ c ∧ c ≤ 50000000) (hd : -50000000 ≤ d ∧ d ≤ 50000000) :
    Calls Tryd.prog 68 #[.agg #[.int .i64 (a), .int .i64 (b)], .agg #[.int .i64 (c), .int .i64 (d)]] w fun e w' => e = .returned (.agg #[.int .i64 (a - c), .int .i64 (b - d)]) ∧ Below w.heap.size w w' ∧ w.drawn ≤ w'.drawn := by
  have s1 : wrap64 (a - c) = a - c := wrap_in _ (by omega)
  have s2 : wrap64 (b - d) = b - d := wrap_in _ (by omega)
  go_enter Tryd.func68, Tryd.ntmps68
  go_wp2
  refine bodyPost_ret (v := .agg #[.int .i64 (a - c), .int .i64 (b - d)]) (by simp [results, Tryd.results68, go_sem, cset, *]) rfl ⟨by first | rfl | simp [*], ?_, ?_⟩
  · (repeat (first | with_reducible exact Below.refl _ _ | assumption | with_reducible refine Qdrew ?_ | with_reducible refine QdrewN ?_ | ((with_reducible refine Qset ?_ ?_); exact (by ((try simp only [World.size_alloc, World.size_setCell, World.size_drew, size_drewN]); (try dsimp only); omega))) | ((with_reducible refine Qalloc ?_ ?_); exact (by ((try simp only [World.size_alloc, World.size_setCell, World.size_drew, size_drewN]); (try dsimp only); omega))) | refine Qtrans (by assumption) (by ((try simp only [World.size_alloc, World.size_setCell, World.size_drew, size_drewN]); (try dsimp only); omega)) ?_))
  · exact Nat.le_refl w.drawn
set_option maxRecDepth 20000 in
set_option maxHeartbeats 1000000 in
theorem sign_d (a b : Int) (w : World) (ha : -100000000 ≤ a ∧ a ≤ 100000000) (hb : -100000000 ≤ b ∧ b ≤ 100000000) :
    Calls Tryd.prog 75 #[.agg #[.int .i64 (a), .int .i64 (b)]] w fun e w' => e = .returned (.int .i64 (sgn a b)) ∧ Below w.heap.size w w' ∧ w.drawn ≤ w'.drawn := by
  obtain ⟨⟨h1, h2⟩, h3, h4⟩ := sgn_bounds a b ha hb
  obtain ⟨ha1, ha2⟩ := ha
  obtain ⟨hb1, hb2⟩ := hb
  go_enter Tryd.func75, Tryd.ntmps75
  go_wp2
  go_quiet (fail)
  go_wp2
  all_goals go_ret
  all_goals refine ⟨ret_int (by (try (simp only [Bool.not_eq_eq_eq_not, Bool.not_true, Bool.not_false, Bool.not_eq_true', Bool.not_eq_false', beq_iff_eq, beq_eq_false_iff_ne, bne_iff_ne, bne_eq_false_iff_eq, ne_eq, decide_eq_true_eq, decide_eq_false_iff_not] at *)); unfold sgn; (repeat' split) <;> omega), ?_, ?_⟩
  all_goals first | ((repeat (first | with_reducible exact Below.refl _ _ | assumption | with_reducible refine Qdrew ?_ | with_reducible refine QdrewN ?_ | ((with_reducible refine Qset ?_ ?_); exact (by ((try simp only [World.size_alloc, World.size_setCell, World.size_drew, size_drewN]); (try dsimp only); omega))) | ((with_reducible refine Qalloc ?_ ?_); exact (by ((try simp only [World.size_alloc, World.size_setCell, World.size_drew, size_drewN]); (try dsimp only); omega))) | refine Qtrans (by assumption) (by ((try simp only [World.size_alloc, World.size_setCell, World.size_drew, size_drewN]); (try dsimp only); omega)) ?_)); done) | exact Nat.le_refl w.drawn | exact Nat.le_add_right w.drawn _
set_option maxRecDepth 20000 in
set_option maxHeartbeats 1000000 in
theorem compare_d (a b c d : Int) (w : World) (ha : -50000000 ≤ a ∧ a ≤ 50000000) (hb : -50000000 ≤ b ∧ b ≤ 50000000) (hc : -50000000 ≤ c ∧ c ≤ 50000000) (hd : -50000000 ≤ d ∧ d ≤ 50000000) :
    Calls Tryd.prog 71 #[.agg #[.int .i64 (a), .int .i64 (b)], .agg #[.int .i64 (c), .int .i64 (d)]] w fun e w' => e = .returned (.int .i64 (sgn (a - c) (b - d))) ∧ Below w.heap.size w w' ∧ w.drawn ≤ w'.drawn := by
  have hM := fun w => minus_d a b c d w ha hb hc hd
  have hS := fun w => sign_d (a - c) (b - d) w (by omega) (by omega)
  go_enter Tryd.func71, Tryd.ntmps71
  go_wp2_with (first | (go_at_call 68; refine (hM _).mono ?_; rintro ex w1 ⟨rfl, hb1, hd1⟩) | (go_at_call 75; refine (hS _).mono ?_; rintro ex w2 ⟨rfl, hb2, hd2⟩))
  go_ret
  have z1 := hb1.size
  simp only [World.size_alloc] at z1
  refine ⟨rfl, Qtrans hb2 (by omega) (Qtrans hb1 (by simp; omega) (((Below.refl _ w).alloc (Nat.le_refl _) _).alloc (by simp) _)), ?_⟩
  simp only [World.alloc] at hd1 hd2
  omega
abbrev BG := { x : GP // bg x }
instance : Inhabited BG := ⟨⟨(0, 0), ⟨by decide, by decide⟩, ⟨by decide, by decide⟩⟩⟩
def encG (x : BG) : List Value := [.int .i64 x.1.1, .int .i64 x.1.2]
def cfG (x y : BG) : Int := sgn (x.1.1 - y.1.1) (x.1.2 - y.1.2)
theorem cfG_lt (x y : BG) : Go.Proofs.ltOf cfG x y = decide (key x.1 < key y.1) := by
  obtain ⟨⟨x1, x2⟩, ⟨x3, x4⟩⟩ := x.2
  obtain ⟨⟨y1, y2⟩, ⟨y3, y4⟩⟩ := y.2
  have h := sgn_ge_lin (a := x.1.1 - y.1.1) (b := x.1.2 - y.1.2) (bd_of (by omega) (by omega)) (bd_of (by omega) (by omega))
  rw [vl_sub] at h
  unfold Go.Proofs.ltOf cfG key
  rw [decide_eq_decide]
  omega
theorem swoG : Go.Sort.SWO (Go.Proofs.ltOf cfG) where
  irrefl x := by rw [cfG_lt]; simp
  trans x y z h1 h2 := by rw [cfG_lt] at *; simp at *; omega
  ntrans x y z h1 h2 := by rw [cfG_lt] at *; simp at *; omega
set_option maxRecDepth 20000 in
set_option maxHeartbeats 1000000 in
theorem closureC (x y : BG) (W : World) : Calls Tryd.prog 102 #[.agg (encG x).toArray, .agg (encG y).toArray] W fun e w' => e = .returned (.int .i64 (cfG x y)) ∧ ∃ q os', w' = Go.Sort.grow (W.drewN q) os' := by
  obtain ⟨⟨x1, x2⟩, ⟨x3, x4⟩⟩ := x.2
  obtain ⟨⟨y1, y2⟩, ⟨y3, y4⟩⟩ := y.2
  have hC := fun w => compare_d x.1.1 x.1.2 y.1.1 y.1.2 w (by omega) (by omega) (by omega) (by omega)
  unfold encG cfG
  obtain ⟨r, hr⟩ : ∃ r, sgn (x.1.1 - y.1.1) (x.1.2 - y.1.2) = r := ⟨_, rfl⟩
  rw [hr] at hC ⊢
  obtain ⟨a, ha⟩ : ∃ a, x.1.1 = a := ⟨_, rfl⟩
  obtain ⟨b, hb⟩ : ∃ b, x.1.2 = b := ⟨_, rfl⟩
  obtain ⟨c, hc⟩ : ∃ c, y.1.1 = c := ⟨_, rfl⟩
  obtain ⟨d, hd⟩ : ∃ d, y.1.2 = d := ⟨_, rfl⟩
  rw [ha, hb, hc, hd] at hC
  rw [ha, hb, hc, hd]
  clear hr ha hb hc hd x1 x2 x3 x4 y1 y2 y3 y4
  show Calls Tryd.prog 102 #[.agg #[.int .i64 (a), .int .i64 (b)], .agg #[.int .i64 (c), .int .i64 (d)]] W _
  go_enter Tryd.func102, Tryd.ntmps102
  go_wp2_with (first | (go_at_call 71; refine (hC _).mono ?_; rintro ex w1 ⟨rfl, hb1, hd1⟩))
  go_ret
  refine ⟨rfl, grown_of (Qtrans hb1 (by simp; omega) (((Below.refl _ W).alloc (Nat.le_refl _) _).alloc (by simp) _)) ?_⟩
  exact hd1
set_option maxRecDepth 20000 in
set_option maxHeartbeats 1000000 in
theorem closureK (x y : BG) (W : World) : Calls Tryd.prog 70 #[.agg (encG x).toArray, .agg (encG y).toArray] W fun e w' => e = .returned (.int .i64 (cfG x y)) ∧ ∃ q os', w' = Go.Sort.grow (W.drewN q) os' := by
  obtain ⟨⟨x1, x2⟩, ⟨x3, x4⟩⟩ := x.2
  obtain ⟨⟨y1, y2⟩, ⟨y3, y4⟩⟩ := y.2
  have hC := fun w => compare_d x.1.1 x.1.2 y.1.1 y.1.2 w (by omega) (by omega) (by omega) (by omega)
  unfold encG cfG
  obtain ⟨r, hr⟩ : ∃ r, sgn (x.1.1 - y.1.1) (x.1.2 - y.1.2) = r := ⟨_, rfl⟩
  rw [hr] at hC ⊢
  obtain ⟨a, ha⟩ : ∃ a, x.1.1 = a := ⟨_, rfl⟩
  obtain ⟨b, hb⟩ : ∃ b, x.1.2 = b := ⟨_, rfl⟩
  obtain ⟨c, hc⟩ : ∃ c, y.1.1 = c := ⟨_, rfl⟩
  obtain ⟨d, hd⟩ : ∃ d, y.1.2 = d := ⟨_, rfl⟩
  rw [ha, hb, hc, hd] at hC
  rw [ha, hb, hc, hd]
  clear hr ha hb hc hd x1 x2 x3 x4 y1 y2 y3 y4
  show Calls Tryd.prog 70 #[.agg #[.int .i64 (a), .int .i64 (b)], .agg #[.int .i64 (c), .int .i64 (d)]] W _
  go_enter Tryd.func70, Tryd.ntmps70
  go_wp2_with (first | (go_at_call 71; refine (hC _).mono ?_; rintro ex w1 ⟨rfl, hb1, hd1⟩))
  go_ret
  refine ⟨rfl, grown_of (Qtrans hb1 (by simp; omega) (((Below.refl _ W).alloc (Nat.le_refl _) _).alloc (by simp) _)) ?_⟩
  exact hd1
theorem encG_one (x : BG) : ∀ v ∈ encG x, v.oneCell' = true := by
  intro v hv
  simp [encG] at hv
  rcases hv with rfl | rfl <;> rfl
theorem flatG (d : Array BG) : (Go.Sort.flatK encG 2 d).toList = gv (d.toList.map (·.1)) := by
  apply List.ext_getElem?
  intro t
  have hl : (gv (d.toList.map (·.1))).length = d.size * 2 := by rw [gv_len]; simp
  by_cases ht : t < d.size * 2
  · have h1 := Go.Sort.get_flatK encG 2 d t ht
    have h2 : (Go.Sort.flatK encG 2 d)[t]? = some ((Go.Sort.flatK encG 2 d)[t]!) := by
      rw [getElem!_pos _ _ (by simpa using ht)]
      exact Array.getElem?_eq_getElem (by simpa using ht)
    rw [Array.getElem?_toList, h2, h1]
    obtain ⟨g1, g2⟩ := gv_at (d.toList.map (·.1)) (t / 2) (by simp; omega)
    have hx : (d.toList.map (·.1)).getD (t / 2) (0, 0) = (d[t / 2]!).1 := by
      rw [getElem!_pos d _ (by omega)]
      simp [List.getD_eq_getElem?_getD, show t / 2 < d.size by omega]
    rw [hx] at g1 g2
    rcases Nat.mod_two_eq_zero_or_one t with e | e
    · rw [show 2 * (t / 2) = t by omega] at g1
      rw [g1, e]; rfl
    · rw [show 2 * (t / 2) + 1 = t by omega] at g2
      rw [g2, e]; rfl
  · rw [List.getElem?_eq_none (by simp; omega), List.getElem?_eq_none (by omega)]
theorem perm_in0 {d d' : Array BG} (h : Go.Sort.PermIn 0 d.size d d') : d'.toList.Perm d.toList := by
  obtain ⟨h1, _, h3⟩ := h
  rwa [show d'.extract 0 d.size = d' by rw [← h1]; simp, show d.extract 0 d.size = d by simp] at h3
theorem sorted_in0 {d : Array BG} {n : Nat} (hn : d.size = n) (h : Go.Sort.SortedIn (Go.Proofs.ltOf cfG) 0 n d) : (d.toList.map (·.1)).Pairwise (fun x y => key x ≤ key y) := by
  rw [List.pairwise_map, List.pairwise_iff_getElem]
  intro i j hi hj hij
  have hi' : i < d.size := by simpa using hi
  have hj' : j < d.size := by simpa using hj
  have := h i j (Nat.zero_le _) hij (by omega)
  rw [cfG_lt, decide_eq_false_iff_not, getElem!_pos d i hi', getElem!_pos d j hj'] at this
  rw [Array.getElem_toList, Array.getElem_toList]
  omega
theorem heap_sortedG {w : World} {g m : Nat} {os : Array Obj} {cur : Array Value} {e : TypeId} {fr : Nat × Nat} (d : Array BG) (hb : w.heap[g]? = some (.cells cur e fr)) :
    (Go.Proofs.sortWorldK encG 2 w g 0 m d os).heap[g]? = some (.cells (Go.Sort.putCells id 0 (Go.Sort.flatK encG 2 d) cur) e fr) := by
  have hg : g < w.heap.size := (Array.getElem?_eq_some_iff.1 hb).1
  unfold Go.Proofs.sortWorldK Go.Sort.putRowK
  rw [Go.Sort.heap_grow_old _ _ (by simpa using hg)]
  simp [Go.Sort.putRow, Go.Sort.mapBlock, Go.Sort.ahead, Array.getElem?_modify, hb, Go.Sort.onCells]
theorem below_sortedG {w : World} {B g m : Nat} {os : Array Obj} (d : Array BG) (hB : B ≤ g) (hg : g < w.heap.size) : Below B w (Go.Proofs.sortWorldK encG 2 w g 0 m d os) := by
  unfold Go.Proofs.sortWorldK Go.Sort.putRowK
  refine ⟨rfl, rfl, rfl, by simp, fun k hk => ?_⟩
  rw [Go.Sort.heap_grow_old _ _ (by simp; omega)]
  have : g ≠ k := by omega
  simp [Go.Sort.putRow, Go.Sort.mapBlock, Go.Sort.ahead, Array.getElem?_modify, this]
theorem take_putG (cur F : Array Value) (h : F.size ≤ cur.size) : (Go.Sort.putCells id 0 F cur).toList.take F.size = F.toList := by
  apply List.ext_getElem?
  intro j
  by_cases hj : j < F.size
  · rw [List.getElem?_take_of_lt hj, Array.getElem?_toList]
    simp [Go.Sort.putCells, hj, show j < cur.size by omega]
  · rw [List.getElem?_take_eq_none (by omega), List.getElem?_eq_none (by simp; omega)]
def toBG (L : List GP) (h : ∀ z ∈ L, bg z) : Array BG := (L.attach.map (fun z => (⟨z.1, h z.1 z.2⟩ : BG))).toArray
theorem toBG_map (L : List GP) (h : ∀ z ∈ L, bg z) : (toBG L h).toList.map (·.1) = L := by
  unfold toBG
  rw [List.toList_toArray, List.map_map]
  exact List.attach_map_subtype_val L
set_option maxRecDepth 20000 in
theorem sortC_any (B g n cap : Nat) (L : List GP) (w : World) (hL : ∀ z ∈ L, bg z) (hn : n ≤ 100000) (hown : w.ownsRow B 44 2 (.slice (some ⟨g, 0, none⟩) n cap) n (gv L)) :
    Calls Tryd.prog 69 #[.slice (some ⟨g, 0, none⟩) n cap, .func (.func 102) #[] #[]] w fun e w' => e = .returned (.tuple #[]) ∧ ∃ M : List GP, M.Perm L ∧ M.Pairwise (fun x y => key x ≤ key y) ∧ w'.ownsRow B 44 2 (.slice (some ⟨g, 0, none⟩) n cap) n (gv M) ∧ Below B w w' ∧ w.heap.size ≤ w'.heap.size := by
  have hlen : L.length = n := by have := hown.1; rw [gv_len] at this; omega
  obtain ⟨hBg, hgl⟩ := hown.lt g rfl
  rcases hown.2 with ⟨h', _⟩ | ⟨_, _, cur, he, _, hb, hc1, hc2, hc3, ht⟩
  · cases h'
  cases he
  have hm := toBG_map L hL
  obtain ⟨d, hd⟩ : ∃ d, toBG L hL = d := ⟨_, rfl⟩
  rw [hd] at hm
  have hds : d.size = n := by rw [← hlen, ← hm]; simp
  have hfl : (Go.Sort.flatK encG 2 d).toList = gv L := by rw [flatG, hm]
  have hH : Go.Sort.HoldsK encG 2 w g 0 d := by
    intro j hj
    rw [Go.Sort.size_flatK] at hj
    refine ⟨?_, by simp [World.frozen?, hb]⟩
    rw [Nat.zero_add, own2_cell hown j (by omega), ← hfl, Array.getElem?_toList, getElem!_pos _ _ (by simpa using hj)]
    exact Array.getElem?_eq_getElem (by simpa using hj)
  have eg : ∀ args w, (callFunc 102 args).run Tryd.prog w = .ok (.enter 102 args) w := enters_of Tryd.func102 (by kernel_rfl) rfl
  have hcon := Go.Proofs.AnyQ.slices_SortFunc Tryd.sortGold 2 Tryd.isAgg44 Tryd.sizeOf44 encG (fun _ => rfl) encG_one cfG swoG 102 #[] g 0 cap d w eg (fun _ _ _ _ x y => closureC x y _) hH hgl (by omega)
  rw [hds] at hcon
  refine hcon.mono ?_
  rintro e w' ⟨rfl, d', m, os, hp, hs, rfl⟩
  have hds' : d'.size = n := hp.1.trans hds
  refine ⟨rfl, d'.toList.map (·.1), ?_, sorted_in0 hds' hs, ?_, below_sortedG d' hBg hgl, (below_sortedG d' hBg hgl).size⟩
  · rw [← hm]; exact (perm_in0 (by rw [hds]; exact hp)).map _
  · refine ⟨by rw [gv_len]; simp [hds'], .inr ⟨g, cap, _, rfl, hBg, heap_sortedG d' hb, hc1, hc2, by simp [Go.Sort.putCells, hc3], ?_⟩⟩
    have h := take_putG cur (Go.Sort.flatK encG 2 d') (by rw [Go.Sort.size_flatK, hc3, hds']; omega)
    rw [Go.Sort.size_flatK, hds', flatG] at h
    exact h
set_option maxRecDepth 20000 in
theorem sortK_any (B g n cap : Nat) (L : List GP) (w : World) (hL : ∀ z ∈ L, bg z) (hn : n ≤ 100000) (hown : w.ownsRow B 44 2 (.slice (some ⟨g, 0, none⟩) n cap) n (gv L)) :
    Calls Tryd.prog 69 #[.slice (some ⟨g, 0, none⟩) n cap, .func (.func 70) #[] #[]] w fun e w' => e = .returned (.tuple #[]) ∧ ∃ M : List GP, M.Perm L ∧ M.Pairwise (fun x y => key x ≤ key y) ∧ w'.ownsRow B 44 2 (.slice (some ⟨g, 0, none⟩) n cap) n (gv M) ∧ Below B w w' ∧ w.heap.size ≤ w'.heap.size := by
  have hlen : L.length = n := by have := hown.1; rw [gv_len] at this; omega
  obtain ⟨hBg, hgl⟩ := hown.lt g rfl
  rcases hown.2 with ⟨h', _⟩ | ⟨_, _, cur, he, _, hb, hc1, hc2, hc3, ht⟩
  · cases h'
  cases he
  have hm := toBG_map L hL
  obtain ⟨d, hd⟩ : ∃ d, toBG L hL = d := ⟨_, rfl⟩
  rw [hd] at hm
  have hds : d.size = n := by rw [← hlen, ← hm]; simp
  have hfl : (Go.Sort.flatK encG 2 d).toList = gv L := by rw [flatG, hm]
  have hH : Go.Sort.HoldsK encG 2 w g 0 d := by
    intro j hj
    rw [Go.Sort.size_flatK] at hj
    refine ⟨?_, by simp [World.frozen?, hb]⟩
    rw [Nat.zero_add, own2_cell hown j (by omega), ← hfl, Array.getElem?_toList, getElem!_pos _ _ (by simpa using hj)]
    exact Array.getElem?_eq_getElem (by simpa using hj)
  have eg : ∀ args w, (callFunc 70 args).run Tryd.prog w = .ok (.enter 70 args) w := enters_of Tryd.func70 (by kernel_rfl) rfl
  have hcon := Go.Proofs.AnyQ.slices_SortFunc Tryd.sortGold 2 Tryd.isAgg44 Tryd.sizeOf44 encG (fun _ => rfl) encG_one cfG swoG 70 #[] g 0 cap d w eg (fun _ _ _ _ x y => closureK x y _) hH hgl (by omega)
  rw [hds] at hcon
  refine hcon.mono ?_
  rintro e w' ⟨rfl, d', m, os, hp, hs, rfl⟩
  have hds' : d'.size = n := hp.1.trans hds
  refine ⟨rfl, d'.toList.map (·.1), ?_, sorted_in0 hds' hs, ?_, below_sortedG d' hBg hgl, (below_sortedG d' hBg hgl).size⟩
  · rw [← hm]; exact (perm_in0 (by rw [hds]; exact hp)).map _
  · refine ⟨by rw [gv_len]; simp [hds'], .inr ⟨g, cap, _, rfl, hBg, heap_sortedG d' hb, hc1, hc2, by simp [Go.Sort.putCells, hc3], ?_⟩⟩
    have h := take_putG cur (Go.Sort.flatK encG 2 d') (by rw [Go.Sort.size_flatK, hc3, hds']; omega)
    rw [Go.Sort.size_flatK, hds', flatG] at h
    exact h
end Go.Proofs.YtilbhingfnjppaaDoor
