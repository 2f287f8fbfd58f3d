/- Chains: the kinds of steps. -/
import Derived.Test.YtfbcbfimhgaicaaChL
import Derived.Test.YtfbcbfimhgaicaaChJ
import Derived.Shelf.SlSortCmp.NoneTotal
set_option linter.unusedSimpArgs false
set_option linter.unusedVariables false
namespace Go.Proofs.Ytfbcbfimhgaicaa
open Go.RowKit
theorem dfs_bg {L : List GP} (h : ∀ z ∈ L, bp z) (k : Nat) : ∀ z ∈ dfs L k, bg z := by
  intro z hz
  unfold dfs at hz
  obtain ⟨j, _, rfl⟩ := List.mem_map.1 hz
  obtain ⟨⟨p1, p2⟩, p3, p4⟩ := getD_bp h j
  obtain ⟨⟨q1, q2⟩, q3, q4⟩ := getD_bp h (j + 1)
  exact ⟨⟨by simp only; omega, by simp only; omega⟩, by simp only; omega, by simp only; omega⟩
theorem stL_bg (a b c d n : Int) : ∀ z ∈ stL a b c d n, bg z := by
  unfold stL
  split
  · rename_i h
    rw [Bool.and_eq_true] at h
    exact dfs_bg (specL_take_bp (win_Win h.1) _) _
  · simp
/-- What StepKinds returns. -/
noncomputable def kdL (a b c d : Int) : List GP := kd (stL a b c d 59) (stL a b c d 59).length
theorem kdL_len (a b c d : Int) : (kdL a b c d).length ≤ 59 := Nat.le_trans (kd_len _ _ (Nat.le_refl _)) (stL_len a b c d 59)
theorem compactNil (w : World) : Calls Try.prog 97 #[.slice none 0 0] w fun e w' => e = .returned (.slice none 0 0) ∧ w = w' := by
  go_enter Try.func97, Try.ntmps97
  go_wp2
  go_ret
  exact ⟨rfl, rfl⟩
set_option maxRecDepth 20000 in
set_option maxHeartbeats 2000000 in
theorem implKinds_any (a b c d : Int) (w : World) :
    Calls Try.prog 52 #[.agg #[.int .i64 (a), .int .i64 (b)], .agg #[.int .i64 (c), .int .i64 (d)]] w fun e w' => ∃ x cp, e = .returned (.slice x (kdL a b c d).length cp) ∧ w'.ownsRow w.heap.size 58 2 (.slice x (kdL a b c d).length cp) (kdL a b c d).length (gv (kdL a b c d)) ∧ Below w.heap.size w w' := by
  have hS := fun w => implSteps_any a b c d 59 w
  have hbg := Lib.hid (stL_bg a b c d 59)
  have hlen := stL_len a b c d 59
  have hkd : Hid (kdL a b c d = kd (stL a b c d 59) (stL a b c d 59).length) := rfl
  obtain ⟨S, hSS⟩ : ∃ S, stL a b c d 59 = S := ⟨_, rfl⟩
  rw [hSS] at hS hbg hlen hkd
  obtain ⟨n, hn⟩ : ∃ n, S.length = n := ⟨_, rfl⟩
  rw [hn] at hS hlen hkd
  have hn' := Lib.hid hn
  clear hSS hn
  go_enter Try.func52, Try.ntmps52
  go_wp2_with (go_at_call 48; refine (hS _).mono ?_; rintro e w1 ⟨x, cp, rfl, hown, hb1⟩)
  have hz1 := hb1.size
  simp only [World.size_alloc] at hz1
  have hb : Below w.heap.size w w1 := Qtrans hb1 (by simp; omega) (((Below.refl _ w).alloc (Nat.le_refl _) _).alloc (by simp) _)
  have ho := own2_mono (B' := w.heap.size) hown (by simp; omega)
  rcases hown.2 with ⟨hv, _⟩ | ⟨g, cp', _, hv, _⟩
  · cases hv
    have hk : Hid (kdL a b c d = []) := by
      have : S = [] := List.length_eq_zero_iff.1 hn'.out
      show _ = _; rw [hkd.out, this]; rfl
    go_at_call 94
    refine (Go.Proofs.AnyF.slices_SortFunc_none Try.sortGold none 0 (.func (.func 95) #[] #[]) w1).mono ?_
    rintro e w2 ⟨rfl, rfl⟩
    go_wp2_with (go_at_call 97; refine (compactNil _).mono ?_; rintro e w3 ⟨rfl, rfl⟩)
    go_ret
    exact ⟨none, 0, by rw [hk.out]; rfl, by rw [hk.out]; exact World.ownsRow_nil _ _ _ _, hb⟩
  · cases hv
    have hS' := hbg.out
    go_at_call 94
    refine (sortK_any w.heap.size g n cp S w1 hS' (by omega) ho).mono ?_
    rintro e w2 ⟨rfl, M, hp, hso, ho2, hb2, hz2⟩
    have hk : Hid (Lib.compactUpTo M.toArray n = kdL a b c d) := by
      show _ = _
      have h := kinds_eq hS' hp hso
      rw [hp.length_eq, hn'.out] at h
      rw [hkd.out, h]
    have hp' := Lib.hid hp
    have hso' := Lib.hid hso
    clear hp hso
    go_wp2_with (go_at_call 97; refine (compactG_any w.heap.size g n cp M w2 (by omega) ho2).mono ?_; rintro e w3 ⟨rfl, ho3, hb3⟩)
    go_ret
    rw [hk.out] at ho3
    exact ⟨_, cp, by rw [hk.out]; rfl, ho3, (hb.trans hb2).trans hb3⟩
set_option maxRecDepth 20000 in
set_option maxHeartbeats 4000000 in
theorem specKinds_any (a b c d : Int) (w : World) :
    Calls Try.prog 51 #[.agg #[.int .i64 (a), .int .i64 (b)], .agg #[.int .i64 (c), .int .i64 (d)]] w fun e w' => ∃ x cp, e = .returned (.slice x (kdL a b c d).length cp) ∧ w'.ownsRow w.heap.size 58 2 (.slice x (kdL a b c d).length cp) (kdL a b c d).length (gv (kdL a b c d)) ∧ Below w.heap.size w w' := by
  have hS := fun w => specSteps_any a b c d 59 w
  have hbg := Lib.hid (stL_bg a b c d 59)
  have hlen := stL_len a b c d 59
  have hkd : Hid (kdL a b c d = kd (stL a b c d 59) (stL a b c d 59).length) := rfl
  obtain ⟨S, hSS⟩ : ∃ S, stL a b c d 59 = S := ⟨_, rfl⟩
  rw [hSS] at hS hbg hlen hkd
  obtain ⟨n, hn⟩ : ∃ n, S.length = n := ⟨_, rfl⟩
  rw [hn] at hS hlen hkd
  have hn' := Lib.hid hn
  clear hSS hn
  go_enter Try.func51, Try.ntmps51
  go_wp2_with (go_at_call 47; refine (hS _).mono ?_; rintro e w1 ⟨x, cp, rfl, hown, hb1⟩)
  have hz1 := hb1.size
  simp only [World.size_alloc] at hz1
  have hb : Below w.heap.size w w1 := Qtrans hb1 (by simp; omega) ((((Below.refl _ w).alloc (Nat.le_refl _) _).alloc (by simp) _).alloc (by simp; omega) _)
  have rS := rG_own hown (by omega)
  have hown0 : w1.ownsRow w.heap.size 58 2 (.slice (some ⟨w.heap.size + 1 + 1, 0, none⟩) 0 0) 0 (gv (kd S 0)) := by
    have h := own2_below (World.ownsRow_lit (base := w.heap.size) (e := 58) (size := 2) ((w.alloc (.cells #[.int .i64 a, .int .i64 b] 58)).alloc (.cells #[.int .i64 c, .int .i64 d] 58)) #[] 0 (by simp; omega) (by decide) rfl) hb1
    simpa [World.size_alloc, kd, gv] using h
  have hxg : ∀ g off, x = some ⟨g, off, none⟩ → w.heap.size + 1 + 1 < g := fun g off q => by subst q; have := (hown.lt g rfl).1; simp at this; omega
  clear hown
  go_loopw [5, 16] (fun out i wr => ∃ k g m cm : Nat, k ≤ n ∧ i = .int .i64 k ∧ out = .slice (some ⟨g, 0, none⟩) m cm ∧ Hid ((kd S k).length = m) ∧ m ≤ k ∧ wr.ownsRow w.heap.size 58 2 (.slice (some ⟨g, 0, none⟩) m cm) m (gv (kd S k)) ∧ RG wr x n S ∧ Below w.heap.size w wr ∧ w1.heap.size ≤ wr.heap.size) (fun _ i _ => n - (intOf i).toNat)
  case atStart => exact ⟨0, _, 0, 0, by omega, rfl, rfl, Lib.hid rfl, by omega, hown0, rS, hb, by omega⟩
  case round =>
    clear hown0 rS hb
    rename World => wo
    obtain ⟨k, g, m, cm, hk, rfl, rfl, hml, hmk, hown, hr, hbel, hzr⟩ := hrel
    by_cases hlt : k < n
    · obtain ⟨gS, hb, hlb, hcell⟩ := rG_cell hr (by omega)
      obtain ⟨f1, f2⟩ := hcell k hlt
      clear hcell
      subst hb
      have hgb := (hown.lt g rfl).1
      have hgl := (hown.lt g rfl).2
      obtain ⟨s, hs⟩ : ∃ s, (S.getD k (0, 0)).1 = s := ⟨_, rfl⟩
      obtain ⟨t, ht⟩ : ∃ t, (S.getD k (0, 0)).2 = t := ⟨_, rfl⟩
      rw [hs] at f1
      rw [ht] at f2
      have hst := Lib.hid (And.intro hs ht)
      have i1 : (0 : Int) ≤ (k : Int) := by omega
      have i2 : (k : Int) < (n : Int) := by omega
      have i8 : IntKind.i64.wrap ((k : Int) + 1) = (k : Int) + 1 := IntWalk.i64_in _ (by omega)
      clear hs ht
      have hbgk := Lib.hid (kd_bg hbg.out k)
      have hbgx : Hid (bg (s, t)) := by
        have h := hbg.out (S.getD k (0, 0)) (by rw [List.getD_eq_getElem?_getD, List.getElem?_eq_getElem (by rw [hn'.out]; exact hlt)]; exact List.getElem_mem _)
        rw [show S.getD k (0, 0) = (s, t) from Prod.ext hst.out.1 hst.out.2] at h
        exact h
      have hnext : Hid (kd S (k + 1) = kdS (kd S k) (s, t)) := by
        have h := kd_next S k (by rw [hn'.out]; exact hlt)
        rw [show S.getD k (0, 0) = (s, t) from Prod.ext hst.out.1 hst.out.2] at h
        exact h
      obtain ⟨D, hD⟩ : ∃ D, kd S k = D := ⟨_, rfl⟩
      rw [hD] at hbgk hnext hml hown
      clear hD hst
      go_wp2_with fail
      go_loopw [8, 22] (fun kv i wi => ∃ j : Nat, j ≤ m ∧ i = .int .i64 j ∧ kv = .bool (kn (D.take j) (s, t)) ∧ Below (wo.heap.size + 1) (wo.alloc (.cells #[.int .i64 s, .int .i64 t] 58)) wi) (fun _ i _ => m - (intOf i).toNat)
      case atStart => exact ⟨0, by omega, rfl, rfl, Below.refl _ _⟩
      case round =>
        obtain ⟨j, hj, rfl, rfl, hbi⟩ := hrel
        have hzi := hbi.size
        simp only [World.size_alloc] at hzi
        have x1 : wr.cell? ⟨wo.heap.size, 0, none⟩ = some (.int .i64 s) := (hbi.cell (by simp)).trans (by simp [go_sem])
        have x2 : wr.cell? ⟨wo.heap.size, 1, none⟩ = some (.int .i64 t) := (hbi.cell (by simp)).trans (by simp [go_sem])
        have hlw : wo.heap.size < wr.heap.size := by omega
        by_cases hlj : j < m
        · obtain ⟨a1, a2⟩ := gv_at D j (by rw [hml.out]; exact hlj)
          rw [Nat.mul_comm] at a1 a2
          have y1 := (hbi.cell (p := ⟨g, j * 2, none⟩) (by show g < _; omega)).trans ((calloc hgl).trans ((own2_cell hown _ (by omega)).trans a1))
          have y2 := (hbi.cell (p := ⟨g, j * 2 + 1, none⟩) (by show g < _; omega)).trans ((calloc hgl).trans ((own2_cell hown _ (by omega)).trans a2))
          have hkn := kn_next D (s, t) j (by rw [hml.out]; exact hlj)
          clear a1 a2
          obtain ⟨u, hu⟩ : ∃ u, (D.getD j (0, 0)).1 = u := ⟨_, rfl⟩
          obtain ⟨v, hv⟩ : ∃ v, (D.getD j (0, 0)).2 = v := ⟨_, rfl⟩
          rw [hu] at y1 hkn
          rw [hv] at y2 hkn
          clear hu hv
          obtain ⟨q, hq⟩ : ∃ q, ((s == u) && (t == v)) = q := ⟨_, rfl⟩
          have hE : ∀ w, Sem.run Try.prog (binOp .eql 58 (.agg #[.int .i64 (s), .int .i64 (t)]) (.agg #[.int .i64 (u), .int .i64 (v)])) w = .ok (.bool q) w := fun w => by rw [gold_eql, hq]
          have hNe : ∀ w, Sem.run Try.prog (binOp .neq 58 (.agg #[.int .i64 (s), .int .i64 (t)]) (.agg #[.int .i64 (u), .int .i64 (v)])) w = .ok (.bool !q) w := fun w => by rw [gold_neq, hq]
          have hGd : ∀ (op : BinOp) (x y : Operand) (w : World), Sem.run Try.prog (eqGuard op 58 x y (.agg #[.int .i64 (s), .int .i64 (t)]) (.agg #[.int .i64 (u), .int .i64 (v)])) w = .ok () w := fun op x y w => gold_grd op x y (s, t) (u, v) w
          rw [hq] at hkn
          have j1 : (0 : Int) ≤ (j : Int) := by omega
          have j2 : (j : Int) < (m : Int) := by omega
          have i8 : IntKind.i64.wrap ((j : Int) + 1) = (j : Int) + 1 := IntWalk.i64_in _ (by omega)
          obtain ⟨r, hr⟩ : ∃ r, kn (D.take j) (s, t) = r := ⟨_, rfl⟩
          rw [hr] at hkn
          rw [hr]
          have hkn' := Lib.hid hkn
          clear hq hr hkn
          have hgi : g < wr.heap.size := by omega
          cases r
          · go_wp2_with fail
            exact ⟨⟨j + 1, by omega, by go_num, by rw [hkn'.out]; simp, hbi.alloc (by omega) _⟩, by simp [intOf]; omega⟩
          · go_wp2_with fail
            exact ⟨⟨j + 1, by omega, by go_num, by rw [hkn'.out]; simp, hbi.alloc (by omega) _⟩, by simp [intOf]; omega⟩
        · obtain rfl : j = m := by omega
          have hke : Hid (kn (D.take j) (s, t) = kn D (s, t)) := by show _ = _; rw [List.take_of_length_le (by rw [hml.out]; omega)]
          rw [hke.out]
          obtain ⟨r, hr2⟩ : ∃ r, kn D (s, t) = r := ⟨_, rfl⟩
          have hr' := Lib.hid hr2
          rw [hr2]
          have j3 : ¬ (j : Int) < (j : Int) := by omega
          have hbo : Below w.heap.size w wr := Qtrans hbi (by omega) (hbel.alloc (by omega) _)
          have ho : wr.ownsRow w.heap.size 58 2 (.slice (some ⟨g, 0, none⟩) j cm) j (gv D) := own2_below hown (Qtrans hbi (by omega) ((Below.refl _ wo).alloc (Nat.le_refl _) _))
          have hrS : RG wr (some ⟨gS, 0, none⟩) n S := rG_below (rG_alloc hr) (by simp) hbi
          cases r
          · have hPut := fun w => l15Put_any w.heap.size g j cm D (s, t) w
            have h1 := hbgk.out
            have h2 := hbgx.out
            go_wp2_with (go_at_call 93; refine (l15Put_any w.heap.size g j cm D (s, t) wr (by omega) (by omega) h1 h2 ho).mono ?_; rintro e w5 ⟨g5, c5, rfl, ho5, hb5⟩)
            have e1 : kdS D (s, t) = gput D (s, t) := by unfold kdS; rw [if_neg (by rw [hr'.out]; simp)]
            have hz5 := hb5.size
            exact ⟨⟨k + 1, g5, j + 1, c5, by omega, by go_num, rfl, Lib.hid (by rw [hnext.out, e1, gput_len, hml.out]), by omega, by rw [hnext.out, e1]; exact ho5, rG_below hrS (Nat.le_refl _) hb5, Qtrans hb5 (by omega) hbo, by omega⟩, by simp [intOf]; omega⟩
          · go_wp2_with fail
            have e1 : kdS D (s, t) = D := by unfold kdS; rw [if_pos hr'.out]
            exact ⟨⟨k + 1, g, j, cm, by omega, by go_num, rfl, Lib.hid (by rw [hnext.out, e1, hml.out]), by omega, by rw [hnext.out, e1]; exact ho, hrS, hbo, by omega⟩, by simp [intOf]; omega⟩
    · obtain rfl : k = n := by omega
      go_wp2
      go_ret
      have e1 : Hid (kdL a b c d = kd S k) := hkd
      exact ⟨_, cm, by rw [e1.out, hml.out]; rfl, by rw [e1.out, hml.out]; exact hown, hbel⟩
set_option maxRecDepth 20000 in
set_option maxHeartbeats 4000000 in
theorem StepKinds_law (a b c d : Int) (w : World) :
    Calls Try.prog 14 #[.agg #[.int .i64 (a), .int .i64 (b)], .agg #[.int .i64 (c), .int .i64 (d)]] w fun e w' => e = .returned (.bool true) ∧ Below w.heap.size w w' := by
  have hspec := fun (w : World) => specKinds_any a b c d w
  have himpl := fun (w : World) => implKinds_any a b c d w
  have hLl := kdL_len a b c d
  obtain ⟨L, hL⟩ : ∃ L, kdL a b c d = L := ⟨_, rfl⟩
  rw [hL] at hspec himpl hLl
  obtain ⟨m, hm⟩ : ∃ m, L.length = m := ⟨_, rfl⟩
  rw [hm] at hspec himpl hLl
  clear hL hm
  go_enter Try.func14, Try.ntmps14
  go_upto_region 1 with fail
  go_cut [5] from 10 to 14 (fun s7 w3 => ∃ x cp, s7 = .slice x m cp ∧ w3.ownsRow (w.heap.size + 2) 58 2 (.slice x m cp) m (gv L) ∧ Below (w.heap.size + 2) ((w.alloc (.cells #[.int .i64 a, .int .i64 b] 55)).alloc (.cells #[.int .i64 c, .int .i64 d] 55)) w3)
  case first =>
    go_region_held3 (fun wx => (∀ bk ofs, bk < w.heap.size + 2 → wx.cell? ⟨bk, ofs, none⟩ = (((w.alloc (.cells #[.int .i64 a, .int .i64 b] 55)).alloc (.cells #[.int .i64 c, .int .i64 d] 55))).cell? ⟨bk, ofs, none⟩) ∧ Below (w.heap.size + 2) (((w.alloc (.cells #[.int .i64 a, .int .i64 b] 55)).alloc (.cells #[.int .i64 c, .int .i64 d] 55))) wx) ((refine stays ?_; ((repeat (first | with_reducible exact Below.refl _ _ | assumption | with_reducible refine Qdrew ?_ | with_reducible refine QdrewN ?_ | ((with_reducible refine Qset ?_ ?_); exact (by ((try simp only [World.size_alloc, World.size_setCell, World.size_drew, size_drewN]); (try dsimp only); omega))) | ((with_reducible refine Qalloc ?_ ?_); exact (by ((try simp only [World.size_alloc, World.size_setCell, World.size_drew, size_drewN]); (try dsimp only); omega))) | refine Qtrans (by assumption) (by ((try simp only [World.size_alloc, World.size_setCell, World.size_drew, size_drewN]); (try dsimp only); omega)) ?_)) <;> (go_split_ands; assumption)))) (first | (go_at_call 42; refine (toGold_any _ _ _).mono ?_; rintro e w1 ⟨rfl, hb1⟩; have hz1 := hb1.size; (try simp at hz1); obtain ⟨hc1, hf1⟩ := bcellK (w := w) 2 hb1 (by ((try simp only [World.size_alloc, World.size_setCell, World.size_drew, size_drewN]); (try dsimp only); omega)); have hl1 := ltK (n := w.heap.size) (p := 2) (w1 := w1) (by omega); (try (have tk1 := trackAlloc hb1 (by ((try simp only [World.size_alloc, World.size_setCell, World.size_drew, size_drewN]); (try dsimp only); omega)); try simp only [World.size_alloc, World.size_drew] at tk1)); (try (have tk2 := trackAllocD hb1 (by ((try simp only [World.size_alloc, World.size_setCell, World.size_drew, size_drewN]); (try dsimp only); omega)); try simp only [World.size_alloc, World.size_drew] at tk2)); (try have tk3 := trackNext hb1 (by assumption) (by ((try simp only [World.size_alloc, World.size_setCell, World.size_drew, size_drewN]); (try dsimp only); omega)))) | (go_at_call 51; with_reducible refine (hspec _).mono ?_; rintro e w1 ⟨x5, c5, rfl, o5, hb1⟩; have hz1 := hb1.size; (try simp at hz1); obtain ⟨hc1, hf1⟩ := bcellK (w := w) 2 hb1 (by ((try simp only [World.size_alloc, World.size_setCell, World.size_drew, size_drewN]); (try dsimp only); omega)); have hl1 := ltK (n := w.heap.size) (p := 2) (w1 := w1) (by omega); (try (have tk1 := trackAlloc hb1 (by ((try simp only [World.size_alloc, World.size_setCell, World.size_drew, size_drewN]); (try dsimp only); omega)); try simp only [World.size_alloc, World.size_drew] at tk1)); (try (have tk2 := trackAllocD hb1 (by ((try simp only [World.size_alloc, World.size_setCell, World.size_drew, size_drewN]); (try dsimp only); omega)); try simp only [World.size_alloc, World.size_drew] at tk2)); (try have tk3 := trackNext hb1 (by assumption) (by ((try simp only [World.size_alloc, World.size_setCell, World.size_drew, size_drewN]); (try dsimp only); omega)))))
    all_goals (go_wp2_with fail; go_meet; exact ⟨_, _, rfl, own2_mono o5 (by omega), by (repeat (first | with_reducible exact Below.refl _ _ | assumption | with_reducible refine Qdrew ?_ | with_reducible refine QdrewN ?_ | ((with_reducible refine Qset ?_ ?_); exact (by ((try simp only [World.size_alloc, World.size_setCell, World.size_drew, size_drewN]); (try dsimp only); omega))) | ((with_reducible refine Qalloc ?_ ?_); exact (by ((try simp only [World.size_alloc, World.size_setCell, World.size_drew, size_drewN]); (try dsimp only); omega))) | refine Qtrans (by assumption) (by ((try simp only [World.size_alloc, World.size_setCell, World.size_drew, size_drewN]); (try dsimp only); omega)) ?_))⟩)
  case rest =>
    rename World => w3
    obtain ⟨x3, c3, rfl, o3, hb3⟩ := hcut
    have z3 := hb3.size
    simp only [World.size_alloc] at z3
    have r3 := rG_own o3 (by omega)
    have k0 : w3.cell? ⟨w.heap.size, 0, none⟩ = some (.int .i64 a) := (hb3.cell (by simp)).trans (by simp [go_sem])
    have k1 : w3.cell? ⟨w.heap.size, 1, none⟩ = some (.int .i64 b) := (hb3.cell (by simp)).trans (by simp [go_sem])
    have k2 : w3.cell? ⟨w.heap.size + 1, 0, none⟩ = some (.int .i64 c) := (hb3.cell (by simp)).trans (by simp [go_sem])
    have k3 : w3.cell? ⟨w.heap.size + 1, 1, none⟩ = some (.int .i64 d) := (hb3.cell (by simp)).trans (by simp [go_sem])
    have hbw0 : w.heap.size < w3.heap.size := by omega
    have hbw1 : w.heap.size + 1 < w3.heap.size := by omega
    go_upto_region 2 with fail
    go_cut [6] from 15 to 19 (fun s8 w5 => ∃ x cp, s8 = .slice x m cp ∧ w5.ownsRow w3.heap.size 58 2 (.slice x m cp) m (gv L) ∧ Below w3.heap.size w3 w5)
    case first =>
      go_region_held3 (fun wx => (∀ bk ofs, bk < w3.heap.size → wx.cell? ⟨bk, ofs, none⟩ = (w3).cell? ⟨bk, ofs, none⟩) ∧ Below (w3.heap.size) (w3) wx) ((refine stays ?_; ((repeat (first | with_reducible exact Below.refl _ _ | assumption | with_reducible refine Qdrew ?_ | with_reducible refine QdrewN ?_ | ((with_reducible refine Qset ?_ ?_); exact (by ((try simp only [World.size_alloc, World.size_setCell, World.size_drew, size_drewN]); (try dsimp only); omega))) | ((with_reducible refine Qalloc ?_ ?_); exact (by ((try simp only [World.size_alloc, World.size_setCell, World.size_drew, size_drewN]); (try dsimp only); omega))) | refine Qtrans (by assumption) (by ((try simp only [World.size_alloc, World.size_setCell, World.size_drew, size_drewN]); (try dsimp only); omega)) ?_)) <;> (go_split_ands; assumption)))) (first | (go_at_call 42; with_reducible refine (toGold_any _ _ _).mono ?_; rintro e w6 ⟨rfl, hb6⟩; obtain ⟨hc6, hf6⟩ := bcell hb6; have hl6 := ltW hb6; have hz6 := hb6.size; (try simp only [World.size_drew] at hz6)) | (go_at_call 52; with_reducible refine (himpl _).mono ?_; rintro e w6 ⟨x5, c5, rfl, o5, hb6⟩; obtain ⟨hc6, hf6⟩ := bcell hb6; have hl6 := ltW hb6; have hz6 := hb6.size; (try simp only [World.size_drew] at hz6)))
      all_goals (go_wp2_with fail; go_meet; exact ⟨_, _, rfl, own2_mono o5 (by omega), by (repeat (first | with_reducible exact Below.refl _ _ | assumption | with_reducible refine Qdrew ?_ | with_reducible refine QdrewN ?_ | ((with_reducible refine Qset ?_ ?_); exact (by ((try simp only [World.size_alloc, World.size_setCell, World.size_drew, size_drewN]); (try dsimp only); omega))) | ((with_reducible refine Qalloc ?_ ?_); exact (by ((try simp only [World.size_alloc, World.size_setCell, World.size_drew, size_drewN]); (try dsimp only); omega))) | refine Qtrans (by assumption) (by ((try simp only [World.size_alloc, World.size_setCell, World.size_drew, size_drewN]); (try dsimp only); omega)) ?_))⟩)
    case rest =>
      rename World => w5
      obtain ⟨x5, c5, rfl, o5, hb5⟩ := hcut
      have z5 := hb5.size
      have r5 := rG_below r3 (Nat.le_refl _) hb5
      have q5 := rG_own o5 (by omega)
      have e5 : ∀ k, (Value.slice x5 m c5).ownBlock = some k → w3.heap.size ≤ k := fun k hk => (o5.lt k hk).1
      have e3 : ∀ b off, x3 = some ⟨b, off, none⟩ → b < w3.heap.size := fun b off q => by subst q; exact (o3.lt b rfl).2
      have u0 : w5.cell? ⟨w.heap.size, 0, none⟩ = some (.int .i64 a) := (hb5.cell (by show w.heap.size < _; omega)).trans k0
      have u1 : w5.cell? ⟨w.heap.size, 1, none⟩ = some (.int .i64 b) := (hb5.cell (by show w.heap.size < _; omega)).trans k1
      have u2 : w5.cell? ⟨w.heap.size + 1, 0, none⟩ = some (.int .i64 c) := (hb5.cell (by show w.heap.size + 1 < _; omega)).trans k2
      have u3 : w5.cell? ⟨w.heap.size + 1, 1, none⟩ = some (.int .i64 d) := (hb5.cell (by show w.heap.size + 1 < _; omega)).trans k3
      go_wp2_with (go_at_call 44; refine (eqGoldS_same _ _ _ _ _ _ _ q5 r5).mono ?_; rintro e w10 ⟨rfl, hb10⟩)
      have z10 := hb10.size
      have r10 := rG_below r5 (Nat.le_refl _) hb10
      have o510 := own2_below o5 hb10
      have d10 : Below w.heap.size w w10 := Qtrans hb10 (by omega) (Qtrans hb5 (by omega) (Qtrans hb3 (by omega) (((Below.refl _ w).alloc (Nat.le_refl _) _).alloc (by simp) _)))
      go_at_call 45
      refine (markGoldS_any _ _ _ 1 _ _ _ o510 (by omega)).mono ?_
      rintro e w11 ⟨rfl, o511, hg11⟩
      have z11 := hg11.size
      have r11 := rG_grownBy r10 hg11 (fun b off q q2 => by have := e3 b off q; have := e5 b q2.symm; omega)
      have q11 := rG_own o511 (by omega)
      have d11 : Below w.heap.size w w11 := d10.grown hg11 (by omega) (fun k hk => by have := e5 k hk; omega)
      have hne : ∀ i, i ≤ w.heap.size + 1 → some i ≠ (Value.slice x5 m c5).ownBlock := fun i hi q => by have := e5 i q.symm; omega
      have v0 : w11.cell? ⟨w.heap.size, 0, none⟩ = some (.int .i64 a) := (hg11.cell_far _ (by show w.heap.size < _; omega) (hne _ (by show w.heap.size ≤ _; omega))).trans ((hb10.cell (by show w.heap.size < _; omega)).trans u0)
      have v1 : w11.cell? ⟨w.heap.size, 1, none⟩ = some (.int .i64 b) := (hg11.cell_far _ (by show w.heap.size < _; omega) (hne _ (by show w.heap.size ≤ _; omega))).trans ((hb10.cell (by show w.heap.size < _; omega)).trans u1)
      have v2 : w11.cell? ⟨w.heap.size + 1, 0, none⟩ = some (.int .i64 c) := (hg11.cell_far _ (by show w.heap.size + 1 < _; omega) (hne _ (by show w.heap.size + 1 ≤ _; omega))).trans ((hb10.cell (by show w.heap.size + 1 < _; omega)).trans u2)
      have v3 : w11.cell? ⟨w.heap.size + 1, 1, none⟩ = some (.int .i64 d) := (hg11.cell_far _ (by show w.heap.size + 1 < _; omega) (hne _ (by show w.heap.size + 1 ≤ _; omega))).trans ((hb10.cell (by show w.heap.size + 1 < _; omega)).trans u3)
      have hbx0 : w.heap.size < w11.heap.size := by omega
      have hbx1 : w.heap.size + 1 < w11.heap.size := by omega
      clear u0 u1 u2 u3 k0 k1 k2 k3
      go_upto_region 13 with ((go_at_call 46; refine (heldGoldS_any _ _ _ 1 _ q11 (by omega)).mono ?_; rintro e w1 ⟨rfl, rfl⟩))
      go_cut [9] from 35 to 39 (fun s11 w13 => ∃ x cp, s11 = .slice x m cp ∧ w13.ownsRow w11.heap.size 58 2 (.slice x m cp) m (gv L) ∧ Below w11.heap.size w11 w13)
      case first =>
        go_region_held3 (fun wx => (∀ bk ofs, bk < w11.heap.size → wx.cell? ⟨bk, ofs, none⟩ = (w11).cell? ⟨bk, ofs, none⟩) ∧ Below (w11.heap.size) (w11) wx) ((refine stays ?_; ((repeat (first | with_reducible exact Below.refl _ _ | assumption | with_reducible refine Qdrew ?_ | with_reducible refine QdrewN ?_ | ((with_reducible refine Qset ?_ ?_); exact (by ((try simp only [World.size_alloc, World.size_setCell, World.size_drew, size_drewN]); (try dsimp only); omega))) | ((with_reducible refine Qalloc ?_ ?_); exact (by ((try simp only [World.size_alloc, World.size_setCell, World.size_drew, size_drewN]); (try dsimp only); omega))) | refine Qtrans (by assumption) (by ((try simp only [World.size_alloc, World.size_setCell, World.size_drew, size_drewN]); (try dsimp only); omega)) ?_)) <;> (go_split_ands; assumption)))) (first | (go_at_call 42; with_reducible refine (toGold_any _ _ _).mono ?_; rintro e w6 ⟨rfl, hb6⟩; obtain ⟨hc6, hf6⟩ := bcell hb6; have hl6 := ltW hb6; have hz6 := hb6.size; (try simp only [World.size_drew] at hz6)) | (go_at_call 52; with_reducible refine (himpl _).mono ?_; rintro e w6 ⟨x5, c5, rfl, o5, hb6⟩; obtain ⟨hc6, hf6⟩ := bcell hb6; have hl6 := ltW hb6; have hz6 := hb6.size; (try simp only [World.size_drew] at hz6)))
        all_goals (go_wp2_with fail; go_meet; exact ⟨_, _, rfl, own2_mono o5 (by omega), by (repeat (first | with_reducible exact Below.refl _ _ | assumption | with_reducible refine Qdrew ?_ | with_reducible refine QdrewN ?_ | ((with_reducible refine Qset ?_ ?_); exact (by ((try simp only [World.size_alloc, World.size_setCell, World.size_drew, size_drewN]); (try dsimp only); omega))) | ((with_reducible refine Qalloc ?_ ?_); exact (by ((try simp only [World.size_alloc, World.size_setCell, World.size_drew, size_drewN]); (try dsimp only); omega))) | refine Qtrans (by assumption) (by ((try simp only [World.size_alloc, World.size_setCell, World.size_drew, size_drewN]); (try dsimp only); omega)) ?_))⟩)
      case rest =>
        rename World => w13
        obtain ⟨x13, c13, rfl, o13, hb13⟩ := hcut
        have z13 := hb13.size
        have r13 := rG_below r11 (Nat.le_refl _) hb13
        have q13 := rG_below q11 (Nat.le_refl _) hb13
        have p13 := rG_own o13 (by omega)
        go_wp2_with (go_at_call 44; refine (eqGoldS_same _ _ _ _ _ _ _ p13 r13).mono ?_; rintro e w14 ⟨rfl, hb14⟩)
        have z14 := hb14.size
        have q14 := rG_below q13 (Nat.le_refl _) hb14
        go_wp2_with ((go_at_call 46; refine (heldGoldS_any _ _ _ 1 _ q14 (by omega)).mono ?_; rintro e w1 ⟨rfl, rfl⟩))
        go_ret
        exact ⟨rfl, Qtrans hb14 (by omega) (Qtrans hb13 (by omega) d11)⟩
end Go.Proofs.Ytfbcbfimhgaicaa
