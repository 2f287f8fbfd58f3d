/- Parts of parents: the walks. -/
import Derived.Test.YtilbhingfnjppabPPA
import Derived.Deep.Onto
set_option linter.unusedSimpArgs false
set_option linter.unusedVariables false
namespace Go.Proofs.Ytilbhingfnjppab
open Go.RowKit
def pM (zs : List ByteArray) (s : ByteArray) : Nat := min (mx zs) (s.size + 1)
noncomputable def ppr (zs : List ByteArray) (s : ByteArray) : List (List ByteArray) := prs zs s (mx zs) (pM zs s)
theorem mx_le (zs : List ByteArray) (N : Nat) (h : ∀ z ∈ zs, z.size ≤ N) : mx zs ≤ N := by
  have key : ∀ (l : List ByteArray) (m : Nat), m ≤ N → (∀ z ∈ l, z.size ≤ N) → l.foldl (fun m z => max m z.size) m ≤ N := by
    intro l
    induction l with
    | nil => intro m hm _; exact hm
    | cons a l ih =>
      intro m hm hl
      exact ih _ (by have := hl a (by simp); show max m a.size ≤ N; omega) (fun z hz => hl z (by simp [hz]))
  exact key zs 0 (by omega) h
theorem oss_mono {w : World} {B B' g n cap : Nat} {L : List (List ByteArray)} (h : OSS w B g n cap L) (hB : B' ≤ B) : OSS w B' g n cap L := by
  obtain ⟨V, f, h1, h2, h3, h4⟩ := h
  exact ⟨V, f, h1, h2.mono hB, fun j hj => by obtain ⟨q1, q2, q3, q4⟩ := h3 j hj; exact ⟨q1, q2, q3.mono hB, q4⟩, h4⟩
theorem heap_new2 (w : World) (a b : Obj) : ((w.alloc a).alloc b).drew.heap[w.heap.size + 1]? = some b := by
  have := heap_alloc_new (w.alloc a) b
  rw [World.size_alloc] at this
  exact this
set_option maxRecDepth 20000 in
set_option maxHeartbeats 4000000 in
theorem implPart_any (x : Option Addr) (n cap : Nat) (zs : List ByteArray) (s : ByteArray) (w : World) (h : IsStrs w x n cap zs) (hn : n ≤ 1048576) (hS : sB zs = true) (hW : isWB s = true) :
    Calls Try.prog 18 #[.agg #[.slice x n cap], .string s] w fun e w' => ∃ g c, e = .returned (.slice (some ⟨g, 0, none⟩) (ppr zs s).length c) ∧ OSS w' w.heap.size g (ppr zs s).length c (ppr zs s) ∧ Below w.heap.size w w' := by
  obtain ⟨i0, hi0, hz0, hz1, hz2⟩ := info_parts infoSS
  have hlen := h.1
  obtain ⟨hn4, hz8⟩ := s_bounds hlen hS
  have hs400 := (isW_of hW).1
  have hs63 : s.size ≤ 9223372036854775807 := by omega
  have hb0 : Below w.heap.size w (w.alloc (.cells #[.slice x n cap] 25)) := (Below.refl _ w).alloc (Nat.le_refl _) _
  have h' := isStrs_below h (Nat.le_refl _) hb0
  have hk : (sB zs && isWB s) = true := by rw [hS, hW]; rfl
  have hz8' : ∀ z ∈ zs, z.size ≤ 8 := by
    intro z hz
    obtain ⟨j, hj, e⟩ := List.getElem_of_mem hz
    have := hz8 j (by omega)
    rwa [show zs.getD j ByteArray.empty = z by simp [List.getD_eq_getElem?_getD, hj, e]] at this
  have hm8 := mx_le zs 8 hz8'
  have hmt : ∀ k, mx (zs.take k) ≤ 8 := fun k => mx_le _ 8 (fun z hz => hz8' z (List.mem_of_mem_take hz))
  have hmt' := Lib.hid hmt
  have hc0 := fun (k r : Nat) (w : World) (q : IsStrs w x n cap zs) => pv_eq zs (midS s k r) ▸ implParent_ok x n cap zs (midS s k r) w q hS (by unfold midS; rw [ByteArray.size_extract]; omega) (by unfold midS; exact isW_ext (isW_of hW) _ _)
  have hc := Lib.hid hc0
  clear hmt hz8' hc0 hz8 h
  go_enter Try.func18, Try.ntmps18
  go_wp2_with (first | (go_at_call 32; refine (implSubstOk_any _ _ _ _ _ h' hn).mono ?_; rintro e w1 ⟨rfl, hb1⟩; obtain ⟨hc1, hf1⟩ := bcell hb1; have hl1 : w.heap.size < w1.heap.size := (by have := hb1.size; simp only [World.size_alloc] at this; omega)) | (go_at_call 62; refine (isWord_any _ _ hs63).mono ?_; rintro e w1 ⟨rfl, rfl⟩))
  have hst := isStrs_below h' (Nat.le_refl _) hb1
  have hcB : w1.cell? ⟨w.heap.size, 0, none⟩ = some (.slice x n cap) := (hb1.cell (by simp)).trans (by simp [go_sem])
  have hz1' := hb1.size
  simp only [World.size_alloc] at hz1'
  have hbA : Below w.heap.size w w1 := Qtrans hb1 (by simp) hb0
  clear hb1 hc1 hf1 h' hb0
  have hstL : IsStrs (w1.alloc (.cells #[] 23)) x n cap zs := isStrs_below hst (Nat.le_refl _) (by (repeat (first | with_reducible exact Below.refl _ _ | assumption | with_reducible refine Qdrew ?_ | with_reducible refine QdrewN ?_ | ((with_reducible refine Qset ?_ ?_); exact (by ((try simp only [World.size_alloc, World.size_setCell, World.size_drew, size_drewN]); (try dsimp only); omega))) | ((with_reducible refine Qalloc ?_ ?_); exact (by ((try simp only [World.size_alloc, World.size_setCell, World.size_drew, size_drewN]); (try dsimp only); omega))) | refine Qtrans (by assumption) (by ((try simp only [World.size_alloc, World.size_setCell, World.size_drew, size_drewN]); (try dsimp only); omega)) ?_)))
  go_loopw [5, 25] (fun m i wr => ∃ k : Nat, k ≤ n ∧ i = .int .i64 k ∧ m = .int .i64 (mx (zs.take k) : Nat) ∧ (w1.alloc (.cells #[] 23)) = wr) (fun _ i _ => n - (intOf i).toNat)
  case atStart => exact ⟨0, by omega, rfl, rfl, by first | rfl | trivial⟩
  case round =>
    obtain ⟨k, hkn, rfl, rfl, rfl⟩ := hrel
    by_cases hlt : k < n
    · obtain ⟨b, off, rfl, hb, hcl⟩ := isStrs_cell hstL (by omega)
      have hck := hcl k hlt
      have hnext : mx (zs.take (k + 1)) = max (mx (zs.take k)) (zs.getD k ByteArray.empty).size := by rw [take_next zs k ByteArray.empty (by omega), mx_next]
      obtain ⟨z, hzz⟩ : ∃ z, zs.getD k ByteArray.empty = z := ⟨_, rfl⟩
      have hm8k := hmt'.out k
      obtain ⟨m, hm⟩ : ∃ m, mx (zs.take k) = m := ⟨_, rfl⟩
      rw [hzz] at hck hnext
      rw [hm] at hnext hm8k ⊢
      have hnext' := Lib.hid hnext
      have hk0 : (0 : Int) ≤ (k : Int) := by omega
      have hk1 : (k : Int) < (n : Int) := by omega
      clear hzz hm hcl hnext
      go_wp2
      go_roundw
      case rel => exact ⟨k + 1, by omega, by go_num, by rw [hnext'.out]; congr 1; omega, by first | rfl | trivial⟩
      case measure => (simp [intOf]) <;> omega
    · obtain rfl : n = k := by omega
      have ht : zs.take n = zs := List.take_of_length_le (by omega)
      rw [ht]
      have hpm : Hid (ppr zs s = prs zs s (mx zs) (pM zs s)) := rfl
      have hMd : pM zs s = min (mx zs) (s.size + 1) := rfl
      obtain ⟨most, hmost⟩ : ∃ m, mx zs = m := ⟨_, rfl⟩
      obtain ⟨M, hM⟩ : ∃ M, pM zs s = M := ⟨_, rfl⟩
      rw [hM, hmost] at hpm
      rw [hM, hmost] at hMd
      rw [hmost] at hm8 ⊢
      clear ht hM hmost
      have hM1 : M ≤ most := by omega
      have hM2 : M ≤ s.size + 1 := by omega
      have hM3 : M = most ∨ M = s.size + 1 := by omega
      have hMs : ∀ k r : Nat, s.size < k + r → phit zs s k r = false := fun k r hq => by simp [phit]; omega
      have hMs' := Lib.hid hMs
      have hpl := Lib.hid (fun k => prs_len zs s most k)
      have hMi : min (most : Int) ((s.size : Int) + 1) = (M : Int) := by omega
      clear hMs hMd
      skip
      go_wp2_with fail
      go_loopw [6, 39] (fun out kk wr => ∃ (k g c N : Nat) (L : List (List ByteArray)), k ≤ M ∧ kk = .int .i64 k ∧ out = .slice (some ⟨g, 0, none⟩) N c ∧ Hid (prs zs s most k = L) ∧ N ≤ k ∧ OSS wr w1.heap.size g N c L ∧ Below w1.heap.size w1 wr) (fun _ kk _ => M - (intOf kk).toNat)
      case atStart => exact ⟨0, w1.heap.size, 0, 0, [], by omega, rfl, rfl, Lib.hid rfl, by omega, oss_nil w1 _ (Nat.le_refl _), by (repeat (first | with_reducible exact Below.refl _ _ | assumption | with_reducible refine Qdrew ?_ | with_reducible refine QdrewN ?_ | ((with_reducible refine Qset ?_ ?_); exact (by ((try simp only [World.size_alloc, World.size_setCell, World.size_drew, size_drewN]); (try dsimp only); omega))) | ((with_reducible refine Qalloc ?_ ?_); exact (by ((try simp only [World.size_alloc, World.size_setCell, World.size_drew, size_drewN]); (try dsimp only); omega))) | refine Qtrans (by assumption) (by ((try simp only [World.size_alloc, World.size_setCell, World.size_drew, size_drewN]); (try dsimp only); omega)) ?_))⟩
      case round =>
        obtain ⟨k, g, c, N, L, hkM, rfl, rfl, hL, hNk, hoss, hbel⟩ := hrel
        have hzr := hbel.size
        have hk0 : (0 : Int) ≤ (k : Int) := by omega
        by_cases hlt2 : k < M
        · have hk1 : (k : Int) < (most : Int) := by omega
          have hkM1 : (k : Int) < (M : Int) := by omega
          have hk2 : (k : Int) ≤ (s.size : Int) := by omega
          go_wp2_with fail
          go_loopw [6, 10] (fun out rr wi => ∃ r : Nat, r ≤ most ∧ rr = .int .i64 r ∧ out = .slice (some ⟨g, 0, none⟩) N c ∧ Hid (∀ j, j < r → phit zs s k j = false) ∧ OSS wi w1.heap.size g N c L ∧ Below wr.heap.size wr wi) (fun _ rr _ => most - (intOf rr).toNat)
          case atStart => exact ⟨0, by omega, rfl, rfl, Lib.hid (fun j hj => absurd hj (by omega)), hoss, Below.refl _ _⟩
          case round =>
            clear hoss
            obtain ⟨r, hrm, rfl, rfl, hno, hoss, hbel2⟩ := hrel
            have hzi := hbel2.size
            have hr0 : (0 : Int) ≤ (r : Int) := by omega
            have hbA2 : Below w1.heap.size w1 wr := Qtrans hbel2 hzr hbel
            by_cases hin : r < most ∧ k + r ≤ s.size
            · obtain ⟨hr1, hr2⟩ := hin
              have hr3 : (r : Int) < (most : Int) := by omega
              have hr4 : (k : Int) + (r : Int) ≤ (s.size : Int) := by omega
              obtain ⟨q, hq, hqn⟩ : ∃ q : Nat, (s.size : Int) - (r : Int) = (q : Int) ∧ s.size - r = q := ⟨s.size - r, by omega, rfl⟩
              have hq1 : (k : Int) ≤ (q : Int) := by omega
              have hq2 : (q : Int) ≤ (s.size : Int) := by omega
              have hq3 : (0 : Int) ≤ (q : Int) := by omega
              have wq : IntKind.i64.wrap (q : Int) = (q : Int) := IntWalk.i64_in _ (by omega)
              have hcr := fun w => hc.out k r w
              have hrw : Hid (prow zs s k r = [s.extract 0 k, pvS zs (midS s k r), s.extract q s.size]) := by show _ = _; unfold prow; rw [hqn]
              have hph : Hid (phit zs s k r = pvB zs (midS s k r)) := by show _ = _; simp [phit, hr2]
              have hmd : midS s k r = s.extract k q := by unfold midS; rw [hqn]
              rw [hmd] at hcr hrw hph
              obtain ⟨v, hv⟩ : ∃ v, pvS zs (s.extract k q) = v := ⟨_, rfl⟩
              obtain ⟨b, hbb⟩ : ∃ b, pvB zs (s.extract k q) = b := ⟨_, rfl⟩
              rw [hv] at hrw
              rw [hbb] at hph
              rw [hv, hbb] at hcr
              clear hmd hqn hv hbb
              have hcBi : wr.cell? ⟨w.heap.size, 0, none⟩ = some (.slice x n cap) := (hbA2.cell (by show w.heap.size < _; omega)).trans hcB
              have hsti := isStrs_below hst (Nat.le_refl _) hbA2
              have hstd : IsStrs wr.drew x n cap zs := hsti
              have hbw : w.heap.size < wr.heap.size := by omega
              cases b
              · go_wp2_with fail
                go_region_held3 (fun wx => (∀ bk ofs, bk < wr.heap.size → wx.cell? ⟨bk, ofs, none⟩ = (wr).cell? ⟨bk, ofs, none⟩) ∧ Below (wr.heap.size) (wr) wx) ((refine stays ?_; ((repeat (first | with_reducible exact Below.refl _ _ | assumption | with_reducible refine Qdrew ?_ | with_reducible refine QdrewN ?_ | ((with_reducible refine Qset ?_ ?_); exact (by ((try simp only [World.size_alloc, World.size_setCell, World.size_drew, size_drewN]); (try dsimp only); omega))) | ((with_reducible refine Qalloc ?_ ?_); exact (by ((try simp only [World.size_alloc, World.size_setCell, World.size_drew, size_drewN]); (try dsimp only); omega))) | refine Qtrans (by assumption) (by ((try simp only [World.size_alloc, World.size_setCell, World.size_drew, size_drewN]); (try dsimp only); omega)) ?_)) <;> (go_split_ands; assumption)))) (first | (go_at_call 10; refine (hcr _ hstd).mono ?_; rintro e w6 ⟨rfl, hb6⟩; obtain ⟨hc6, hf6⟩ := bcell hb6; have hl6 := ltW hb6; have hz6 := hb6.size; (try simp only [World.size_drew] at hz6)))
                all_goals
                  go_wp2
                  go_roundw
                case rel => exact ⟨r + 1, by omega, by go_num, rfl, Lib.hid (fun j hj => by
                    by_cases e : j = r
                    · subst e; exact hph.out
                    · exact hno.out j (by omega)), oss_below (oss_drew hoss) hb6, by (repeat (first | with_reducible exact Below.refl _ _ | assumption | with_reducible refine Qdrew ?_ | with_reducible refine QdrewN ?_ | ((with_reducible refine Qset ?_ ?_); exact (by ((try simp only [World.size_alloc, World.size_setCell, World.size_drew, size_drewN]); (try dsimp only); omega))) | ((with_reducible refine Qalloc ?_ ?_); exact (by ((try simp only [World.size_alloc, World.size_setCell, World.size_drew, size_drewN]); (try dsimp only); omega))) | refine Qtrans (by assumption) (by ((try simp only [World.size_alloc, World.size_setCell, World.size_drew, size_drewN]); (try dsimp only); omega)) ?_))⟩
                case measure => (simp [intOf]) <;> omega
              · have hpk : Hid (prs zs s most (k + 1) = L ++ [[s.extract 0 k, v, s.extract q s.size]]) := by
                  show _ = _
                  rw [prs, hL.out, ppk_some hr1 hph.out hno.out, hrw.out]
                go_wp2_with fail
                go_region_held3 (fun wx => (∀ bk ofs, bk < wr.heap.size → wx.cell? ⟨bk, ofs, none⟩ = (wr).cell? ⟨bk, ofs, none⟩) ∧ Below (wr.heap.size) (wr) wx) ((refine stays ?_; ((repeat (first | with_reducible exact Below.refl _ _ | assumption | with_reducible refine Qdrew ?_ | with_reducible refine QdrewN ?_ | ((with_reducible refine Qset ?_ ?_); exact (by ((try simp only [World.size_alloc, World.size_setCell, World.size_drew, size_drewN]); (try dsimp only); omega))) | ((with_reducible refine Qalloc ?_ ?_); exact (by ((try simp only [World.size_alloc, World.size_setCell, World.size_drew, size_drewN]); (try dsimp only); omega))) | refine Qtrans (by assumption) (by ((try simp only [World.size_alloc, World.size_setCell, World.size_drew, size_drewN]); (try dsimp only); omega)) ?_)) <;> (go_split_ands; assumption)))) (first | (go_at_call 10; refine (hcr _ hstd).mono ?_; rintro e w6 ⟨rfl, hb6⟩; obtain ⟨hc6, hf6⟩ := bcell hb6; have hl6 := ltW hb6; have hz6 := hb6.size; (try simp only [World.size_drew] at hz6)))
                all_goals
                  have hoss6 := oss_below (oss_drew hoss) hb6
                  obtain ⟨hgB, hgl⟩ := oss_lt hoss6
                  obtain ⟨V, f, hLl, hown, hrows, hinc⟩ := hoss6
                  have hrows' := Lib.hid hrows
                  have hinc' := Lib.hid hinc
                  have hVl : V.length = N := by have := hown.1; omega
                  clear hrows hinc hoss
                  go_wp2_with fail
                  go_region_law (((refine step_append_lies _ (by rfl) _ _ _ (by rfl) (w1.heap.size) 23 i0 _ 1 24 Try.underlying39 hi0 hz0 hz1 hz2 rfl (by decide) (.slice (some ⟨g, 0, none⟩) N c) (N) (V) (by rfl) (((hown.alloc _).alloc _).drew) ⟨w6.heap.size + 1, 0, none⟩ 1 1 [.slice (some ⟨w6.heap.size, 0, none⟩) 3 3] (by rfl) (by rfl) (World.news_of_block (cs := #[.slice (some ⟨w6.heap.size, 0, none⟩) 3 3]) (t := 23) (fr := (0, 0)) (heap_new2 w6 _ _)) (by simp [Value.oneCell']) (by omega) (by unfold maxLen; omega) (by omega) (by simp; omega) (w6.heap.size + 1 + 1) (by simp) ?_; intro gg capA w9 hown9 hgrow hatg hltg)))
                  all_goals
                    have hb9 : Below w1.heap.size w1 w9 := Below.grown ((((Qtrans hb6 (by simp; omega) (Qdrew hbA2)).alloc (by omega) _).alloc (by simp; omega) _).drew) hgrow (by simp; omega) (fun k hk => by cases hk; exact hgB)
                    go_wp2
                    go_roundw
                  case rel => exact ⟨k + 1, gg, capA, N + 1, _, by omega, by go_num, rfl, hpk, by omega, oss_app hLl hrows'.out hinc'.out (by omega) hgl hVl rfl hown9 hgrow hatg, hb9⟩
                  case measure => (simp [intOf]) <;> omega
            · have hpk : Hid (prs zs s most (k + 1) = L) := by
                show _ = _
                rw [prs, hL.out, ppk_none (fun j hj => by
                  by_cases e : j < r
                  · exact hno.out j e
                  · exact hMs'.out k j (by omega)), List.append_nil]
              by_cases hr1 : r < most
              · have hr3 : (r : Int) < (most : Int) := by omega
                have hr4 : ¬ (k : Int) + (r : Int) ≤ (s.size : Int) := by omega
                go_wp2
                go_roundw
                case rel => exact ⟨k + 1, g, c, N, L, by omega, by go_num, rfl, hpk, by omega, hoss, hbA2⟩
                case measure => (simp [intOf]) <;> omega
              · have hr3 : ¬ (r : Int) < (most : Int) := by omega
                go_wp2
                go_roundw
                case rel => exact ⟨k + 1, g, c, N, L, by omega, by go_num, rfl, hpk, by omega, hoss, hbA2⟩
                case measure => (simp [intOf]) <;> omega
        · obtain rfl : M = k := by omega
          have hpp : ppr zs s = L := by rw [hpm.out, hL.out]
          have hLn : L.length = N := by obtain ⟨V, f, q, _⟩ := hoss; exact q
          have hex : ¬ (M : Int) < (M : Int) := by omega
          have hpp' := Lib.hid hpp
          clear hpp
          skip
          all_goals
            go_wp2
            go_ret
            exact ⟨g, c, by rw [hpp'.out, hLn]; rfl, by rw [hpp'.out, hLn]; exact oss_mono hoss (by omega), Qtrans hbel (by omega) hbA⟩
end Go.Proofs.Ytilbhingfnjppab
