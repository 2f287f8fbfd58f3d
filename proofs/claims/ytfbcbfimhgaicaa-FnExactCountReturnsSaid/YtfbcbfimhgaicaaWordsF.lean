/- The walks of the reference's return words. -/
import Derived.Test.YtfbcbfimhgaicaaWordsE
import Derived.Deep.QuietTactic
import Derived.BigQuiet
import Derived.Deep.Onto
set_option linter.unusedSimpArgs false
set_option linter.unusedVariables false
namespace Go.Proofs.Ytfbcbfimhgaicaa
open Go.RowKit
attribute [local go_sem ↓] Go.wp_at_zero Go.wp_at_succ
theorem nat_len (l : List Nat) (x : Option Addr) (cap : Nat) (w : World) (B : Nat) (h : RowN w B x cap l) : NAt w x l.length l := nAt_of h
set_option maxRecDepth 20000 in
set_option maxHeartbeats 4000000 in
theorem l16Words_any (s f : ByteArray) (w : World) (hs : s.size ≤ 9223372036854775807) (hf : f.size ≤ 9223372036854775807) :
    Calls Try.prog 114 #[.string s, .string f] w fun e w' => ∃ g1 c1 g2 c2, e = .returned (.tuple #[.slice (some ⟨g1, 0, none⟩) (R s f).length c1, .slice (some ⟨g2, 0, none⟩) (dd (R s f)).length c2]) ∧ RowS w' w.heap.size (some ⟨g1, 0, none⟩) c1 (R s f) ∧ RowS w' w.heap.size (some ⟨g2, 0, none⟩) c2 (dd (R s f)) ∧ Below w.heap.size w w' := by
  obtain ⟨i0, hi0, hz0, hz1, hz2⟩ := info_parts infoS
  have hn : (P s f).length ≤ 401 := by
    cases hp : pOk s f
    · rw [P_no hp]; simp
    · exact pl_len400 (isW_of (pOk_true hp).1).1
  have hpc := fun w => specPlaces_any s f w hs hf
  have hR : Hid (R s f = rt s (P s f) ((P s f).length - 1)) := rfl
  have hstep := Lib.hid (fun j h => P_step s f j h)
  obtain ⟨N, hN⟩ : ∃ N, P s f = N := ⟨_, rfl⟩
  rw [hN] at hpc hR hn hstep
  obtain ⟨n, hnn⟩ : ∃ n, N.length = n := ⟨_, rfl⟩
  have hnat : ∀ w B x cap, RowN w B x cap N → NAt w x n N := fun w B x cap h => hnn ▸ nAt_of h
  rw [hnn] at hpc hR hn hstep
  have hnat' := Lib.hid hnat
  clear hN hnat
  go_enter Try.func114, Try.ntmps114
  go_wp2_with (go_at_call 135; refine (hpc _).mono ?_; rintro e wA ⟨xa, capa, rfl, hrow, hbA⟩)
  have hat0 := hnat'.out _ _ _ _ hrow
  have hzA := hbA.size
  have ho1 := (World.ownsRow_lit (base := wA.heap.size) (e := 9) (size := 1) wA #[] 0 (Nat.le_refl _) (by decide) rfl).alloc (.cells #[] 9)
  have ho2 := World.ownsRow_lit (base := wA.heap.size) (e := 9) (size := 1) (wA.alloc (.cells #[] 9)) #[] 0 (by simp) (by decide) rfl
  have ho2' : ((wA.alloc (.cells #[] 9)).alloc (.cells #[] 9)).ownsRow wA.heap.size 9 1 (.slice (some ⟨wA.heap.size + 1, 0, none⟩) 0 0) 0 [] := by simpa using ho2
  go_loopw [7, 8, 9] (fun all once i wr => ∃ k g1 c1 g2 c2 : Nat, (k = 0 ∨ k + 1 ≤ n) ∧ i = .int .i64 ((k : Int) + 1) ∧ all = .slice (some ⟨g1, 0, none⟩) k c1 ∧ once = .slice (some ⟨g2, 0, none⟩) (dd (rt s N k)).length c2 ∧ RowS wr wA.heap.size (some ⟨g1, 0, none⟩) c1 (rt s N k) ∧ RowS wr wA.heap.size (some ⟨g2, 0, none⟩) c2 (dd (rt s N k)) ∧ g1 ≠ g2 ∧ g1 < wr.heap.size ∧ g2 < wr.heap.size ∧ wA.heap.size ≤ wr.heap.size ∧ Below wA.heap.size wA wr) (fun _ _ i _ => n + 1 - (intOf i).toNat)
  case atStart => exact ⟨0, wA.heap.size, 0, wA.heap.size + 1, 0, .inl rfl, rfl, rfl, rfl, ho1, rowS_mk ho2' rfl rfl, by omega, by ((try simp only [World.size_alloc, World.size_setCell, World.size_drew, size_drewN]); (try dsimp only); omega), by ((try simp only [World.size_alloc, World.size_setCell, World.size_drew, size_drewN]); (try dsimp only); omega), by ((try simp only [World.size_alloc, World.size_setCell, World.size_drew, size_drewN]); (try dsimp only); omega), by (repeat (first | with_reducible exact Below.refl _ _ | assumption | with_reducible refine Qdrew ?_ | with_reducible refine QdrewN ?_ | ((with_reducible refine Qset ?_ ?_); exact (by ((try simp only [World.size_alloc, World.size_setCell, World.size_drew, size_drewN]); (try dsimp only); omega))) | ((with_reducible refine Qalloc ?_ ?_); exact (by ((try simp only [World.size_alloc, World.size_setCell, World.size_drew, size_drewN]); (try dsimp only); omega))) | refine Qtrans (by assumption) (by ((try simp only [World.size_alloc, World.size_setCell, World.size_drew, size_drewN]); (try dsimp only); omega)) ?_))⟩
  case round =>
    clear ho1 ho2 ho2' hrow
    obtain ⟨k, g1, c1, g2, c2, hk, rfl, rfl, rfl, hown1, hown2, hne, hl1, hl2, hz, hbel⟩ := hrel
    by_cases hlt : k + 1 < n
    · obtain ⟨hs1, hs2⟩ := hstep.out k hlt
      have hat := nAt_below hat0 (Nat.le_refl _) hbel
      rcases hat.2 with h0 | ⟨b, rfl, hbl, hc⟩
      · omega
      have hc1 := hc k (by omega)
      have hc2 := hc (k + 1) hlt
      have hnext := rt_succ s N k
      have hddl := ddl (rt s N k)
      rw [rt_len] at hddl
      have hsm := rt_small (s := s) hs N k
      obtain ⟨a, ha⟩ : ∃ a, N.getD k 0 = a := ⟨_, rfl⟩
      obtain ⟨c, hcc⟩ : ∃ c, N.getD (k + 1) 0 = c := ⟨_, rfl⟩
      rw [ha] at hc1 hs1 hnext
      rw [hcc] at hc2 hs1 hs2 hnext
      have hk9 : IntKind.i64.wrap (k : Int) = (k : Int) := by rw [IntWalk.i64_left, IntWalk.wrap64_in]; omega
      have f1 : (0 : Int) ≤ (k : Int) := by omega
      have f2 : (k : Int) < (n : Int) := by omega
      have f3 : (0 : Int) ≤ (k : Int) + 1 := by omega
      have f4 : (k : Int) + 1 < (n : Int) := by omega
      have f5 : (0 : Int) ≤ (a : Int) := by omega
      have f6 : (a : Int) ≤ (c : Int) := by omega
      have f7 : (c : Int) ≤ (s.size : Int) := by omega
      have ho1 : wr.ownsRow wA.heap.size 9 1 (.slice (some ⟨g1, 0, none⟩) k c1) k (sv (rt s N k)) := by have := hown1; unfold RowS at this; rw [rt_len] at this; exact this
      obtain ⟨D, hD⟩ : ∃ D, dd (rt s N k) = D := ⟨_, rfl⟩
      have hdn : dd (rt s N (k + 1)) = ins D (s.extract a c) := by rw [hnext, dd_next, hD]
      rw [hD] at hown2 hddl ⊢
      have hDs : ∀ z ∈ D, z.size ≤ maxLen := by rw [← hD]; exact dd_small hsm
      have hDs' := Lib.hid hDs
      have hnext' := Lib.hid hnext
      have hdn' := Lib.hid hdn
      have hsm' := Lib.hid hsm
      clear ha hcc hc hown1 hD hnext hdn hDs hsm
      go_wp2_with fail
      go_quiet (fail)
      go_wp2_with (at_builtin; refine wpList_append_lies _ rfl _ _ _ rfl (wA.heap.size) 9 i0 _ 1 16 Try.underlying34 hi0 hz0 hz1 hz2 rfl (by decide) (.slice (some ⟨g1, 0, none⟩) k c1) (k) (sv (rt s N k)) (by rfl) (ho1.alloc _) ⟨(wr).heap.size, 0, none⟩ 1 1 [.string (s.extract a c)] (by rfl) (by rfl) (World.news_of_block (cs := #[.string (s.extract a c)]) (t := 9) (fr := (0, 0)) (heap_alloc_new (wr) _)) (by simp [Value.oneCell']) (by omega) (by unfold maxLen; omega) (by omega) (by simp; omega) ((wr).heap.size + 1) (by simp) ?_; intro gg cap w1 hown1 hgrow hatg hltg)
      have hne2 : (Value.slice (some ⟨g2, 0, none⟩) D.length c2).ownBlock ≠ some g1 := by simp [Value.ownBlock]; omega
      have hk2 : w1.ownsRow wA.heap.size 9 1 (.slice (some ⟨g2, 0, none⟩) D.length c2) D.length (sv D) := kept_alloc (wr := wr.drewN nq) hown2 hgrow hne2
      have hst := rowS_strs (show RowS w1 wA.heap.size (some ⟨g2, 0, none⟩) c2 D from hk2) hDs'.out
      have hzw1 : wr.heap.size < w1.heap.size := size_app (wr := wr.drewN nq) hgrow
      have hb1 : Below wA.heap.size wA w1 := below_app (wr := wr.drewN nq) (QdrewN hbel) (by simpa using hz) ho1 hgrow
      have hne' : gg ≠ g2 := ne_app hne hl2 hatg
      by_cases hx : Lib.idxOfS D (s.extract a c) < 0
      · have hin : Lib.containsS D (s.extract a c) = false := by simp only [Lib.containsS]; exact decide_eq_false (by omega)
        have hdn2 := Lib.hid (hdn'.out.trans (ins_out hin))
        go_wp2_with (first | (go_at_call 136; refine (l06At_any _ _ _ _ _ _ hst).mono ?_; rintro e w1 ⟨rfl, rfl⟩) | (at_builtin; refine wpList_append_lies _ rfl _ _ _ rfl (wA.heap.size) 9 i0 _ 1 16 Try.underlying34 hi0 hz0 hz1 hz2 rfl (by decide) (.slice (some ⟨g2, 0, none⟩) D.length c2) (D.length) (sv D) (by rfl) (hk2.alloc _) ⟨(w1).heap.size, 0, none⟩ 1 1 [.string (s.extract a c)] (by rfl) (by rfl) (World.news_of_block (cs := #[.string (s.extract a c)]) (t := 9) (fr := (0, 0)) (heap_alloc_new (w1) _)) (by simp [Value.oneCell']) (by omega) (by unfold maxLen; omega) (by omega) (by simp; omega) ((w1).heap.size + 1) (by simp) ?_; intro gg2 cap2 w2 hownN2 hgrow2 hatg2 hltg2))
        have hne1 : (Value.slice (some ⟨gg, 0, none⟩) (k + 1) cap).ownBlock ≠ some g2 := by simp [Value.ownBlock]; omega
        go_roundw
        case rel => exact ⟨k + 1, gg, cap, gg2, cap2, .inr (by omega), by go_num, rfl, by rw [hdn2.out, List.length_append]; rfl, rowS_mk (kept_alloc hown1 hgrow2 hne1) (by rw [rt_len]) (by rw [hnext'.out, sv_snoc]), rowS_mk hownN2 (by rw [hdn2.out, List.length_append]; rfl) (by rw [hdn2.out, sv_snoc]), Ne.symm (ne_app (Ne.symm hne') hltg hatg2), by have := size_app hgrow2; omega, hltg2, by have := size_app hgrow2; omega, below_app hb1 (by omega) hk2 hgrow2⟩
        case measure => (simp [intOf]) <;> omega
      · have hin : Lib.containsS D (s.extract a c) = true := by simp only [Lib.containsS]; exact decide_eq_true (by omega)
        have hdn2 := Lib.hid (hdn'.out.trans (ins_in hin))
        go_wp2_with (first | (go_at_call 136; refine (l06At_any _ _ _ _ _ _ hst).mono ?_; rintro e w1 ⟨rfl, rfl⟩))
        go_roundw
        case rel => exact ⟨k + 1, gg, cap, g2, c2, .inr (by omega), by go_num, rfl, by rw [hdn2.out], rowS_mk hown1 (by rw [rt_len]) (by rw [hnext'.out, sv_snoc]), by rw [hdn2.out]; exact hk2, hne', hltg, by omega, by omega, hb1⟩
        case measure => (simp [intOf]) <;> omega
    · have hR' : Hid (R s f = rt s N k) := by
        show _ = _
        rw [hR.out]
        rcases hk with rfl | hk
        · congr 1; omega
        · congr 1; omega
      have hlt' : ¬ (k : Int) + 1 < (n : Int) := by omega
      have hz0 : w.heap.size ≤ wr.heap.size := by omega
      go_wp2
      refine bodyPost_ret (v := .tuple #[.slice (some ⟨g1, 0, none⟩) k c1, .slice (some ⟨g2, 0, none⟩) (dd (rt s N k)).length c2]) (by simp [results, Try.results114, go_sem, *]) rfl ⟨g1, c1, g2, c2, by rw [hR'.out, rt_len], ?_, ?_, Qtrans hbel hzA hbA⟩
      · rw [hR'.out]; exact World.ownsRow.mono hown1 hzA
      · rw [hR'.out]; exact World.ownsRow.mono hown2 hzA
end Go.Proofs.Ytfbcbfimhgaicaa
