/- The walks of lists of return words. -/
import Derived.Test.YtilbhingfnjppabWordsC
import Derived.Deep.RegionLaw
set_option linter.unusedSimpArgs false
set_option linter.unusedVariables false
namespace Go.Proofs.Ytilbhingfnjppab
open Go.RowKit
attribute [local go_sem ↓] Go.wp_at_zero Go.wp_at_succ
theorem pl_len400 {s f : ByteArray} (h : s.size ≤ 400) : (P s f).length ≤ 401 := by
  unfold P; split
  · have := pl_le s f (s.size + 1 - f.size); unfold places; omega
  · simp
theorem placesIn_P (s f : ByteArray) (w : World) (hp : pOk s f = true) :
    Calls Try.prog 72 #[.string s, .string f] w fun e w' => ∃ g cap, e = .returned (.slice (some ⟨g, 0, none⟩) (P s f).length cap) ∧ w.heap.size ≤ g ∧ g < w'.heap.size ∧ NAt w' (some ⟨g, 0, none⟩) (P s f).length (P s f) ∧ Below w.heap.size w w' := by
  obtain ⟨h1, h2, h3⟩ := pOk_true hp
  rw [P_yes hp]
  exact (placesIn_any s f w (isW_of h1).1 (isW_of h2).1).mono fun e w' ⟨g, cap, he, hown, hb⟩ => ⟨g, cap, he, (hown.lt g rfl).1, (hown.lt g rfl).2, nAt_of hown, hb⟩
theorem rowS_mk {w : World} {B : Nat} {x : Option Addr} {n cap : Nat} {xs : List Value} {l : List ByteArray} (h : w.ownsRow B 9 1 (.slice x n cap) n xs) (hn : l.length = n) (hx : xs = sv l) : RowS w B x cap l := by
  subst hn hx; exact h
theorem ne_app {g ga gg n cap H : Nat} (hne : g ≠ ga) (hgl : ga < H) (hat : (Value.slice (some ⟨g, 0, none⟩) n cap).ownBlock = some gg ∨ gg = H + 1) : gg ≠ ga := by
  rcases hat with e | e
  · have : g = gg := by simpa [Value.ownBlock] using e
    omega
  · omega
set_option maxRecDepth 20000 in
set_option maxHeartbeats 2000000 in
theorem returnsOf_any (s f : ByteArray) (w : World) (hp : pOk s f = true) :
    Calls Try.prog 71 #[.string s, .string f] w fun e w' => ∃ g cap, e = .returned (.slice (some ⟨g, 0, none⟩) (R s f).length cap) ∧ RowS w' w.heap.size (some ⟨g, 0, none⟩) cap (R s f) ∧ Below w.heap.size w w' := by
  obtain ⟨i0, hi0, hz0, hz1, hz2⟩ := info_parts infoS
  have hs400 := (isW_of (pOk_true hp).1).1
  have hn := pl_len400 (f := f) hs400
  have hpc := fun w => placesIn_P s f w hp
  have hR : Hid (R s f = rt s (P s f) ((P s f).length - 1)) := rfl
  have hstep := Lib.hid (fun j h => P_step s f j h)
  obtain ⟨N, hN⟩ : ∃ N, P s f = N := ⟨_, rfl⟩
  rw [hN] at hpc hR hn hstep
  obtain ⟨n, hnn⟩ : ∃ n, N.length = n := ⟨_, rfl⟩
  rw [hnn] at hpc hR hn hstep
  clear hN hp
  go_enter Try.func71, Try.ntmps71
  go_wp2_with (go_at_call 72; refine (hpc _).mono ?_; rintro e wA ⟨ga, cap, rfl, hga, hgl, hat, hbA⟩)
  have hga' : w.heap.size < ga := by simp at hga; omega
  have hzA := hbA.size
  simp only [World.size_alloc] at hzA
  have hownA := own_below (World.ownsRow_lit (base := w.heap.size) (e := 9) (size := 1) w #[] 0 (Nat.le_refl _) (by decide) rfl) hbA
  have hbA' : Below w.heap.size w wA := Qtrans hbA (by simp) ((Below.refl _ w).alloc (Nat.le_refl _) _)
  go_loopw [5, 7] (fun out i wr => ∃ k g cap : Nat, (k = 0 ∨ k + 1 ≤ n) ∧ i = .int .i64 ((k : Int) + 1) ∧ out = .slice (some ⟨g, 0, none⟩) k cap ∧ RowS wr w.heap.size (some ⟨g, 0, none⟩) cap (rt s N k) ∧ g ≠ ga ∧ NAt wr (some ⟨ga, 0, none⟩) n N ∧ ga < wr.heap.size ∧ w.heap.size ≤ wr.heap.size ∧ Below w.heap.size w wr) (fun _ i _ => n + 1 - (intOf i).toNat)
  case atStart => exact ⟨0, w.heap.size, 0, .inl rfl, rfl, rfl, hownA, by omega, hat, hgl, by omega, hbA'⟩
  case round =>
    clear hownA hat
    obtain ⟨k, g, cap, hk, rfl, rfl, hown, hne, hat, hgl, hz, hbel⟩ := hrel
    by_cases hlt : k + 1 < n
    · obtain ⟨hs1, hs2⟩ := hstep.out k hlt
      rcases hat.2 with h0 | ⟨b, hb, hbl, hc⟩
      · omega
      cases hb
      have hc1 := hc k (by omega)
      have hc2 := hc (k + 1) hlt
      have hnext := Lib.hid (rt_succ s N k)
      obtain ⟨a, ha⟩ : ∃ a, N.getD k 0 = a := ⟨_, rfl⟩
      obtain ⟨c, hcc⟩ : ∃ c, N.getD (k + 1) 0 = c := ⟨_, rfl⟩
      rw [ha] at hc1 hs1 hnext
      rw [hcc] at hc2 hs1 hs2 hnext
      have hk9 : IntKind.i64.wrap (k : Int) = (k : Int) := by rw [IntWalk.i64_left, IntWalk.wrap64_in]; omega
      have f1 : (0 : Int) ≤ (k : Int) := by omega
      have f2 : (k : Int) < (n : Int) := by omega
      have f3 : (0 : Int) ≤ (k : Int) + 1 := by omega
      have f4 : (k : Int) + 1 < (n : Int) := by omega
      have f5 : (0 : Int) ≤ (a : Int) := by omega
      have f6 : (a : Int) ≤ (c : Int) := by omega
      have f7 : (c : Int) ≤ (s.size : Int) := by omega
      have hown' : wr.ownsRow w.heap.size 9 1 (.slice (some ⟨g, 0, none⟩) k cap) k (sv (rt s N k)) := by have := hown; unfold RowS at this; rw [rt_len] at this; exact this
      clear ha hcc hc hown
      go_wp2_with fail
      go_region_law (((refine step_append_lies _ (by rfl) _ _ _ (by rfl) (w.heap.size) 9 i0 _ 1 16 Try.underlying23 hi0 hz0 hz1 hz2 rfl (by decide) (.slice (some ⟨g, 0, none⟩) k cap) (k) (sv (rt s N k)) (by rfl) ((hown'.alloc _).drew) ⟨(wr).heap.size, 0, none⟩ 1 1 [.string (s.extract a c)] (by rfl) (by rfl) (World.news_of_block (cs := #[.string (s.extract a c)]) (t := 9) (fr := (0, 0)) (heap_alloc_new (wr) _)) (by simp [Value.oneCell']) (by omega) (by unfold maxLen; omega) (by omega) (by simp; omega) ((wr).heap.size + 1) (by simp) ?_; intro gg cap w1 hown1 hgrow hatg hltg)))
      all_goals
        have hat' := hatg
        go_wp2
        go_roundw
        case rel => exact ⟨k + 1, gg, cap, .inr (by omega), by go_num, rfl, rowS_mk hown1 (by rw [rt_len]) (by rw [hnext.out, sv_snoc]), ne_app hne hgl hat', nAt_growD hat (by intro b e; cases e; rfl) hgrow (Ne.symm hne), by have := size_appD hgrow; omega, by have := size_appD hgrow; omega, below_appD hbel hz hown' hgrow⟩
        case measure => (simp [intOf]) <;> omega
    · have hR' : Hid (R s f = rt s N k) := by
        show _ = _
        rw [hR.out]
        rcases hk with rfl | hk
        · congr 1; omega
        · congr 1; omega
      have hlt' : ¬ (k : Int) + 1 < (n : Int) := by omega
      go_wp2
      go_ret
      exact ⟨g, cap, by rw [hR'.out, rt_len]; rfl, by rw [hR'.out]; exact hown, hbel⟩
end Go.Proofs.Ytilbhingfnjppab
