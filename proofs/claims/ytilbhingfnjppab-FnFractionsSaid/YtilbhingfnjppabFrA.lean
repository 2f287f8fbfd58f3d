/- The quotients of a fraction: the walk. -/
import Derived.Test.YtilbhingfnjppabBytes
import Derived.Test.YtilbhingfnjppabIn
import Derived.Test.YtilbhingfnjppabLawU
set_option linter.unusedSimpArgs false
set_option linter.unusedVariables false
namespace Go.Proofs.Ytilbhingfnjppab
open Go.RowKit
/-- Euclid's quotients, at most f of them. -/
def qsF : Nat → Nat → Nat → List Nat
  | 0, _, _ => []
  | f + 1, p, q => if q = 0 then [] else p / q :: qsF f q (p % q)
theorem qsF_fuel : ∀ (f g p q : Nat), q < f → q < g → qsF f p q = qsF g p q
  | 0, _, _, _, h, _ => by omega
  | _ + 1, 0, _, _, _, h => by omega
  | f + 1, g + 1, p, q, h1, h2 => by
    unfold qsF
    by_cases e : q = 0
    · rw [if_pos e, if_pos e]
    · have := Nat.mod_lt p (show 0 < q by omega)
      rw [if_neg e, if_neg e, qsF_fuel f g q (p % q) (by omega) (by omega)]
def qs (p q : Nat) : List Nat := qsF (q + 1) p q
theorem qs_zero (p : Nat) : qs p 0 = [] := rfl
theorem qs_next {p q : Nat} (h : 0 < q) : qs p q = p / q :: qs q (p % q) := by
  have := Nat.mod_lt p h
  unfold qs
  rw [qsF, if_neg (by omega), qsF_fuel q (p % q + 1) q (p % q) (by omega) (by omega)]
theorem qs_len (p q : Nat) : (qs p q).length ≤ q + 1 := by
  have : ∀ f p q, (qsF f p q).length ≤ f := by
    intro f
    induction f with
    | zero => intro p q; simp [qsF]
    | succ f ih =>
      intro p q
      unfold qsF
      split
      · simp
      · have := ih q (p % q); simp; omega
  exact this (q + 1) p q
/-- Numbers as the program's. -/
def ivN (l : List Nat) : List Value := iv (l.map (fun (k : Nat) => (k : Int)))
theorem ivN_snoc (l : List Nat) (k : Nat) : ivN (l ++ [k]) = ivN l ++ [.int .i64 k] := by simp [ivN, iv]
set_option maxRecDepth 20000 in
set_option maxHeartbeats 2000000 in
theorem Quotients_any (p q : Nat) (hp : p ≤ 60) (hq1 : 1 ≤ q) (hq : q ≤ 60) (w : World) :
    Calls Try.prog 35 #[.int .i64 p, .int .i64 q] w fun e w' => ∃ x c, e = .returned (.slice x (qs p q).length c) ∧ w'.ownsRow w.heap.size 3 1 (.slice x (qs p q).length c) (qs p q).length (ivN (qs p q)) ∧ Below w.heap.size w w' := by
  obtain ⟨i0, hi0, hz0, hz1, hz2⟩ := info_parts infoI
  have hI1 : ∀ w, Calls Try.prog 65 #[.int .i64 p, .int .i64 0, .int .i64 100000] w fun e w' => e = .returned (.bool true) ∧ w = w' := fun w => by
    have := within_any (p : Int) 0 100000 w
    rwa [inB_true.2 (by omega)] at this
  have hI2 : ∀ w, Calls Try.prog 65 #[.int .i64 q, .int .i64 1, .int .i64 100000] w fun e w' => e = .returned (.bool true) ∧ w = w' := fun w => by
    have := within_any (q : Int) 1 100000 w
    rwa [inB_true.2 (by omega)] at this
  have hown0 := World.ownsRow_lit (base := w.heap.size) (e := 3) (size := 1) w #[] 0 (Nat.le_refl _) (by decide) rfl
  have hll := qs_len p q
  go_enter Try.func35, Try.ntmps35
  go_wp2_with (first | (go_at_call 65; (with_reducible refine (hI1 _).mono ?_); rintro e w1 ⟨rfl, rfl⟩) | (go_at_call 65; (with_reducible refine (hI2 _).mono ?_); rintro e w1 ⟨rfl, rfl⟩))
  go_loopw [0, 1, 5] (fun pv qv o wr => ∃ (p' q' : Nat) (acc : List Nat) (g c : Nat), pv = .int .i64 p' ∧ qv = .int .i64 q' ∧ o = .slice (some ⟨g, 0, none⟩) acc.length c ∧ p' ≤ 60 ∧ q' ≤ 60 ∧ Hid (acc ++ qs p' q' = qs p q) ∧ wr.ownsRow w.heap.size 3 1 (.slice (some ⟨g, 0, none⟩) acc.length c) acc.length (ivN acc) ∧ w.heap.size ≤ wr.heap.size ∧ Below w.heap.size w wr) (fun _ qv _ _ => (intOf qv).toNat)
  case atStart => exact ⟨p, q, [], w.heap.size, 0, rfl, rfl, rfl, hp, hq, Lib.hid rfl, hown0, by ((try simp only [World.size_alloc, World.size_setCell, World.size_drew, size_drewN]); (try dsimp only); omega), by (repeat (first | with_reducible exact Below.refl _ _ | assumption | with_reducible refine Qdrew ?_ | with_reducible refine QdrewN ?_ | ((with_reducible refine Qset ?_ ?_); exact (by ((try simp only [World.size_alloc, World.size_setCell, World.size_drew, size_drewN]); (try dsimp only); omega))) | ((with_reducible refine Qalloc ?_ ?_); exact (by ((try simp only [World.size_alloc, World.size_setCell, World.size_drew, size_drewN]); (try dsimp only); omega))) | refine Qtrans (by assumption) (by ((try simp only [World.size_alloc, World.size_setCell, World.size_drew, size_drewN]); (try dsimp only); omega)) ?_))⟩
  case round =>
    clear hown0
    obtain ⟨p', q', acc, g, c, rfl, rfl, rfl, hp', hq', heq, hown, hz, hbel⟩ := hrel
    have hal : acc.length ≤ 61 := by
      have := congrArg List.length heq.out
      rw [List.length_append] at this
      omega
    by_cases h0 : q' = 0
    · subst h0
      have hL : Hid (acc = qs p q) := by have := heq.out; rw [qs_zero, List.append_nil] at this; exact this
      go_wp2_with fail
      go_ret
      exact ⟨some ⟨g, 0, none⟩, c, by rw [← hL.out]; rfl, by rw [← hL.out]; exact hown, hbel⟩
    · have hnx := qs_next (p := p') (show 0 < q' by omega)
      have hlt := Nat.mod_lt p' (show 0 < q' by omega)
      have hdv : p' / q' ≤ p' := Nat.div_le_self _ _
      have e1 : (p' : Int).tdiv (q' : Int) = ((p' / q' : Nat) : Int) := (Int.ofNat_tdiv p' q').symm
      have e2 : (p' : Int).tmod (q' : Int) = ((p' % q' : Nat) : Int) := (Int.ofNat_tmod p' q').symm
      have hh : Hid ((acc ++ [p' / q']) ++ qs q' (p' % q') = qs p q) := by show _ = _; rw [← heq.out, hnx, List.append_assoc]; rfl
      obtain ⟨dv, hdve⟩ : ∃ z, p' / q' = z := ⟨_, rfl⟩
      obtain ⟨md, hmde⟩ : ∃ z, p' % q' = z := ⟨_, rfl⟩
      rw [hdve] at e1 hh hdv
      rw [hmde] at e2 hh hlt
      have e3 : ¬ (q' : Int) = 0 := by omega
      have e4 : ((q' : Int) == 0) = false := by simpa using e3
      have e5 : IntKind.i64.wrap (dv : Int) = (dv : Int) := IntWalk.i64_in _ (by omega)
      have e6 : IntKind.i64.wrap (md : Int) = (md : Int) := IntWalk.i64_in _ (by omega)
      clear hnx hdve hmde h0 heq hll
      go_wp2_with (at_builtin; refine wpList_append_lies _ rfl _ _ _ rfl (w.heap.size) 3 i0 _ 1 8 Try.underlying32 hi0 hz0 hz1 hz2 rfl (by decide) (.slice (some ⟨g, 0, none⟩) acc.length c) (acc.length) (ivN acc) (by rfl) (hown.alloc _) ⟨(wr).heap.size, 0, none⟩ 1 1 [.int .i64 (dv : Int)] (by rfl) (by rfl) (World.news_of_block (cs := #[.int .i64 (dv : Int)]) (t := 3) (fr := (0, 0)) (heap_alloc_new (wr) _)) (by simp [Value.oneCell']) (by omega) (by unfold maxLen; omega) (by omega) (by simp; omega) ((wr).heap.size + 1) (by simp) ?_; intro gg cap w1 hown1 hgrow hatg hltg)
      go_region
      all_goals
        go_wp2_with fail
        refine ⟨⟨q', md, acc ++ [dv], gg, cap, rfl, rfl, by rw [List.length_append]; rfl, by omega, by omega, hh, ?_, by have := size_app hgrow; simp; omega, ?_⟩, by simp [intOf]; omega⟩
        · rw [ivN_snoc, List.length_append]; exact hown1
        · exact (below_app hbel hz hown hgrow).drew
end Go.Proofs.Ytilbhingfnjppab
