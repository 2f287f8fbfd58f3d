/- Several texts in one, in their order: LawS LawT LawU FrA FrB Gcd FrC FrD FrP. -/
import Derived.Test.YtilbhingfnjppabBytes
import Derived.Test.YtilbhingfnjppabRowIn
import Derived.Deep.QuietTactic
import Derived.BigQuiet
import Derived.Deep.RegionHeld3
import Derived.Test.YtilbhingfnjppabIn
import Derived.Deep.Onto
set_option linter.unusedSimpArgs false
set_option linter.unusedVariables false
namespace Go.Proofs.Ytilbhingfnjppab
open Go.RowKit
theorem infoS : (Try.prog.info? 9).map (fun i => (i.zero, i.size, i.bytes)) = some (some (.string ⟨#[]⟩), 1, 16) := by kernel_rfl
/-- How many letters the strings hold together. -/
def tot (zs : List ByteArray) : Nat := (zs.map ByteArray.size).sum
theorem take_next {α : Type} (l : List α) (k : Nat) (d : α) (h : k < l.length) : l.take (k + 1) = l.take k ++ [l.getD k d] := by
  rw [← List.take_append_getElem h]; simp [List.getD_eq_getElem?_getD, h]
theorem tot_take {zs : List ByteArray} {k : Nat} (h : k < zs.length) : tot (zs.take (k + 1)) = tot (zs.take k) + (zs.getD k ByteArray.empty).size := by
  unfold tot
  rw [take_next zs k ByteArray.empty h, List.map_append, List.sum_append]
  simp
theorem size_le {zs : List ByteArray} (h : ∀ s ∈ zs, s.size ≤ maxLen) (k : Nat) : (zs.getD k ByteArray.empty).size ≤ maxLen := by
  by_cases hk : k < zs.length
  · have : zs.getD k ByteArray.empty ∈ zs := by simp [List.getD_eq_getElem?_getD, hk]
    exact h _ this
  · rw [List.getD_eq_getElem?_getD, List.getElem?_eq_none (by omega)]; exact Nat.zero_le _
theorem isStrs_cell {w : World} {x : Option Addr} {n cap : Nat} {zs : List ByteArray} (h : IsStrs w x n cap zs) (h0 : 0 < n) : ∃ b off, x = some ⟨b, off, none⟩ ∧ b < w.heap.size ∧ ∀ j, j < n → w.cell? ⟨b, off + j, none⟩ = some (.string (zs.getD j ByteArray.empty)) := by
  rcases h.2.2.2.2 with h | h
  · omega
  · exact h
theorem isStrs_below {w w' : World} {x : Option Addr} {n cap : Nat} {zs : List ByteArray} (h : IsStrs w x n cap zs) {B : Nat} (hB : w.heap.size ≤ B) (hb : Below B w w') : IsStrs w' x n cap zs := by
  refine ⟨h.1, h.2.1, h.2.2.1, h.2.2.2.1, ?_⟩
  rcases h.2.2.2.2 with h0 | ⟨b, off, rfl, hlt, hc⟩
  · exact .inl h0
  · exact .inr ⟨b, off, rfl, Nat.lt_of_lt_of_le hlt hb.size, fun j hj => (hb.cell (by show b < B; omega)).trans (hc j hj)⟩
theorem isStrs_own {w : World} {B g n cap : Nat} {zs : List ByteArray} (h : w.ownsRow B 9 1 (.slice (some ⟨g, 0, none⟩) n cap) n (sv zs)) (hz : ∀ s ∈ zs, s.size ≤ maxLen) : IsStrs w (some ⟨g, 0, none⟩) n cap zs := by
  have hl : zs.length = n := by have := h.1; simp [sv] at this; exact this
  have hcap : n ≤ cap ∧ cap ≤ maxLen := by
    rcases h.2 with ⟨h', _⟩ | ⟨_, _, _, h', _, _, hc, hm, _⟩
    · cases h'
    · cases h'; exact ⟨hc, hm⟩
  refine ⟨hl, hcap.1, hcap.2, hz, .inr ⟨g, 0, rfl, (h.lt g rfl).2, fun j hj => ?_⟩⟩
  rw [Nat.zero_add, own_cell h j hj, sv_at _ _ (by omega)]
end Go.Proofs.Ytilbhingfnjppab

namespace Go.Proofs.Ytilbhingfnjppab
open Go.RowKit
/-- The decimal digits of a number, none for 0. -/
def dgs (k : Nat) : List UInt8 := if h : k = 0 then [] else dgs (k / 10) ++ [UInt8.ofNat (48 + k % 10)]
termination_by k
decreasing_by omega
theorem dgs_zero : dgs 0 = [] := by unfold dgs; simp
theorem dgs_pos {k : Nat} (h : k ≠ 0) : dgs k = dgs (k / 10) ++ [UInt8.ofNat (48 + k % 10)] := by rw [dgs.eq_1, dif_neg h]
def mt (k : Nat) : ByteArray := if k = 0 then ⟨#[109, 48]⟩ else ⟨(109 :: dgs k).toArray⟩
theorem dgs_len : ∀ k : Nat, (dgs k).length ≤ k := by
  intro k
  induction k using Nat.strongRecOn with
  | _ k ih =>
    by_cases h : k = 0
    · subst h; rw [dgs_zero]; simp
    · rw [dgs_pos h]; have := ih (k / 10) (by omega); simp; omega
theorem mt_size (k : Nat) : (mt k).size ≤ k + 2 := by
  unfold mt; split
  · simp [ByteArray.size]
  · have := dgs_len k; simp [ByteArray.size]; omega
theorem size_arr (l : List UInt8) : (⟨l.toArray⟩ : ByteArray).size = l.length := by simp [ByteArray.size]
theorem one_string (wr : World) (x : UInt8) :
    (convert 22 9 (.slice (some ⟨wr.heap.size, 0, none⟩) 1 1)).run Try.prog (wr.alloc (.cells #[.int .u8 (x.toNat : Int)] 5)) = .ok (.string ⟨#[x]⟩) (wr.alloc (.cells #[.int .u8 (x.toNat : Int)] 5)) :=
  run_convert_bytes_back _ 22 9 5 ⟨wr.heap.size, 0, none⟩ 1 [x] Try.underlying22 Try.underlying5 Try.underlying9 (fun j hj => by
    have : j = 0 := by simp at hj; omega
    subst this
    rw [Addr.add_lit, Nat.zero_add]
    simp [go_sem])
theorem front_run (x : UInt8) (l : List UInt8) (h : l.length ≤ 1000000000000) (w : World) : (Op.stringOp .add ⟨#[x]⟩ ⟨l.toArray⟩).run Try.prog w = .ok (.string ⟨(x :: l).toArray⟩) w := by
  have e : (⟨#[x]⟩ : ByteArray).size = 1 := rfl
  have e2 := size_arr l
  rw [run_string_add_sum w _ _ (by omega)]
  congr 2
  try (apply ByteArray.ext; simp)
/-- The marks from k on. -/
def mk (k n : Nat) : List ByteArray := (List.range n).map (fun j => mt (k + j))
theorem mk_len (k n : Nat) : (mk k n).length = n := by simp [mk]
theorem mk_at (k n j : Nat) (h : j < n) : (mk k n).getD j ByteArray.empty = mt (k + j) := by simp [mk, List.getD_eq_getElem?_getD, h]
theorem mk_small (k n : Nat) (h : k + n ≤ 100000000) : ∀ z ∈ mk k n, z.size ≤ maxLen := by
  intro z hz
  obtain ⟨i, hi, rfl⟩ := List.mem_map.1 hz
  have h1 := mt_size (k + i)
  have h2 : i < n := by simpa using hi
  unfold maxLen; omega
theorem grown_trans {a b c : World} {r : Option Nat} (h1 : a.grownBy b r) (h2 : b.grownBy c r) : a.grownBy c r :=
  ⟨h2.os.trans h1.os, h2.tape.trans h1.tape, h2.output.trans h1.output, Nat.le_trans h1.size h2.size, fun k hk hne => (h2.block k (Nat.lt_of_lt_of_le hk h1.size) hne).trans (h1.block k hk hne)⟩
theorem grown_below {a b : World} {r : Option Nat} (h : Below a.heap.size a b) : a.grownBy b r := ⟨h.os, h.tape, h.output, h.size, fun k hk _ => h.block k hk⟩
theorem mark_set (zs : List ByteArray) (k j n : Nat) (hz : zs.length = n) (h : j < n) : (mk k j ++ zs.drop j).set j (mt (k + j)) = mk k (j + 1) ++ zs.drop (j + 1) := by
  rw [List.set_append_right _ _ (by rw [mk_len]; exact Nat.le_refl _), mk_len, Nat.sub_self, List.drop_eq_getElem_cons (by omega), List.set_cons_zero]
  simp [mk, List.range_succ]
end Go.Proofs.Ytilbhingfnjppab

namespace Go.Proofs.Ytilbhingfnjppab
open Go.RowKit
/-- A slice of integers, wherever it lies. -/
def RI (w : World) (x : Option Addr) (n : Nat) (zs : List Int) : Prop :=
  zs.length = n ∧ n ≤ 9223372036854775807 ∧ (n = 0 ∨ ∃ b off, x = some ⟨b, off, none⟩ ∧ b < w.heap.size ∧ ∀ j, j < n → w.cell? ⟨b, off + j, none⟩ = some (.int .i64 (zs.getD j 0)))
theorem rI_cell {w : World} {x : Option Addr} {n : Nat} {zs : List Int} (h : RI w x n zs) (h0 : 0 < n) : ∃ b off, x = some ⟨b, off, none⟩ ∧ b < w.heap.size ∧ ∀ j, j < n → w.cell? ⟨b, off + j, none⟩ = some (.int .i64 (zs.getD j 0)) := by
  rcases h.2.2 with h | h
  · omega
  · exact h
theorem rI_below {w w' : World} {x : Option Addr} {n : Nat} {zs : List Int} (h : RI w x n zs) {B : Nat} (hB : w.heap.size ≤ B) (hb : Below B w w') : RI w' x n zs := by
  refine ⟨h.1, h.2.1, ?_⟩
  rcases h.2.2 with h0 | ⟨b, off, rfl, hlt, hc⟩
  · exact .inl h0
  · exact .inr ⟨b, off, rfl, Nat.lt_of_lt_of_le hlt hb.size, fun j hj => (hb.cell (by show b < B; omega)).trans (hc j hj)⟩
theorem rI_grownBy {w w' : World} {x : Option Addr} {n : Nat} {zs : List Int} {r : Option Nat} (h : RI w x n zs) (hg : w.grownBy w' r) (hx : ∀ b off, x = some ⟨b, off, none⟩ → some b ≠ r) : RI w' x n zs := by
  refine ⟨h.1, h.2.1, ?_⟩
  rcases h.2.2 with h0 | ⟨b, off, rfl, hlt, hc⟩
  · exact .inl h0
  · refine .inr ⟨b, off, rfl, Nat.lt_of_lt_of_le hlt hg.size, fun j hj => ?_⟩
    rw [hg.cell_far ⟨b, off + j, none⟩ hlt (hx b off rfl)]
    exact hc j hj
theorem rI_own {w : World} {B n cap : Nat} {x : Option Addr} {zs : List Int} (h : w.ownsRow B 3 1 (.slice x n cap) n (iv zs)) (hn : n ≤ 9223372036854775807) : RI w x n zs := by
  have hl : zs.length = n := by have := h.1; simp [iv] at this; exact this
  refine ⟨hl, hn, ?_⟩
  by_cases h0 : n = 0
  · exact .inl h0
  · right
    obtain ⟨g, c, e, hg1, hg2⟩ := World.ownsRow.form h (by omega)
    cases e
    exact ⟨g, 0, rfl, hg2, fun j hj => by rw [Nat.zero_add, own_cell h j hj, iv_at _ _ (by omega)]⟩
/-- The numbers from k on. -/
def mi (k n : Nat) : List Int := (List.range n).map (fun j => ((k + j : Nat) : Int))
theorem mi_len (k n : Nat) : (mi k n).length = n := by simp [mi]
theorem mi_at (k n j : Nat) (h : j < n) : (mi k n).getD j 0 = (k : Int) + j := by simp [mi, List.getD_eq_getElem?_getD, h]
theorem markI_set (zs : List Int) (k j n : Nat) (hz : zs.length = n) (h : j < n) : (mi k j ++ zs.drop j).set j ((k : Int) + j) = mi k (j + 1) ++ zs.drop (j + 1) := by
  rw [List.set_append_right _ _ (by rw [mi_len]; exact Nat.le_refl _), mi_len, Nat.sub_self, List.drop_eq_getElem_cons (by omega), List.set_cons_zero]
  simp [mi, List.range_succ]
end Go.Proofs.Ytilbhingfnjppab

namespace Go.Proofs.Ytilbhingfnjppab
open Go.RowKit
/-- Euclid's quotients, at most f of them. -/
def qsF : Nat → Nat → Nat → List Nat
  | 0, _, _ => []
  | f + 1, p, q => if q = 0 then [] else p / q :: qsF f q (p % q)
theorem qsF_fuel : ∀ (f g p q : Nat), q < f → q < g → qsF f p q = qsF g p q
  | 0, _, _, _, h, _ => by omega
  | _ + 1, 0, _, _, _, h => by omega
  | f + 1, g + 1, p, q, h1, h2 => by
    unfold qsF
    by_cases e : q = 0
    · rw [if_pos e, if_pos e]
    · have := Nat.mod_lt p (show 0 < q by omega)
      rw [if_neg e, if_neg e, qsF_fuel f g q (p % q) (by omega) (by omega)]
def qs (p q : Nat) : List Nat := qsF (q + 1) p q
theorem qs_zero (p : Nat) : qs p 0 = [] := rfl
theorem qs_next {p q : Nat} (h : 0 < q) : qs p q = p / q :: qs q (p % q) := by
  have := Nat.mod_lt p h
  unfold qs
  rw [qsF, if_neg (by omega), qsF_fuel q (p % q + 1) q (p % q) (by omega) (by omega)]
theorem qs_len (p q : Nat) : (qs p q).length ≤ q + 1 := by
  have : ∀ f p q, (qsF f p q).length ≤ f := by
    intro f
    induction f with
    | zero => intro p q; simp [qsF]
    | succ f ih =>
      intro p q
      unfold qsF
      split
      · simp
      · have := ih q (p % q); simp; omega
  exact this (q + 1) p q
/-- Numbers as the program's. -/
def ivN (l : List Nat) : List Value := iv (l.map (fun (k : Nat) => (k : Int)))
theorem ivN_snoc (l : List Nat) (k : Nat) : ivN (l ++ [k]) = ivN l ++ [.int .i64 k] := by simp [ivN, iv]
set_option maxRecDepth 20000 in
set_option maxHeartbeats 2000000 in
theorem Quotients_any (p q : Nat) (hp : p ≤ 60) (hq1 : 1 ≤ q) (hq : q ≤ 60) (w : World) :
    Calls Try.prog 35 #[.int .i64 p, .int .i64 q] w fun e w' => ∃ x c, e = .returned (.slice x (qs p q).length c) ∧ w'.ownsRow w.heap.size 3 1 (.slice x (qs p q).length c) (qs p q).length (ivN (qs p q)) ∧ Below w.heap.size w w' := by
  obtain ⟨i0, hi0, hz0, hz1, hz2⟩ := info_parts infoI
  have hI1 : ∀ w, Calls Try.prog 65 #[.int .i64 p, .int .i64 0, .int .i64 100000] w fun e w' => e = .returned (.bool true) ∧ w = w' := fun w => by
    have := within_any (p : Int) 0 100000 w
    rwa [inB_true.2 (by omega)] at this
  have hI2 : ∀ w, Calls Try.prog 65 #[.int .i64 q, .int .i64 1, .int .i64 100000] w fun e w' => e = .returned (.bool true) ∧ w = w' := fun w => by
    have := within_any (q : Int) 1 100000 w
    rwa [inB_true.2 (by omega)] at this
  have hown0 := World.ownsRow_lit (base := w.heap.size) (e := 3) (size := 1) w #[] 0 (Nat.le_refl _) (by decide) rfl
  have hll := qs_len p q
  go_enter Try.func35, Try.ntmps35
  go_wp2_with (first | (go_at_call 65; (with_reducible refine (hI1 _).mono ?_); rintro e w1 ⟨rfl, rfl⟩) | (go_at_call 65; (with_reducible refine (hI2 _).mono ?_); rintro e w1 ⟨rfl, rfl⟩))
  go_loopw [0, 1, 5] (fun pv qv o wr => ∃ (p' q' : Nat) (acc : List Nat) (g c : Nat), pv = .int .i64 p' ∧ qv = .int .i64 q' ∧ o = .slice (some ⟨g, 0, none⟩) acc.length c ∧ p' ≤ 60 ∧ q' ≤ 60 ∧ Hid (acc ++ qs p' q' = qs p q) ∧ wr.ownsRow w.heap.size 3 1 (.slice (some ⟨g, 0, none⟩) acc.length c) acc.length (ivN acc) ∧ w.heap.size ≤ wr.heap.size ∧ Below w.heap.size w wr) (fun _ qv _ _ => (intOf qv).toNat)
  case atStart => exact ⟨p, q, [], w.heap.size, 0, rfl, rfl, rfl, hp, hq, Lib.hid rfl, hown0, by ((try simp only [World.size_alloc, World.size_setCell, World.size_drew, size_drewN]); (try dsimp only); omega), by (repeat (first | with_reducible exact Below.refl _ _ | assumption | with_reducible refine Qdrew ?_ | with_reducible refine QdrewN ?_ | ((with_reducible refine Qset ?_ ?_); exact (by ((try simp only [World.size_alloc, World.size_setCell, World.size_drew, size_drewN]); (try dsimp only); omega))) | ((with_reducible refine Qalloc ?_ ?_); exact (by ((try simp only [World.size_alloc, World.size_setCell, World.size_drew, size_drewN]); (try dsimp only); omega))) | refine Qtrans (by assumption) (by ((try simp only [World.size_alloc, World.size_setCell, World.size_drew, size_drewN]); (try dsimp only); omega)) ?_))⟩
  case round =>
    clear hown0
    obtain ⟨p', q', acc, g, c, rfl, rfl, rfl, hp', hq', heq, hown, hz, hbel⟩ := hrel
    have hal : acc.length ≤ 61 := by
      have := congrArg List.length heq.out
      rw [List.length_append] at this
      omega
    by_cases h0 : q' = 0
    · subst h0
      have hL : Hid (acc = qs p q) := by have := heq.out; rw [qs_zero, List.append_nil] at this; exact this
      go_wp2_with fail
      go_ret
      exact ⟨some ⟨g, 0, none⟩, c, by rw [← hL.out]; rfl, by rw [← hL.out]; exact hown, hbel⟩
    · have hnx := qs_next (p := p') (show 0 < q' by omega)
      have hlt := Nat.mod_lt p' (show 0 < q' by omega)
      have hdv : p' / q' ≤ p' := Nat.div_le_self _ _
      have e1 : (p' : Int).tdiv (q' : Int) = ((p' / q' : Nat) : Int) := (Int.ofNat_tdiv p' q').symm
      have e2 : (p' : Int).tmod (q' : Int) = ((p' % q' : Nat) : Int) := (Int.ofNat_tmod p' q').symm
      have hh : Hid ((acc ++ [p' / q']) ++ qs q' (p' % q') = qs p q) := by show _ = _; rw [← heq.out, hnx, List.append_assoc]; rfl
      obtain ⟨dv, hdve⟩ : ∃ z, p' / q' = z := ⟨_, rfl⟩
      obtain ⟨md, hmde⟩ : ∃ z, p' % q' = z := ⟨_, rfl⟩
      rw [hdve] at e1 hh hdv
      rw [hmde] at e2 hh hlt
      have e3 : ¬ (q' : Int) = 0 := by omega
      have e4 : ((q' : Int) == 0) = false := by simpa using e3
      have e5 : IntKind.i64.wrap (dv : Int) = (dv : Int) := IntWalk.i64_in _ (by omega)
      have e6 : IntKind.i64.wrap (md : Int) = (md : Int) := IntWalk.i64_in _ (by omega)
      clear hnx hdve hmde h0 heq hll
      go_wp2_with (at_builtin; refine wpList_append_lies _ rfl _ _ _ rfl (w.heap.size) 3 i0 _ 1 8 Try.underlying32 hi0 hz0 hz1 hz2 rfl (by decide) (.slice (some ⟨g, 0, none⟩) acc.length c) (acc.length) (ivN acc) (by rfl) (hown.alloc _) ⟨(wr).heap.size, 0, none⟩ 1 1 [.int .i64 (dv : Int)] (by rfl) (by rfl) (World.news_of_block (cs := #[.int .i64 (dv : Int)]) (t := 3) (fr := (0, 0)) (heap_alloc_new (wr) _)) (by simp [Value.oneCell']) (by omega) (by unfold maxLen; omega) (by omega) (by simp; omega) ((wr).heap.size + 1) (by simp) ?_; intro gg cap w1 hown1 hgrow hatg hltg)
      go_region
      all_goals
        go_wp2_with fail
        refine ⟨⟨q', md, acc ++ [dv], gg, cap, rfl, rfl, by rw [List.length_append]; rfl, by omega, by omega, hh, ?_, by have := size_app hgrow; simp; omega, ?_⟩, by simp [intOf]; omega⟩
        · rw [ivN_snoc, List.length_append]; exact hown1
        · exact (below_app hbel hz hown hgrow).drew
end Go.Proofs.Ytilbhingfnjppab

namespace Go.Proofs.Ytilbhingfnjppab
open Go.RowKit
/-- The way that Euclid takes by single steps: the lesser from the greater. -/
def sbF : Nat → Nat → Nat → List UInt8
  | 0, _, _ => []
  | f + 1, u, v => if u < v then 76 :: sbF f u (v - u) else if v < u then 82 :: sbF f (u - v) v else []
def sb (u v : Nat) : List UInt8 := sbF (u + v) u v
theorem sbF_fuel : ∀ (f g u v : Nat), 1 ≤ u → 1 ≤ v → u + v ≤ f → u + v ≤ g → sbF f u v = sbF g u v
  | 0, _, _, _, _, _, h, _ => by omega
  | _ + 1, 0, _, _, _, _, _, h => by omega
  | f + 1, g + 1, u, v, h1, h2, h3, h4 => by
    unfold sbF
    by_cases e : u < v
    · rw [if_pos e, if_pos e, sbF_fuel f g u (v - u) (by omega) (by omega) (by omega) (by omega)]
    · rw [if_neg e, if_neg e]
      by_cases e2 : v < u
      · rw [if_pos e2, if_pos e2, sbF_fuel f g (u - v) v (by omega) (by omega) (by omega) (by omega)]
      · rw [if_neg e2, if_neg e2]
theorem sb_left {u v : Nat} (h1 : 1 ≤ u) (h : u < v) : sb u v = 76 :: sb u (v - u) := by
  unfold sb
  obtain ⟨f, hf⟩ : ∃ f, u + v = f + 1 := ⟨u + v - 1, by omega⟩
  rw [hf, sbF, if_pos h, sbF_fuel f (u + (v - u)) u (v - u) (by omega) (by omega) (by omega) (by omega)]
theorem sb_right {u v : Nat} (h1 : 1 ≤ v) (h : v < u) : sb u v = 82 :: sb (u - v) v := by
  unfold sb
  obtain ⟨f, hf⟩ : ∃ f, u + v = f + 1 := ⟨u + v - 1, by omega⟩
  rw [hf, sbF, if_neg (by omega), if_pos h, sbF_fuel f ((u - v) + v) (u - v) v (by omega) (by omega) (by omega) (by omega)]
theorem sb_end {u v : Nat} (h1 : 1 ≤ u) (h : u = v) : sb u v = [] := by
  subst h
  unfold sb
  obtain ⟨f, hf⟩ : ∃ f, u + u = f + 1 := ⟨u + u - 1, by omega⟩
  rw [hf, sbF, if_neg (by omega), if_neg (by omega)]
theorem sb_len : ∀ (f u v : Nat), u + v ≤ f → 1 ≤ u → 1 ≤ v → (sb u v).length + 2 ≤ u + v + 1
  | 0, u, v, h, h1, h2 => by omega
  | f + 1, u, v, h, h1, h2 => by
    by_cases e : u < v
    · have := sb_len f u (v - u) (by omega) h1 (by omega)
      rw [sb_left h1 e, List.length_cons]; omega
    · by_cases e2 : v < u
      · have := sb_len f (u - v) v (by omega) (by omega) h2
        rw [sb_right h2 e2, List.length_cons]; omega
      · rw [sb_end h1 (by omega)]; simp; omega
/-- What the four numbers are while the way is gone. -/
structure Sb (p q a b c d u v : Nat) : Prop where
  u1 : 1 ≤ u
  v1 : 1 ≤ v
  e1 : a * v + c * u = p
  e2 : b * v + d * u = q
  e3 : p * b = a * q + u
  e4 : c * q = p * d + v
theorem Sb.start {p q : Nat} (hp : 1 ≤ p) (hq : 1 ≤ q) : Sb p q 0 1 1 0 p q := ⟨hp, hq, by omega, by omega, by omega, by omega⟩
theorem Sb.left {p q a b c d u v : Nat} (h : Sb p q a b c d u v) (hlt : u < v) : Sb p q a b (a + c) (b + d) u (v - u) := by
  obtain ⟨h1, h2, h3, h4, h5, h6⟩ := h
  obtain ⟨w, rfl⟩ : ∃ w, v = u + w := ⟨v - u, by omega⟩
  rw [Nat.add_sub_cancel_left]
  refine ⟨h1, by omega, ?_, ?_, h5, ?_⟩
  · rw [Nat.mul_add] at h3; rw [Nat.add_mul]; omega
  · rw [Nat.mul_add] at h4; rw [Nat.add_mul]; omega
  · rw [Nat.add_mul, Nat.mul_add]; omega
theorem Sb.right {p q a b c d u v : Nat} (h : Sb p q a b c d u v) (hlt : v < u) : Sb p q (a + c) (b + d) c d (u - v) v := by
  obtain ⟨h1, h2, h3, h4, h5, h6⟩ := h
  obtain ⟨w, rfl⟩ : ∃ w, u = v + w := ⟨u - v, by omega⟩
  rw [Nat.add_sub_cancel_left]
  refine ⟨by omega, h2, ?_, ?_, ?_, h6⟩
  · rw [Nat.mul_add] at h3; rw [Nat.add_mul]; omega
  · rw [Nat.mul_add] at h4; rw [Nat.add_mul]; omega
  · rw [Nat.mul_add, Nat.add_mul]; omega
theorem Sb.le {p q a b c d u v : Nat} (h : Sb p q a b c d u v) : a + c ≤ p ∧ b + d ≤ q := by
  obtain ⟨h1, h2, h3, h4, _, _⟩ := h
  have m1 := Nat.le_mul_of_pos_right a (show 0 < v by omega)
  have m2 := Nat.le_mul_of_pos_right c (show 0 < u by omega)
  have m3 := Nat.le_mul_of_pos_right b (show 0 < v by omega)
  have m4 := Nat.le_mul_of_pos_right d (show 0 < u by omega)
  omega
theorem Sb.cmp {p q a b c d u v : Nat} (h : Sb p q a b c d u v) : p * (b + d) + v = (a + c) * q + u := by
  obtain ⟨h1, h2, h3, h4, h5, h6⟩ := h
  rw [Nat.mul_add, Nat.add_mul]; omega
/-- At the end the fraction is there. -/
theorem Sb.fin {p q a b c d : Nat} (h : Sb p q a b c d 1 1) : a + c = p ∧ b + d = q := by
  obtain ⟨h1, h2, h3, h4, h5, h6⟩ := h
  omega
end Go.Proofs.Ytilbhingfnjppab

namespace Go.Proofs.Ytilbhingfnjppab
open Go.RowKit
theorem tmod_nat (a b : Nat) : (a : Int).tmod (b : Int) = ((a % b : Nat) : Int) := (Int.ofNat_tmod a b).symm
set_option maxRecDepth 20000 in
set_option maxHeartbeats 1000000 in
theorem divisor_any (a b : Nat) (w : World) (ha : a ≤ 1000) (hb : b ≤ 1000) :
    Calls Try.prog 86 #[.int .i64 a, .int .i64 b] w fun e w' => e = .returned (.int .i64 (Nat.gcd a b : Nat)) ∧ Below w.heap.size w w' := by
  go_enter Try.func86, Try.ntmps86
  go_wp2
  go_loopw [0, 1] (fun x y wr => ∃ c d : Nat, x = .int .i64 c ∧ y = .int .i64 d ∧ c ≤ 1000 ∧ d ≤ 1000 ∧ Hid (Nat.gcd c d = Nat.gcd a b) ∧ Below w.heap.size w wr) (fun _ y _ => (intOf y).toNat)
  case atStart => exact ⟨a, b, rfl, rfl, ha, hb, Lib.hid rfl, Below.refl _ _⟩
  case round =>
    obtain ⟨c, d, rfl, rfl, hc, hd, hg, hbel⟩ := hrel
    by_cases h0 : d = 0
    · subst h0
      go_wp2
      go_ret
      exact ⟨by rw [← hg.out, Nat.gcd_zero_right]; rfl, hbel⟩
    · have hpos : (0 : Int) < (d : Int) := by omega
      have hne : (d : Int) ≠ 0 := by omega
      have hr := tmod_nat c d
      have hrl := Nat.mod_lt c (by omega : d > 0)
      have hnx : Hid (Nat.gcd d (c % d) = Nat.gcd a b) := by
        show _ = _
        rw [← hg.out, Nat.gcd_comm c d, Nat.gcd_rec d c, Nat.gcd_comm]
      obtain ⟨r, hr'⟩ : ∃ r, c % d = r := ⟨_, rfl⟩
      rw [hr'] at hr hrl hnx
      clear hr'
      go_wp2
      go_region
      go_wp2
      go_roundw
      case rel => exact ⟨d, r, rfl, rfl, hd, by omega, hnx, by (repeat (first | with_reducible exact Below.refl _ _ | assumption | with_reducible refine Qdrew ?_ | with_reducible refine QdrewN ?_ | ((with_reducible refine Qset ?_ ?_); exact (by ((try simp only [World.size_alloc, World.size_setCell, World.size_drew, size_drewN]); (try dsimp only); omega))) | ((with_reducible refine Qalloc ?_ ?_); exact (by ((try simp only [World.size_alloc, World.size_setCell, World.size_drew, size_drewN]); (try dsimp only); omega))) | refine Qtrans (by assumption) (by ((try simp only [World.size_alloc, World.size_setCell, World.size_drew, size_drewN]); (try dsimp only); omega)) ?_))⟩
      case measure => (simp [intOf]) <;> omega
end Go.Proofs.Ytilbhingfnjppab

namespace Go.Proofs.Ytilbhingfnjppab
open Go.RowKit
set_option maxRecDepth 20000 in
set_option maxHeartbeats 4000000 in
theorem Path_any (p q : Nat) (hp1 : 1 ≤ p) (hp : p ≤ 60) (hq1 : 1 ≤ q) (hq : q ≤ 60) (hg : Nat.gcd p q = 1) (w : World) :
    Calls Try.prog 43 #[.int .i64 p, .int .i64 q] w fun e w' => e = .returned (.string ⟨(sb p q).toArray⟩) ∧ Below w.heap.size w w' := by
  obtain ⟨i0, hi0, hz0, hz1, hz2⟩ := info_parts infoB
  have hI1 : ∀ w, Calls Try.prog 65 #[.int .i64 p, .int .i64 1, .int .i64 400] w fun e w' => e = .returned (.bool true) ∧ w = w' := fun w => by
    have := within_any (p : Int) 1 400 w
    rwa [inB_true.2 (by omega)] at this
  have hI2 : ∀ w, Calls Try.prog 65 #[.int .i64 q, .int .i64 1, .int .i64 400] w fun e w' => e = .returned (.bool true) ∧ w = w' := fun w => by
    have := within_any (q : Int) 1 400 w
    rwa [inB_true.2 (by omega)] at this
  have hD : ∀ w, Calls Try.prog 86 #[.int .i64 p, .int .i64 q] w fun e w' => e = .returned (.int .i64 1) ∧ Below w.heap.size w w' := fun w => by
    have := divisor_any p q w (by omega) (by omega)
    rw [hg] at this
    exact this
  go_enter Try.func43, Try.ntmps43
  go_upto_region 3 with (first | (go_at_call 65; (with_reducible refine (hI1 _).mono ?_); rintro e w1 ⟨rfl, rfl⟩) | (go_at_call 65; (with_reducible refine (hI2 _).mono ?_); rintro e w1 ⟨rfl, rfl⟩) | (go_at_call 86; (with_reducible refine (hD _).mono ?_); rintro e w2 ⟨rfl, hb2⟩))
  have hzb := hb2.size
  have hown0 := World.ownsRow_lit (base := w.heap.size) (e := 5) (size := 1) w2 #[] 0 hzb (by decide) rfl
  go_wp2_with fail
  go_loopw [5, 6, 7, 8, 9] (fun o av bv' cv dv wr => ∃ (a b c d u v g cp : Nat) (acc : List UInt8), o = .slice (some ⟨g, 0, none⟩) acc.length cp ∧ av = .int .i64 a ∧ bv' = .int .i64 b ∧ cv = .int .i64 c ∧ dv = .int .i64 d ∧ Hid (Sb p q a b c d u v) ∧ acc.length + u + v ≤ p + q ∧ Hid (acc ++ sb u v = sb p q) ∧ wr.ownsRow w.heap.size 5 1 (.slice (some ⟨g, 0, none⟩) acc.length cp) acc.length (bv acc) ∧ w.heap.size ≤ wr.heap.size ∧ Below w.heap.size w wr) (fun o _ _ _ _ _ => p + q - (match o with | .slice _ n _ => n | _ => 0))
  case atStart => exact ⟨0, 1, 1, 0, p, q, w2.heap.size, 0, [], rfl, rfl, rfl, rfl, rfl, Lib.hid (Sb.start hp1 hq1), by simp, Lib.hid rfl, hown0, by simp; omega, hb2.alloc hzb _⟩
  case round =>
    clear hown0
    obtain ⟨a, b, c, d, u, v, g, cp, acc, rfl, rfl, rfl, rfl, rfl, hs, hal, heq, hown, hz, hbel⟩ := hrel
    have hu1 := hs.out.u1
    have hv1 := hs.out.v1
    obtain ⟨l1, l2⟩ := hs.out.le
    have hcm := hs.out.cmp
    have hL := Lib.hid (fun h => hs.out.left (h : u < v))
    have hR := Lib.hid (fun h => hs.out.right (h : v < u))
    have m1 : p * (b + d) ≤ 60 * 60 := Nat.mul_le_mul hp (by omega)
    have m2 : (a + c) * q ≤ 60 * 60 := Nat.mul_le_mul (by omega) hq
    have i1 : IntKind.i64.wrap ((a : Int) + (c : Int)) = ((a + c : Nat) : Int) := by rw [IntWalk.i64_in _ (by omega)]; omega
    have i2 : IntKind.i64.wrap ((b : Int) + (d : Int)) = ((b + d : Nat) : Int) := by rw [IntWalk.i64_in _ (by omega)]; omega
    obtain ⟨m, hm⟩ : ∃ m, a + c = m := ⟨_, rfl⟩
    obtain ⟨n, hn⟩ : ∃ n, b + d = n := ⟨_, rfl⟩
    rw [hm] at i1 m2 hcm hL hR l1
    rw [hn] at i2 m1 hcm hL hR l2
    obtain ⟨P, hP⟩ : ∃ P, p * n = P := ⟨_, rfl⟩
    obtain ⟨M, hM⟩ : ∃ M, m * q = M := ⟨_, rfl⟩
    have i3 : IntKind.i64.wrap ((p : Int) * (n : Int)) = (P : Int) := by rw [← hP, ← Int.natCast_mul, IntWalk.i64_in _ (by rw [hP] at m1 ⊢; omega)]
    have i4 : IntKind.i64.wrap ((m : Int) * (q : Int)) = (M : Int) := by rw [← hM, ← Int.natCast_mul, IntWalk.i64_in _ (by rw [hM] at m2 ⊢; omega)]
    rw [hP, hM] at hcm
    clear hm hn hP hM hs
    by_cases h1 : u < v
    · have j1 : (P : Int) < (M : Int) := by omega
      have hh : Hid ((acc ++ [76]) ++ sb u (v - u) = sb p q) := by show _ = _; rw [← heq.out, sb_left hu1 h1, List.append_assoc]; rfl
      have hS' := Lib.hid (hL.out h1)
      clear heq hL hR
      go_wp2_with (at_builtin; refine wpList_append_lies _ rfl _ _ _ rfl (w.heap.size) 5 i0 _ 1 1 Try.underlying22 hi0 hz0 hz1 hz2 rfl (by decide) (_) (acc.length) (bv acc) (by rfl) (hown.alloc _) ⟨(wr).heap.size, 0, none⟩ 1 1 [.int .u8 76] (by rfl) (by rfl) (World.news_of_block (cs := #[.int .u8 76]) (t := 5) (fr := (0, 0)) (heap_alloc_new (wr) _)) (by simp [Value.oneCell']) (by omega) (by unfold maxLen; omega) (by omega) (by simp; omega) ((wr).heap.size + 1) (by simp) ?_; intro gg cap w1 hown1 hgrow hatg hltg)
      refine ⟨⟨a, b, m, n, u, v - u, gg, cap, acc ++ [76], by rw [List.length_append]; rfl, rfl, rfl, rfl, rfl, hS', by rw [List.length_append]; simp; omega, hh, ?_, by have := size_app hgrow; omega, below_app hbel hz hown hgrow⟩, by simp only; omega⟩
      rw [List.length_append]
      simpa [bv] using hown1
    · by_cases h2 : v < u
      · have j1 : ¬ (P : Int) < (M : Int) := by omega
        have j2 : (M : Int) < (P : Int) := by omega
        have hh : Hid ((acc ++ [82]) ++ sb (u - v) v = sb p q) := by show _ = _; rw [← heq.out, sb_right hv1 h2, List.append_assoc]; rfl
        have hS' := Lib.hid (hR.out h2)
        clear heq hL hR
        go_wp2_with (at_builtin; refine wpList_append_lies _ rfl _ _ _ rfl (w.heap.size) 5 i0 _ 1 1 Try.underlying22 hi0 hz0 hz1 hz2 rfl (by decide) (_) (acc.length) (bv acc) (by rfl) (hown.alloc _) ⟨(wr).heap.size, 0, none⟩ 1 1 [.int .u8 82] (by rfl) (by rfl) (World.news_of_block (cs := #[.int .u8 82]) (t := 5) (fr := (0, 0)) (heap_alloc_new (wr) _)) (by simp [Value.oneCell']) (by omega) (by unfold maxLen; omega) (by omega) (by simp; omega) ((wr).heap.size + 1) (by simp) ?_; intro gg cap w1 hown1 hgrow hatg hltg)
        refine ⟨⟨m, n, c, d, u - v, v, gg, cap, acc ++ [82], by rw [List.length_append]; rfl, rfl, rfl, rfl, rfl, hS', by rw [List.length_append]; simp; omega, hh, ?_, by have := size_app hgrow; omega, below_app hbel hz hown hgrow⟩, by simp only; omega⟩
        rw [List.length_append]
        simpa [bv] using hown1
      · have j1 : ¬ (P : Int) < (M : Int) := by omega
        have j2 : ¬ (M : Int) < (P : Int) := by omega
        have hE : Hid (acc = sb p q) := by have := heq.out; rw [sb_end hu1 (by omega), List.append_nil] at this; exact this
        have hcv := own_string hown
        clear heq hL hR
        go_wp2_with fail
        go_ret
        exact ⟨by rw [← hE.out]; rfl, hbel⟩
theorem bt_listF (l : List UInt8) (j : Nat) (h : j < l.length) : bt ⟨l.toArray⟩ j = ((l.getD j 0).toNat : Int) := by
  have : j < (⟨l.toArray⟩ : ByteArray).size := by simpa [ByteArray.size] using h
  simp [bt, this, ByteArray.getElem_eq_getElem_data, List.getD_eq_getElem?_getD, h]
theorem Sb.one {p q a b c d u : Nat} (h : Sb p q a b c d u u) (hg : Nat.gcd p q = 1) : u = 1 := by
  have h1 : u ∣ p := ⟨a + c, by rw [← h.e1, Nat.mul_add, Nat.mul_comm a, Nat.mul_comm c]⟩
  have h2 : u ∣ q := ⟨b + d, by rw [← h.e2, Nat.mul_add, Nat.mul_comm b, Nat.mul_comm d]⟩
  have := Nat.dvd_gcd h1 h2
  rw [hg] at this
  exact Nat.dvd_one.1 this
set_option maxRecDepth 20000 in
set_option maxHeartbeats 4000000 in
theorem FracAt_any (p q : Nat) (hp1 : 1 ≤ p) (hp : p ≤ 60) (hq1 : 1 ≤ q) (hq : q ≤ 60) (hg : Nat.gcd p q = 1) (w : World) :
    Calls Try.prog 44 #[.string ⟨(sb p q).toArray⟩] w fun e w' => e = .returned (.tuple #[.int .i64 p, .int .i64 q, .bool true]) ∧ Below w.heap.size w w' := by
  have hlen := sb_len (p + q) p q (Nat.le_refl _) hp1 hq1
  have hbl := Lib.hid (bt_listF (sb p q))
  have hsz : (⟨(sb p q).toArray⟩ : ByteArray).size = (sb p q).length := by simp [ByteArray.size]
  obtain ⟨N, hN⟩ : ∃ N, (sb p q).length = N := ⟨_, rfl⟩
  rw [hN] at hlen hsz
  have hNH := Lib.hid hN
  obtain ⟨s, hs⟩ : ∃ s, (⟨(sb p q).toArray⟩ : ByteArray) = s := ⟨_, rfl⟩
  rw [hs] at hsz hbl ⊢
  have hb : ∀ j (h : j < s.size), ((s[j]'h).toNat : Int) = bt s j := fun j h => bt_eq s j h
  have h400 : ¬ (400 : Int) < (s.size : Int) := by omega
  clear hN hs
  go_enter Try.func44, Try.ntmps44
  go_wp2_with fail
  go_loopw [5, 6, 7, 8, 15] (fun av bv' cv dv i wr => ∃ (a b c d u v k : Nat) (pre : List UInt8), av = .int .i64 a ∧ bv' = .int .i64 b ∧ cv = .int .i64 c ∧ dv = .int .i64 d ∧ i = .int .i64 k ∧ k ≤ s.size ∧ pre.length = k ∧ Hid (Sb p q a b c d u v) ∧ Hid (pre ++ sb u v = sb p q) ∧ w = wr) (fun _ _ _ _ i _ => s.size - (intOf i).toNat)
  case atStart => exact ⟨0, 1, 1, 0, p, q, 0, [], rfl, rfl, rfl, rfl, rfl, by omega, rfl, Lib.hid (Sb.start hp1 hq1), Lib.hid rfl, by first | rfl | trivial⟩
  case round =>
    obtain ⟨a, b, c, d, u, v, k, pre, rfl, rfl, rfl, rfl, rfl, hk, hpl, hS, heq, hw⟩ := hrel
    subst hw
    have hu1 := hS.out.u1
    have hv1 := hS.out.v1
    obtain ⟨l1, l2⟩ := hS.out.le
    have hlt0 : k + (sb u v).length = s.size := by
      have := congrArg List.length heq.out
      rw [List.length_append, hNH.out] at this; omega
    have i1 : IntKind.i64.wrap ((a : Int) + (c : Int)) = ((a + c : Nat) : Int) := by rw [IntWalk.i64_in _ (by omega)]; omega
    have i2 : IntKind.i64.wrap ((b : Int) + (d : Int)) = ((b + d : Nat) : Int) := by rw [IntWalk.i64_in _ (by omega)]; omega
    by_cases huv : u = v
    · subst huv
      have h1 := hS.out.one hg
      subst h1
      obtain ⟨f1, f2⟩ := hS.out.fin
      rw [f1] at i1
      rw [f2] at i2
      have hend := sb_end hu1 (rfl : 1 = 1)
      rw [hend] at hlt0
      have hk2 : ¬ (k : Int) < (s.size : Int) := by simp at hlt0; omega
      clear heq hS hend f1 f2
      go_wp2_with fail
      refine bodyPost_ret (v := .tuple #[.int .i64 p, .int .i64 q, .bool true]) (by simp [results, Try.results44, go_sem, *]) rfl ⟨rfl, Below.refl _ _⟩
    · by_cases h1 : u < v
      · have hsb := sb_left hu1 h1
        have hS' := hS.out.left h1
        obtain ⟨z1, z2⟩ := hS'.le
        have hbt : bt s k = 76 := by
          have hk2 : k < (sb p q).length := by rw [hNH.out, ← hsz, ← hlt0, hsb, List.length_cons]; omega
          rw [hbl.out k hk2, ← heq.out, hsb, List.getD_eq_getElem?_getD, List.getElem?_append_right (by omega), hpl, Nat.sub_self]; rfl
        have hh : Hid ((pre ++ [76]) ++ sb u (v - u) = sb p q) := by show _ = _; rw [← heq.out, hsb, List.append_assoc]; rfl
        have hks : k < s.size := by rw [hsb, List.length_cons] at hlt0; omega
        have hS'H := Lib.hid hS'
        have j0 : (0 : Int) ≤ (k : Int) := by omega
        have j1 : (k : Int) < (s.size : Int) := by omega
        have j2 : IntKind.i64.wrap ((k : Int) + 1) = (k : Int) + 1 := IntWalk.i64_in _ (by omega)
        obtain ⟨m, hm⟩ : ∃ m, a + c = m := ⟨_, rfl⟩
        obtain ⟨n, hn⟩ : ∃ n, b + d = n := ⟨_, rfl⟩
        rw [hm] at i1 hS'H z1
        rw [hn] at i2 hS'H z2
        have k1 : ¬ (1000000000 : Int) < ((a : Int) + (m : Int)) := by omega
        have k2 : ¬ (1000000000 : Int) < ((b : Int) + (n : Int)) := by omega
        have k3 : IntKind.i64.wrap ((a : Int) + (m : Int)) = (a : Int) + (m : Int) := IntWalk.i64_in _ (by omega)
        have k4 : IntKind.i64.wrap ((b : Int) + (n : Int)) = (b : Int) + (n : Int) := IntWalk.i64_in _ (by omega)
        clear hsb hm hn heq hS hS' hlt0 huv
        go_wp2_with fail
        exact ⟨⟨a, b, m, n, u, v - u, k + 1, pre ++ [76], rfl, rfl, rfl, rfl, by go_num, by omega, by simp [hpl], hS'H, hh, by first | rfl | trivial⟩, by simp [intOf]; omega⟩
      · have h2 : v < u := by omega
        have hsb := sb_right hv1 h2
        have hS' := hS.out.right h2
        obtain ⟨z1, z2⟩ := hS'.le
        have hbt : bt s k = 82 := by
          have hk2 : k < (sb p q).length := by rw [hNH.out, ← hsz, ← hlt0, hsb, List.length_cons]; omega
          rw [hbl.out k hk2, ← heq.out, hsb, List.getD_eq_getElem?_getD, List.getElem?_append_right (by omega), hpl, Nat.sub_self]; rfl
        have hh : Hid ((pre ++ [82]) ++ sb (u - v) v = sb p q) := by show _ = _; rw [← heq.out, hsb, List.append_assoc]; rfl
        have hks : k < s.size := by rw [hsb, List.length_cons] at hlt0; omega
        have hS'H := Lib.hid hS'
        have j0 : (0 : Int) ≤ (k : Int) := by omega
        have j1 : (k : Int) < (s.size : Int) := by omega
        have j2 : IntKind.i64.wrap ((k : Int) + 1) = (k : Int) + 1 := IntWalk.i64_in _ (by omega)
        obtain ⟨m, hm⟩ : ∃ m, a + c = m := ⟨_, rfl⟩
        obtain ⟨n, hn⟩ : ∃ n, b + d = n := ⟨_, rfl⟩
        rw [hm] at i1 hS'H z1
        rw [hn] at i2 hS'H z2
        have k1 : ¬ (1000000000 : Int) < ((m : Int) + (c : Int)) := by omega
        have k2 : ¬ (1000000000 : Int) < ((n : Int) + (d : Int)) := by omega
        have k3 : IntKind.i64.wrap ((m : Int) + (c : Int)) = (m : Int) + (c : Int) := IntWalk.i64_in _ (by omega)
        have k4 : IntKind.i64.wrap ((n : Int) + (d : Int)) = (n : Int) + (d : Int) := IntWalk.i64_in _ (by omega)
        clear hsb hm hn heq hS hS' hlt0 huv h1
        go_wp2_with fail
        exact ⟨⟨m, n, c, d, u - v, v, k + 1, pre ++ [82], rfl, rfl, rfl, rfl, by go_num, by omega, by simp [hpl], hS'H, hh, by first | rfl | trivial⟩, by simp [intOf]; omega⟩
end Go.Proofs.Ytilbhingfnjppab

namespace Go.Proofs.Ytilbhingfnjppab
open Go.RowKit
/-- One step of the convergents. -/
def cvS (s : Nat × Nat × Nat × Nat) (k : Nat) : Nat × Nat × Nat × Nat := (s.2.2.1, s.2.2.2, k * s.2.2.1 + s.1, k * s.2.2.2 + s.2.1)
def cvAt (l : List Nat) (j : Nat) : Nat × Nat × Nat × Nat := (l.take j).foldl cvS (0, 1, 1, 0)
theorem cvAt_next (l : List Nat) (j : Nat) (h : j < l.length) : cvAt l (j + 1) = cvS (cvAt l j) (l.getD j 0) := by
  unfold cvAt
  rw [List.take_add_one, List.foldl_append]
  simp [h, List.getD_eq_getElem?_getD]
def cN (l : List Nat) (j : Nat) : Nat := (cvAt l (j + 1)).2.2.1
def dN (l : List Nat) (j : Nat) : Nat := (cvAt l (j + 1)).2.2.2
/-- Quotients that the program takes. -/
structure QOk (l : List Nat) : Prop where
  n1 : 1 ≤ l.length
  n2 : l.length ≤ 20
  at1 : ∀ j, j < l.length → min j 1 ≤ l.getD j 0 ∧ l.getD j 0 ≤ 1000
  most : ∀ j, j < l.length → cN l j ≤ 1000000000 ∧ dN l j ≤ 1000000000
def zN (l : List Nat) : List Int := l.map (fun (k : Nat) => (k : Int))
theorem zN_len (l : List Nat) : (zN l).length = l.length := by simp [zN]
theorem zN_at (l : List Nat) (j : Nat) : (zN l).getD j 0 = (l.getD j 0 : Int) := by
  by_cases h : j < l.length
  · simp [zN, List.getD_eq_getElem?_getD, h]
  · simp [zN, List.getD_eq_getElem?_getD, List.getElem?_eq_none (show l.length ≤ j by omega)]
theorem infoMat : (Try.prog.info? 32).map (fun i => (i.zero, i.size, i.bytes)) = some (some (.slice none 0 0), 1, 24) := by kernel_rfl
def cdR (l : List Nat) (j : Nat) : List Value := [.int .i64 (cN l j), .int .i64 (dN l j)]
/-- A slice of slices of two numbers, the first convergents, each in a block of its own. -/
def OM2 (w : World) (B g n cap : Nat) (l : List Nat) : Prop :=
  ∃ (V : List Value) (f : Nat → Nat), V.length = n ∧ w.ownsRow B 32 1 (.slice (some ⟨g, 0, none⟩) n cap) n V ∧ (∀ j, j < n → V[j]? = some (.slice (some ⟨f j, 0, none⟩) 2 2) ∧ w.ownsRow B 3 1 (.slice (some ⟨f j, 0, none⟩) 2 2) 2 (cdR l j) ∧ f j ≠ g)
theorem om_below {w w' : World} {B g n cap : Nat} {l : List Nat} (h : OM2 w B g n cap l) (hb : Below w.heap.size w w') : OM2 w' B g n cap l := by
  obtain ⟨V, f, h1, h2, h3⟩ := h
  exact ⟨V, f, h1, own_below h2 hb, fun j hj => by obtain ⟨q1, q3, q4⟩ := h3 j hj; exact ⟨q1, own_below q3 hb, q4⟩⟩
theorem om_lt {w : World} {B g n cap : Nat} {l : List Nat} (h : OM2 w B g n cap l) : B ≤ g ∧ g < w.heap.size := by
  obtain ⟨V, f, h1, h2, h3⟩ := h
  exact h2.lt g rfl
theorem om_nil (w : World) (B : Nat) (hB : B ≤ w.heap.size) (l : List Nat) : OM2 (w.alloc (.cells #[] 32)) B w.heap.size 0 0 l :=
  ⟨[], fun _ => 0, rfl, World.ownsRow_lit (base := B) (e := 32) (size := 1) w #[] 0 hB (by decide) rfl, fun j hj => absurd hj (by omega)⟩
theorem heap_newT (w : World) (a b : Obj) : ((w.alloc a).alloc b).heap[w.heap.size + 1]? = some b := by
  have := heap_alloc_new (w.alloc a) b
  rw [World.size_alloc] at this
  exact this
theorem om_app {w wr w1 : World} {B g n cap cap' gg : Nat} {l : List Nat} {V : List Value} {f : Nat → Nat}
    (hrows : ∀ j, j < n → V[j]? = some (.slice (some ⟨f j, 0, none⟩) 2 2) ∧ w.ownsRow B 3 1 (.slice (some ⟨f j, 0, none⟩) 2 2) 2 (cdR l j) ∧ f j ≠ g) (hB : B ≤ w.heap.size) (hgl : g < w.heap.size) (hVl : V.length = n)
    (hwr : wr = (w.alloc (.cells #[.int .i64 (cN l n), .int .i64 (dN l n)] 3)).alloc (.cells #[.slice (some ⟨w.heap.size, 0, none⟩) 2 2] 32))
    (hown : w1.ownsRow B 32 1 (.slice (some ⟨gg, 0, none⟩) (n + 1) cap') (n + 1) (V ++ [.slice (some ⟨w.heap.size, 0, none⟩) 2 2]))
    (hg : wr.grownBy w1 (some g)) (hat : (Value.slice (some ⟨g, 0, none⟩) n cap).ownBlock = some gg ∨ gg = w.heap.size + 1 + 1) : OM2 w1 B gg (n + 1) cap' l := by
  subst hwr
  have hgg : gg = g ∨ gg = w.heap.size + 1 + 1 := by
    rcases hat with e | e
    · left; have : g = gg := by simpa [Value.ownBlock] using e
      omega
    · exact .inr e
  have hlt : ∀ j, j < n → f j < w.heap.size := fun j hj => ((hrows j hj).2.1.lt (f j) rfl).2
  refine ⟨V ++ [.slice (some ⟨w.heap.size, 0, none⟩) 2 2], fun j => if j < n then f j else w.heap.size, by simp [hVl], hown, fun j hj => ?_⟩
  by_cases e : j < n
  · obtain ⟨q1, q3, q4⟩ := hrows j e
    have hfl := hlt j e
    simp only [if_pos e]
    refine ⟨by rw [List.getElem?_append_left (by omega)]; exact q1, ?_, by omega⟩
    exact ((q3.alloc _).alloc _).kept hg (.inr (by simp [Value.ownBlock]; omega))
  · obtain rfl : j = n := by omega
    simp only [if_neg e]
    refine ⟨by rw [List.getElem?_append_right (by omega), hVl, Nat.sub_self]; rfl, ?_, by omega⟩
    exact ((World.ownsRow_lit (base := B) (e := 3) (size := 1) w #[.int .i64 (cN l j), .int .i64 (dN l j)] 2 hB (by decide) rfl).alloc _).kept hg (.inr (by simp [Value.ownBlock]; omega))
set_option maxRecDepth 20000 in
set_option maxHeartbeats 4000000 in
theorem areQ_yes (x : Option Addr) (n cap : Nat) (l : List Nat) (w : World) (h : RI w x n (zN l)) (hq : QOk l) :
    Calls Try.prog 77 #[.slice x n cap] w fun e w' => e = .returned (.bool true) ∧ Below w.heap.size w w' := by
  have hl : l.length = n := by have := h.1; rwa [zN_len] at this
  have n1 := hq.n1
  have n2 := hq.n2
  have hat := Lib.hid hq.at1
  have hIn : ∀ w, Calls Try.prog 65 #[.int .i64 n, .int .i64 1, .int .i64 20] w fun e w' => e = .returned (.bool true) ∧ w = w' := fun w => by
    have := within_any (n : Int) 1 20 w
    rwa [inB_true.2 (by omega)] at this
  have hlH := Lib.hid hl
  rw [hl] at n1 n2
  clear hl hq
  go_enter Try.func77, Try.ntmps77
  go_wp2_with fail
  go_loopw [7] (fun i wr => ∃ k : Nat, k ≤ n ∧ i = .int .i64 k ∧ w = wr) (fun i _ => n - (intOf i).toNat)
  case atStart => exact ⟨0, by omega, rfl, by first | rfl | trivial⟩
  case round =>
    obtain ⟨k, hkn, rfl, rfl⟩ := hrel
    by_cases hlt : k < n
    · obtain ⟨b, off, rfl, hb, hc⟩ := rI_cell h (by omega)
      have hck := hc k hlt
      rw [zN_at] at hck
      obtain ⟨q1, q2⟩ := hat.out k (by rw [hlH.out]; exact hlt)
      obtain ⟨z, hz⟩ : ∃ z, l.getD k 0 = z := ⟨_, rfl⟩
      rw [hz] at hck q1 q2
      clear hz
      have hk0 : (0 : Int) ≤ (k : Int) := by omega
      have hk1 : (k : Int) < (n : Int) := by omega
      have hI1 : 1 ≤ z → ∀ w, Calls Try.prog 65 #[.int .i64 z, .int .i64 1, .int .i64 1000] w fun e w' => e = .returned (.bool true) ∧ w = w' := fun hh w => by
        have := within_any (z : Int) 1 1000 w
        rwa [inB_true.2 (by omega)] at this
      have hI0 : ∀ w, Calls Try.prog 65 #[.int .i64 z, .int .i64 k, .int .i64 1000] w fun e w' => ∃ b, e = .returned (.bool b) ∧ (k ≤ z → b = true) ∧ w = w' := fun w => by
        refine (within_any (z : Int) k 1000 w).mono ?_
        rintro e w' ⟨h1, h2⟩
        exact ⟨_, h1, fun h => inB_true.2 (by omega), h2⟩
      clear hc
      go_wp2_with (first | (go_at_call 65; (with_reducible refine (hI1 (by omega) _).mono ?_); rintro e w1 ⟨rfl, rfl⟩) | (go_at_call 65; (with_reducible refine (hI0 _).mono ?_); rintro e w1 ⟨bb, rfl, hbb, rfl⟩; obtain rfl := hbb (by omega)))
      all_goals exact ⟨⟨k + 1, by omega, by go_num, by first | rfl | trivial⟩, by simp [intOf]; omega⟩
    · obtain rfl : n = k := by omega
      go_wp2_with (go_at_call 65; (with_reducible refine (hIn _).mono ?_); rintro e w1 ⟨rfl, rfl⟩)
      go_ret
      exact ⟨rfl, Below.refl _ _⟩
set_option maxRecDepth 20000 in
set_option maxHeartbeats 4000000 in
theorem conv_yes (x : Option Addr) (n cap : Nat) (l : List Nat) (w : World) (h : RI w x n (zN l)) (hq : QOk l) :
    Calls Try.prog 78 #[.slice x n cap] w fun e w' => ∃ g c, e = .returned (.tuple #[.slice (some ⟨g, 0, none⟩) n c, .bool true]) ∧ OM2 w' w.heap.size g n c l ∧ Below w.heap.size w w' := by
  obtain ⟨i0, hi0, hz0, hz1, hz2⟩ := info_parts infoMat
  have hl : l.length = n := by have := h.1; rwa [zN_len] at this
  have n1 := hq.n1
  have n2 := hq.n2
  have hat := Lib.hid hq.at1
  have hmost := Lib.hid hq.most
  have hlH := Lib.hid hl
  rw [hl] at n1 n2
  have hO := om_nil w w.heap.size (Nat.le_refl _) l
  clear hl hq
  go_enter Try.func78, Try.ntmps78
  go_wp2_with fail
  go_loopw [4, 5, 6, 7, 8, 14] (fun o av bv' cv dv i wr => ∃ (k a b c d g cp : Nat), k ≤ n ∧ i = .int .i64 k ∧ o = .slice (some ⟨g, 0, none⟩) k cp ∧ av = .int .i64 a ∧ bv' = .int .i64 b ∧ cv = .int .i64 c ∧ dv = .int .i64 d ∧ Hid (cvAt l k = (a, b, c, d)) ∧ a ≤ 1000000000 ∧ b ≤ 1000000000 ∧ c ≤ 1000000000 ∧ d ≤ 1000000000 ∧ OM2 wr w.heap.size g k cp l ∧ Below w.heap.size w wr) (fun _ _ _ _ _ i _ => n - (intOf i).toNat)
  case atStart => exact ⟨0, 0, 1, 1, 0, w.heap.size, 0, by omega, rfl, rfl, rfl, rfl, rfl, rfl, Lib.hid rfl, by omega, by omega, by omega, by omega, hO, by (repeat (first | with_reducible exact Below.refl _ _ | assumption | with_reducible refine Qdrew ?_ | with_reducible refine QdrewN ?_ | ((with_reducible refine Qset ?_ ?_); exact (by ((try simp only [World.size_alloc, World.size_setCell, World.size_drew, size_drewN]); (try dsimp only); omega))) | ((with_reducible refine Qalloc ?_ ?_); exact (by ((try simp only [World.size_alloc, World.size_setCell, World.size_drew, size_drewN]); (try dsimp only); omega))) | refine Qtrans (by assumption) (by ((try simp only [World.size_alloc, World.size_setCell, World.size_drew, size_drewN]); (try dsimp only); omega)) ?_))⟩
  case round =>
    clear hO
    obtain ⟨k, a, b, c, d, g, cp, hkn, rfl, rfl, rfl, rfl, rfl, rfl, hcv, ha, hb', hc', hd, hom, hbel⟩ := hrel
    have hzr := hbel.size
    by_cases hlt : k < n
    · obtain ⟨b0, off, rfl, hb, hcl⟩ := rI_cell h (by omega)
      have hck0 := hcl k hlt
      rw [zN_at] at hck0
      have hck := (hbel.cell (by exact hb)).trans hck0
      have hnx := cvAt_next l k (by rw [hlH.out]; exact hlt)
      obtain ⟨q1, q2⟩ := hat.out k (by rw [hlH.out]; exact hlt)
      obtain ⟨m1, m2⟩ := hmost.out k (by rw [hlH.out]; exact hlt)
      obtain ⟨z, hz⟩ : ∃ z, l.getD k 0 = z := ⟨_, rfl⟩
      have hcN : cN l k = z * c + a := by unfold cN; rw [hnx, hcv.out, hz]; rfl
      have hdN : dN l k = z * d + b := by unfold dN; rw [hnx, hcv.out, hz]; rfl
      have hnx' : Hid (cvAt l (k + 1) = (c, d, z * c + a, z * d + b)) := by show _ = _; rw [hnx, hcv.out, hz]; rfl
      rw [hcN] at m1
      rw [hdN] at m2
      rw [hz] at hck hck0 q1 q2
      have hb0r : b0 < wr.heap.size := by omega
      obtain ⟨X, hX⟩ : ∃ X, z * c = X := ⟨_, rfl⟩
      obtain ⟨Y, hY⟩ : ∃ Y, z * d = Y := ⟨_, rfl⟩
      rw [hX] at m1 hcN hnx'
      rw [hY] at m2 hdN hnx'
      have e1 : IntKind.i64.wrap ((z : Int) * (c : Int)) = (X : Int) := by rw [← Int.natCast_mul, hX, IntWalk.i64_in _ (by omega)]
      have e2 : IntKind.i64.wrap ((z : Int) * (d : Int)) = (Y : Int) := by rw [← Int.natCast_mul, hY, IntWalk.i64_in _ (by omega)]
      obtain ⟨C, hC⟩ : ∃ C, X + a = C := ⟨_, rfl⟩
      obtain ⟨D, hD⟩ : ∃ D, Y + b = D := ⟨_, rfl⟩
      have e3 : IntKind.i64.wrap ((X : Int) + (a : Int)) = (C : Int) := by rw [IntWalk.i64_in _ (by omega)]; omega
      have e4 : IntKind.i64.wrap ((Y : Int) + (b : Int)) = (D : Int) := by rw [IntWalk.i64_in _ (by omega)]; omega
      rw [hC] at m1 hcN hnx'
      rw [hD] at m2 hdN hnx'
      have g1 : ¬ (1000000000 : Int) < (C : Int) := by omega
      have g2 : ¬ (1000000000 : Int) < (D : Int) := by omega
      have hk0 : (0 : Int) ≤ (k : Int) := by omega
      have hk1 : (k : Int) < (n : Int) := by omega
      have hcNH := Lib.hid hcN
      have hdNH := Lib.hid hdN
      obtain ⟨hgB, hgl⟩ := om_lt hom
      obtain ⟨V, f, hVl, hown, hrows⟩ := hom
      have hrowsH := Lib.hid hrows
      clear hrows hcl hnx hz hX hY hC hD hck0 hcN hdN hcv
      go_wp2_with (at_builtin; refine wpList_append_lies _ rfl _ _ _ rfl (w.heap.size) 32 i0 _ 1 24 Try.underlying59 hi0 hz0 hz1 hz2 rfl (by decide) (.slice (some ⟨g, 0, none⟩) k cp) (k) (V) (by rfl) (((hown.alloc _).alloc _)) ⟨wr.heap.size + 1, 0, none⟩ 1 1 [.slice (some ⟨wr.heap.size, 0, none⟩) 2 2] (by rfl) (by rfl) (World.news_of_block (cs := #[.slice (some ⟨wr.heap.size, 0, none⟩) 2 2]) (t := 32) (fr := (0, 0)) (heap_newT wr _ _)) (by simp [Value.oneCell']) (by omega) (by unfold maxLen; omega) (by omega) (by simp; omega) (wr.heap.size + 1 + 1) (by simp) ?_; intro gg capA w9 hown9 hgrow hatg hltg)
      have hb9 : Below w.heap.size w w9 := Below.grown (((hbel.alloc hzr _).alloc (by simp; omega) _)) hgrow (by simp; omega) (fun j hj => by cases hj; exact hgB)
      refine ⟨⟨k + 1, c, d, C, D, gg, capA, by omega, by go_num, rfl, rfl, rfl, rfl, rfl, hnx', by omega, by omega, by omega, by omega, om_app hrowsH.out hzr hgl hVl (by rw [hcNH.out, hdNH.out]) hown9 hgrow hatg, hb9⟩, by simp [intOf]; omega⟩
    · obtain rfl : n = k := by omega
      go_wp2_with fail
      refine bodyPost_ret (v := .tuple #[.slice (some ⟨g, 0, none⟩) n cp, .bool true]) (by simp [results, Try.results78, go_sem, *]) rfl ⟨g, cp, rfl, hom, hbel⟩
set_option maxRecDepth 20000 in
set_option maxHeartbeats 4000000 in
theorem ConvOf_yes (x : Option Addr) (n cap : Nat) (l : List Nat) (w : World) (h : RI w x n (zN l)) (hq : QOk l) :
    Calls Try.prog 37 #[.slice x n cap] w fun e w' => ∃ g c, e = .returned (.slice (some ⟨g, 0, none⟩) n c) ∧ OM2 w' w.heap.size g n c l ∧ Below w.heap.size w w' := by
  go_enter Try.func37, Try.ntmps37
  go_wp2_with (first | (go_at_call 77; refine (areQ_yes x n cap l _ h hq).mono ?_; rintro e w1 ⟨rfl, hb1⟩; have hz1 := hb1.size; have hr1 := rI_below h (Nat.le_refl _) hb1) | (go_at_call 78; refine (conv_yes x n cap l _ hr1 hq).mono ?_; rintro e w2 ⟨g, c, rfl, hom, hb2⟩))
  go_ret
  obtain ⟨V, f, q1, q2, q3⟩ := hom
  exact ⟨g, c, rfl, ⟨V, f, q1, q2.mono hz1, fun j hj => ⟨(q3 j hj).1, (q3 j hj).2.1.mono hz1, (q3 j hj).2.2⟩⟩, Qtrans hb2 hz1 hb1⟩
set_option maxRecDepth 20000 in
set_option maxHeartbeats 4000000 in
theorem FracOf_yes (x : Option Addr) (n cap : Nat) (l : List Nat) (w : World) (h : RI w x n (zN l)) (hq : QOk l) :
    Calls Try.prog 36 #[.slice x n cap] w fun e w' => e = .returned (.tuple #[.int .i64 (cN l (n - 1)), .int .i64 (dN l (n - 1)), .bool true]) ∧ Below w.heap.size w w' := by
  have hl : l.length = n := by have := h.1; rwa [zN_len] at this
  have n1 := hq.n1
  have n2 := hq.n2
  rw [hl] at n1 n2
  clear hl
  obtain ⟨m, rfl⟩ : ∃ m, n = m + 1 := ⟨n - 1, by omega⟩
  rw [show m + 1 - 1 = m by omega]
  go_enter Try.func36, Try.ntmps36
  go_upto_region 2 with (go_at_call 37; refine (ConvOf_yes x (m + 1) cap l _ h hq).mono ?_; rintro e w1 ⟨g, c, rfl, hom, hb1⟩)
  clear h hq
  obtain ⟨V, f, q1, q2, q3⟩ := hom
  obtain ⟨r1, r2, r3⟩ := q3 m (by omega)
  have c0 := own_cell q2 m (by omega)
  rw [r1] at c0
  have c1 := own_cell r2 0 (by omega)
  have c2 := own_cell r2 1 (by omega)
  simp only [cdR, Nat.zero_add, List.getElem?_cons_zero, List.getElem?_cons_succ] at c1 c2
  have hm2 : IntKind.i64.wrap (((m + 1 : Nat) : Int) - 1) = (m : Int) := by rw [IntWalk.i64_in _ (by omega)]; omega
  have hm3 : ¬ ((m + 1 : Nat) : Int) = 0 := by omega
  have hm0 : (0 : Int) ≤ (m : Int) := by omega
  have hm4 : (m : Int) < ((m + 1 : Nat) : Int) := by omega
  have hg1 := (q2.lt g rfl).2
  have hg2 := (r2.lt (f m) rfl).2
  clear q3 r1 q1
  go_wp2_with fail
  go_region
  all_goals
    go_wp2_with fail
    refine bodyPost_ret (v := .tuple #[.int .i64 (cN l m), .int .i64 (dN l m), .bool true]) (by simp [results, Try.results36, go_sem, *]) rfl ⟨rfl, by (repeat (first | with_reducible exact Below.refl _ _ | assumption | with_reducible refine Qdrew ?_ | with_reducible refine QdrewN ?_ | ((with_reducible refine Qset ?_ ?_); exact (by ((try simp only [World.size_alloc, World.size_setCell, World.size_drew, size_drewN]); (try dsimp only); omega))) | ((with_reducible refine Qalloc ?_ ?_); exact (by ((try simp only [World.size_alloc, World.size_setCell, World.size_drew, size_drewN]); (try dsimp only); omega))) | refine Qtrans (by assumption) (by ((try simp only [World.size_alloc, World.size_setCell, World.size_drew, size_drewN]); (try dsimp only); omega)) ?_))⟩
end Go.Proofs.Ytilbhingfnjppab

namespace Go.Proofs.Ytilbhingfnjppab
open Go.RowKit
def allB (n : Nat) (f : Nat → Bool) : Bool := Nat.rec true (fun k b => b && f k) n
theorem allB_at {f : Nat → Bool} : ∀ {n : Nat}, allB n f = true → ∀ k, k < n → f k = true
  | 0, _, k, hk => absurd hk (by omega)
  | n + 1, h, k, hk => by
    have h' : (allB n f && f n) = true := h
    rw [Bool.and_eq_true] at h'
    by_cases e : k = n
    · rw [e]; exact h'.2
    · exact allB_at h'.1 k (by omega)
/-- What holds of one round: from state s, at place i. -/
def stepB : Nat × Nat × Nat × Nat → Nat → List Nat → Bool
  | _, _, [] => true
  | s, i, k :: r => Nat.ble (min i 1) k && Nat.ble k 60 && Nat.ble (cvS s k).2.2.1 60 && Nat.ble (cvS s k).2.2.2 60 &&
    (if i % 2 = 0 then Nat.beq ((cvS s k).2.2.2 * s.2.2.1) ((cvS s k).2.2.1 * s.2.2.2 + 1) else Nat.beq ((cvS s k).2.2.1 * s.2.2.2) ((cvS s k).2.2.2 * s.2.2.1 + 1)) && stepB (cvS s k) (i + 1) r
def sumN : List Nat → Nat
  | [] => 0
  | k :: r => k + sumN r
def frB (p q : Nat) : Bool :=
  let l := qs p q
  let s := l.foldl cvS (0, 1, 1, 0)
  Nat.ble 1 l.length && Nat.ble l.length 20 && stepB (0, 1, 1, 0) 0 l && Nat.beq (s.2.2.1 * q) (s.2.2.2 * p) && Nat.ble 1 s.2.2.2 && Nat.beq (Nat.gcd s.2.2.1 s.2.2.2) 1 &&
  (Nat.beq l.length 1 || Nat.ble 2 (l.getD (l.length - 1) 0)) && (Nat.beq s.2.2.1 0 || Nat.beq ((sb s.2.2.1 s.2.2.2).length + 1) (sumN l))
set_option maxRecDepth 100000 in
theorem fr_all : allB 61 (fun p => allB 60 (fun q => frB p (q + 1))) = true := by decide +kernel
theorem ble_le {a b : Nat} (h : Nat.ble a b = true) : a ≤ b := Nat.le_of_ble_eq_true h
theorem beq_eq {a b : Nat} (h : Nat.beq a b = true) : a = b := Nat.eq_of_beq_eq_true h
theorem stepB_at : ∀ (r : List Nat) (s : Nat × Nat × Nat × Nat) (i : Nat), stepB s i r = true → ∀ j, j < r.length →
    (min (i + j) 1 ≤ r.getD j 0 ∧ r.getD j 0 ≤ 60) ∧ ((r.take (j + 1)).foldl cvS s).2.2.1 ≤ 60 ∧ ((r.take (j + 1)).foldl cvS s).2.2.2 ≤ 60 ∧
    ((i + j) % 2 = 0 → ((r.take (j + 1)).foldl cvS s).2.2.2 * ((r.take j).foldl cvS s).2.2.1 = ((r.take (j + 1)).foldl cvS s).2.2.1 * ((r.take j).foldl cvS s).2.2.2 + 1) ∧
    ((i + j) % 2 ≠ 0 → ((r.take (j + 1)).foldl cvS s).2.2.1 * ((r.take j).foldl cvS s).2.2.2 = ((r.take (j + 1)).foldl cvS s).2.2.2 * ((r.take j).foldl cvS s).2.2.1 + 1)
  | [], _, _, _, j, hj => absurd hj (by simp)
  | k :: r, s, i, h, j, hj => by
    unfold stepB at h
    simp only [Bool.and_eq_true] at h
    obtain ⟨⟨⟨⟨⟨h1, h2⟩, h3⟩, h4⟩, h5⟩, h6⟩ := h
    match j with
    | 0 =>
      refine ⟨⟨by rw [Nat.add_zero]; exact ble_le h1, ble_le h2⟩, ble_le h3, ble_le h4, fun e => ?_, fun e => ?_⟩
      · rw [Nat.add_zero] at e; rw [if_pos e] at h5; exact beq_eq h5
      · rw [Nat.add_zero] at e; rw [if_neg e] at h5; exact beq_eq h5
    | j + 1 =>
      have := stepB_at r (cvS s k) (i + 1) h6 j (by simpa using hj)
      rw [show i + 1 + j = i + (j + 1) by omega] at this
      exact this
/-- What holds of a fraction's quotients. -/
structure FrOk (p q : Nat) : Prop where
  ok : QOk (qs p q)
  eq : cN (qs p q) ((qs p q).length - 1) * q = dN (qs p q) ((qs p q).length - 1) * p
  d1 : 1 ≤ dN (qs p q) ((qs p q).length - 1)
  gcd : Nat.gcd (cN (qs p q) ((qs p q).length - 1)) (dN (qs p q) ((qs p q).length - 1)) = 1
  last : (qs p q).length = 1 ∨ 2 ≤ (qs p q).getD ((qs p q).length - 1) 0
  path : cN (qs p q) ((qs p q).length - 1) = 0 ∨ (sb (cN (qs p q) ((qs p q).length - 1)) (dN (qs p q) ((qs p q).length - 1))).length + 1 = sumN (qs p q)
  few : ∀ j, j < (qs p q).length → (qs p q).getD j 0 ≤ 60 ∧ cN (qs p q) j ≤ 60 ∧ dN (qs p q) j ≤ 60
  even : ∀ j, j + 1 < (qs p q).length → (j + 1) % 2 = 0 → dN (qs p q) (j + 1) * cN (qs p q) j = cN (qs p q) (j + 1) * dN (qs p q) j + 1
  odd : ∀ j, j + 1 < (qs p q).length → (j + 1) % 2 ≠ 0 → cN (qs p q) (j + 1) * dN (qs p q) j = dN (qs p q) (j + 1) * cN (qs p q) j + 1
theorem fr_ok (p q : Nat) (hp : p ≤ 60) (hq1 : 1 ≤ q) (hq : q ≤ 60) : FrOk p q := by
  have h := allB_at (allB_at fr_all p (by omega)) (q - 1) (by omega)
  rw [show q - 1 + 1 = q by omega] at h
  unfold frB at h
  simp only [Bool.and_eq_true] at h
  obtain ⟨⟨⟨⟨⟨⟨⟨h1, h2⟩, h3⟩, h4⟩, h5⟩, h6⟩, h7⟩, h8⟩ := h
  have hs := stepB_at _ _ _ h3
  clear h3
  obtain ⟨l, hl⟩ : ∃ l, qs p q = l := ⟨_, rfl⟩
  rw [hl] at h1 h2 h4 h5 h6 h7 h8 hs
  have n1 := ble_le h1
  have n2 := ble_le h2
  have ef : l.foldl cvS (0, 1, 1, 0) = cvAt l (l.length - 1 + 1) := by
    unfold cvAt
    rw [show l.length - 1 + 1 = l.length by omega, List.take_length]
  rw [ef] at h4 h5 h6 h8
  refine ⟨⟨by rw [hl]; exact n1, by rw [hl]; exact n2, fun j hj => ?_, fun j hj => ?_⟩, by rw [hl]; exact beq_eq h4, by rw [hl]; exact ble_le h5, by rw [hl]; exact beq_eq h6, ?_, ?_, fun j hj => ?_, fun j hj he => ?_, fun j hj he => ?_⟩
  · rw [hl] at hj ⊢
    obtain ⟨⟨q1, q2⟩, -⟩ := hs j hj
    rw [Nat.zero_add] at q1
    exact ⟨q1, by omega⟩
  · rw [hl] at hj ⊢
    obtain ⟨-, q3, q4, -⟩ := hs j hj
    exact ⟨Nat.le_trans q3 (by decide), Nat.le_trans q4 (by decide)⟩
  · rw [hl]
    rw [Bool.or_eq_true] at h7
    rcases h7 with e | e
    · exact .inl (beq_eq e)
    · exact .inr (ble_le e)
  · rw [hl]
    rw [Bool.or_eq_true] at h8
    rcases h8 with e | e
    · exact .inl (beq_eq e)
    · exact .inr (beq_eq e)
  · rw [hl] at hj ⊢
    obtain ⟨⟨-, q2⟩, q3, q4, -⟩ := hs j hj
    exact ⟨q2, q3, q4⟩
  · rw [hl] at hj ⊢
    obtain ⟨-, -, -, q5, -⟩ := hs (j + 1) hj
    exact q5 (by omega)
  · rw [hl] at hj ⊢
    obtain ⟨-, -, -, -, q6⟩ := hs (j + 1) hj
    exact q6 (by omega)
end Go.Proofs.Ytilbhingfnjppab
