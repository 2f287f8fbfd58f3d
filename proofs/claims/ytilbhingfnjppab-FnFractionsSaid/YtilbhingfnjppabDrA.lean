/- The laws' draws: words, and splitting at a comma. -/
import Derived.Test.YtilbhingfnjppabCur
import Derived.Test.YtilbhingfnjppabSubst
set_option linter.unusedSimpArgs false
set_option linter.unusedVariables false
namespace Go.Proofs.Ytilbhingfnjppab
open Go.RowKit
set_option maxRecDepth 20000 in
set_option maxHeartbeats 1000000 in
theorem l01Once_any (B g : Nat) (x : Option Addr) (n cap : Nat) (k : Int) (hk1 : 1 ≤ k) (hk2 : k ≤ 256) (w : World) (hB : B ≤ g) (hr : RB B w x n) (hc : Cur w g x n cap) :
    Calls Try.prog 95 #[.pointer (some ⟨g, 0, none⟩), .int .i64 k] w fun e w' => ∃ b : Bool, e = .returned (.bool b) ∧ Cur w' g x n cap ∧ w.grownBy w' (some g) := by
  have hC := l01Below_any B g x n cap k hk1 hk2 w hB hr hc
  clear hr hc
  go_enter Try.func95, Try.ntmps95
  go_wp2_with (go_at_call 61; refine hC.mono ?_; rintro e w1 ⟨v, rfl, hv, hc1, hg1⟩)
  go_ret
  exact ⟨_, rfl, hc1, hg1⟩
theorem grown_new {w a b : World} {g : Nat} {r : Option Nat} (h1 : w.grownBy a (some g)) (h2 : a.grownBy b r) (hr : ∀ k, r = some k → w.heap.size ≤ k) : w.grownBy b (some g) := by
  refine ⟨h2.os.trans h1.os, h2.tape.trans h1.tape, h2.output.trans h1.output, Nat.le_trans h1.size h2.size, fun k hk hne => ?_⟩
  refine (h2.block k (Nat.lt_of_lt_of_le hk h1.size) (fun e => ?_)).trans (h1.block k hk hne)
  have := hr k e.symm; omega
theorem grownG_below {w a b : World} {g : Nat} (h1 : w.grownBy a (some g)) (h2 : Below a.heap.size a b) : w.grownBy b (some g) := grown_new h1 (below_grown h2) (fun k hk => by cases hk)
theorem grown_alloc {w a : World} {g : Nat} (h1 : w.grownBy a (some g)) (o : Obj) : w.grownBy (a.alloc o) (some g) := grownG_below h1 ((Below.refl _ a).alloc (Nat.le_refl _) _)
theorem grown_gg {w a b : World} {g : Nat} (h1 : w.grownBy a (some g)) (h2 : a.grownBy b (some g)) : w.grownBy b (some g) := h1.trans h2
theorem cur_lt {w : World} {g : Nat} {x : Option Addr} {n cap : Nat} (h : Cur w g x n cap) : g < w.heap.size := by obtain ⟨_, _, _, _, _, _, _, q⟩ := h; exact q
theorem ltr_nat {v : Int} (h0 : 0 ≤ v) (h1 : v ≤ 25) : ((UInt8.ofNat (97 + v.toNat)).toNat : Int) = 97 + v := by
  rw [UInt8.toNat_ofNat', Nat.mod_eq_of_lt (by omega)]
  omega
set_option maxRecDepth 20000 in
set_option maxHeartbeats 2000000 in
/-- N letters among the first k. -/
theorem l02Word_any (B g : Nat) (x : Option Addr) (n cap : Nat) (N : Nat) (hN : N ≤ 1000) (k : Int) (hk1 : 1 ≤ k) (hk2 : k ≤ 26) (w : World) (hB : B ≤ g) (hr : RB B w x n) (hc : Cur w g x n cap) :
    Calls Try.prog 60 #[.pointer (some ⟨g, 0, none⟩), .int .i64 N, .int .i64 k] w fun e w' => ∃ l : List UInt8, e = .returned (.string ⟨l.toArray⟩) ∧ l.length = N ∧ (∀ b ∈ l, 97 ≤ b.toNat ∧ (b.toNat : Int) < 97 + k) ∧ Cur w' g x n cap ∧ w.grownBy w' (some g) := by
  have hgw := cur_lt hc
  obtain ⟨i0, hi0, hz0, hz1, hz2⟩ := info_parts infoB
  have hc0 := cur_below hc ((Below.refl _ w).alloc (Nat.le_refl _) (.cells #[] 5)) hgw
  have ho0 : (w.alloc (.cells #[] 5)).ownsRow w.heap.size 5 1 (.slice (some ⟨w.heap.size, 0, none⟩) 0 0) 0 (bv []) := World.ownsRow_lit w #[] 0 (Nat.le_refl _) (by decide) rfl
  have hg0 : w.grownBy (w.alloc (.cells #[] 5)) (some g) := grown_alloc (World.grownBy.refl _ _) _
  have hrH := Lib.hid hr
  clear hr hc
  go_enter Try.func60, Try.ntmps60
  go_wp2_with fail
  go_loopw [7, 8] (fun out i wr => ∃ (j q cp : Nat) (l : List UInt8), j ≤ N ∧ i = .int .i64 j ∧ out = .slice (some ⟨q, 0, none⟩) j cp ∧ l.length = j ∧ (∀ b ∈ l, 97 ≤ b.toNat ∧ (b.toNat : Int) < 97 + k) ∧ wr.ownsRow w.heap.size 5 1 (.slice (some ⟨q, 0, none⟩) j cp) j (bv l) ∧ Cur wr g x n cap ∧ w.grownBy wr (some g)) (fun _ i _ => N - (intOf i).toNat)
  case atStart => exact ⟨0, w.heap.size, 0, [], by omega, rfl, rfl, rfl, by simp, ho0, hc0, hg0⟩
  case round =>
    clear hc0 ho0 hg0
    obtain ⟨j, q, cp, l, hj, rfl, rfl, hl, hlb, hown, hc, hg⟩ := hrel
    have hwz := hg.size
    have hqb := (hown.lt q rfl).1
    have hql := (hown.lt q rfl).2
    by_cases hlt : j < N
    · have hC := l01Below_any B g x n cap k hk1 (by omega) wr hB (rB_grown hrH.out hg (by omega) hB) hc
      have hlb' := Lib.hid hlb
      have hl' := Lib.hid hl
      have i1 : (j : Int) < (N : Int) := by omega
      have i8 : IntKind.i64.wrap ((j : Int) + 1) = (j : Int) + 1 := IntWalk.i64_in _ (by omega)
      clear hc hlb hl
      go_wp2_with (first | (go_at_call 61; refine hC.mono ?_; rintro e w6 ⟨v, rfl, ⟨hv0, hv1⟩, hc6, hg6⟩; have hz6 := hg6.size; have hown6 := hown.kept hg6 (.inr (by simp [Value.ownBlock]; omega)); have i7 : IntKind.u8.wrap (97 + v) = 97 + v := IntWalk.u8_in _ (by omega); have i6 : IntKind.i64.wrap (97 + v) = 97 + v := IntWalk.i64_in _ (by omega)) | (at_builtin; refine wpList_append_lies _ rfl _ _ _ rfl (w.heap.size) 5 i0 _ 1 1 Try.underlying22 hi0 hz0 hz1 hz2 rfl (by decide) (.slice (some ⟨q, 0, none⟩) j cp) (j) (bv l) (by rfl) (hown6.alloc _) ⟨(w6).heap.size, 0, none⟩ 1 1 [.int .u8 (97 + v)] (by rfl) (by rfl) (World.news_of_block (cs := #[.int .u8 (97 + v)]) (t := 5) (fr := (0, 0)) (heap_alloc_new (w6) _)) (by simp [Value.oneCell']) (by omega) (by unfold maxLen; omega) (by omega) (by simp; omega) ((w6).heap.size + 1) (by simp) ?_; intro gg cap w1 hown1 hgrow hatg hltg))
      refine ⟨⟨j + 1, gg, cap, l ++ [UInt8.ofNat (97 + v.toNat)], by omega, by go_num, rfl, by simp [hl'.out], ?_, ?_, cur_far (cur_below hc6 ((Below.refl _ w6).alloc (Nat.le_refl _) _) (cur_lt hc6)) hgrow (by simp [Value.ownBlock]; omega), grown_new (grown_alloc (grown_gg hg hg6) _) hgrow (fun k' hk' => by simp [Value.ownBlock] at hk'; omega)⟩, by simp [intOf]; omega⟩
      · intro b hb
        rcases List.mem_append.1 hb with h | h
        · exact hlb'.out b h
        · rw [List.mem_singleton] at h; subst h
          have := ltr_nat hv0 (show v ≤ 25 by omega)
          omega
      · rw [bv_snoc, ltr_nat hv0 (by omega)]
        exact hown1
    · obtain rfl : j = N := by omega
      have hcv := own_string (g := q) (cap := cp) (l := l) (w := wr) (B := w.heap.size) (by rw [hl]; exact hown)
      rw [hl] at hcv
      have hlb' := Lib.hid hlb
      have hl' := Lib.hid hl
      clear hlb hl
      go_wp2
      go_ret
      exact ⟨l, rfl, hl'.out, hlb'.out, hc, hg⟩
/-! ### Splitting at a comma, joining with one -/
/-- What was split off ahead of place k, and where the rest begins. -/
def spl (s : ByteArray) : Nat → List ByteArray × Nat
  | 0 => ([], 0)
  | k + 1 => if bt s k = 44 then ((spl s k).1 ++ [s.extract (spl s k).2 k], k + 1) else spl s k
theorem spl_yes {s : ByteArray} {k : Nat} (h : bt s k = 44) : spl s (k + 1) = ((spl s k).1 ++ [s.extract (spl s k).2 k], k + 1) := by simp [spl, h]
theorem spl_no {s : ByteArray} {k : Nat} (h : ¬ bt s k = 44) : spl s (k + 1) = spl s k := by simp [spl, h]
theorem spl_le (s : ByteArray) : ∀ k, (spl s k).2 ≤ k ∧ (spl s k).1.length ≤ k
  | 0 => by simp [spl]
  | k + 1 => by
    have := spl_le s k
    by_cases h : bt s k = 44
    · rw [spl_yes h]; simp; omega
    · rw [spl_no h]; omega
def splt (s : ByteArray) : List ByteArray := (spl s s.size).1 ++ [s.extract (spl s s.size).2 s.size]
theorem splt_len (s : ByteArray) : (splt s).length ≤ s.size + 1 := by have := (spl_le s s.size).2; simp [splt]; omega
theorem spl_small (s : ByteArray) (h : s.size ≤ 1000000) : ∀ k, ∀ z ∈ (spl s k).1, z.size ≤ maxLen
  | 0 => by simp [spl]
  | k + 1 => by
    intro z hz
    by_cases hc : bt s k = 44
    · rw [spl_yes hc] at hz
      rcases List.mem_append.1 hz with q | q
      · exact spl_small s h k z q
      · rw [List.mem_singleton] at q; subst q
        unfold maxLen; simp; omega
    · rw [spl_no hc] at hz; exact spl_small s h k z hz
theorem splt_small (s : ByteArray) (h : s.size ≤ 1000000) : ∀ z ∈ splt s, z.size ≤ maxLen := by
  intro z hz
  rcases List.mem_append.1 hz with q | q
  · exact spl_small s h _ z q
  · rw [List.mem_singleton] at q; subst q
    unfold maxLen; simp; omega
set_option maxRecDepth 20000 in
set_option maxHeartbeats 4000000 in
theorem SplitAny_any (s c : ByteArray) (w : World) (hs : s.size ≤ 1000000) (hc1 : c.size = 1) (hc44 : bt c 0 = 44) :
    Calls Try.prog 133 #[.string s, .string c] w fun e w' => ∃ g cap, e = .returned (.slice (some ⟨g, 0, none⟩) (splt s).length cap) ∧ w'.ownsRow w.heap.size 9 1 (.slice (some ⟨g, 0, none⟩) (splt s).length cap) (splt s).length (sv (splt s)) ∧ Below w.heap.size w w' := by
  obtain ⟨i0, hi0, hz0, hz1, hz2⟩ := info_parts infoS
  have hb : ∀ j (h : j < s.size), ((s[j]'h).toNat : Int) = bt s j := fun j h => bt_eq s j h
  have hbc : ∀ j (h : j < c.size), ((c[j]'h).toNat : Int) = bt c j := fun j h => bt_eq c j h
  have ho0 : (w.alloc (.cells #[] 9)).ownsRow w.heap.size 9 1 (.slice (some ⟨w.heap.size, 0, none⟩) 0 0) 0 (sv []) := World.ownsRow_lit w #[] 0 (Nat.le_refl _) (by decide) rfl
  go_enter Try.func133, Try.ntmps133
  go_wp2_with fail
  go_loopw [5, 6, 7] (fun out fr i wr => ∃ (k q cp f : Nat) (D : List ByteArray), k ≤ s.size ∧ i = .int .i64 k ∧ fr = .int .i64 f ∧ out = .slice (some ⟨q, 0, none⟩) D.length cp ∧ Hid (spl s k = (D, f)) ∧ f ≤ k ∧ D.length ≤ k ∧ wr.ownsRow w.heap.size 9 1 (.slice (some ⟨q, 0, none⟩) D.length cp) D.length (sv D) ∧ Below w.heap.size w wr) (fun _ _ i _ => s.size - (intOf i).toNat)
  case atStart => exact ⟨0, w.heap.size, 0, 0, [], by omega, rfl, rfl, rfl, Lib.hid rfl, by omega, by simp, ho0, (Below.refl _ w).alloc (Nat.le_refl _) _⟩
  case round =>
    clear ho0
    rename World => wo
    obtain ⟨k, q, cp, f, D, hk, rfl, rfl, rfl, hsp, hf, hDl, hown, hbel⟩ := hrel
    have hwz := hbel.size
    have hqb := (hown.lt q rfl).1
    have hql := (hown.lt q rfl).2
    by_cases hlt : k < s.size
    · have i1 : (k : Int) < (s.size : Int) := by omega
      have i0' : (0 : Int) ≤ (k : Int) := by omega
      have i8 : IntKind.i64.wrap ((k : Int) + 1) = (k : Int) + 1 := IntWalk.i64_in _ (by omega)
      have hfk : (f : Int) ≤ (k : Int) := by omega
      have hfs : (f : Int) ≤ (s.size : Int) := by omega
      have hf0 : (0 : Int) ≤ (f : Int) := by omega
      by_cases h44 : bt s k = 44
      · have hnx : Hid (spl s (k + 1) = (D ++ [s.extract f k], k + 1)) := by show _ = _; rw [spl_yes h44, hsp.out]
        go_wp2_with fail
        go_loopw [5, 6, 8] (fun o ff t wr => o = .slice (some ⟨q, 0, none⟩) D.length cp ∧ ff = .int .i64 f ∧ t = .int .i64 0 ∧ wo = wr) (fun _ _ _ _ => 0)
        case atStart => exact ⟨rfl, rfl, rfl, by first | rfl | trivial⟩
        case round =>
          obtain ⟨rfl, rfl, rfl, rfl⟩ := hrel
          go_wp2_with fail
          go_quiet (fail)
          go_wp2_with ((at_builtin; refine wpList_append_lies _ rfl _ _ _ rfl (w.heap.size) 9 i0 _ 1 16 Try.underlying23 hi0 hz0 hz1 hz2 rfl (by decide) (.slice (some ⟨q, 0, none⟩) D.length cp) (D.length) (sv D) (by rfl) (hown.alloc _) ⟨((wo.drewN nq)).heap.size, 0, none⟩ 1 1 [.string (s.extract f k)] (by rfl) (by rfl) (World.news_of_block (cs := #[.string (s.extract f k)]) (t := 9) (fr := (0, 0)) (heap_alloc_new ((wo.drewN nq)) _)) (by simp [Value.oneCell']) (by omega) (by unfold maxLen; omega) (by omega) (by simp; omega) (((wo.drewN nq)).heap.size + 1) (by simp) ?_; intro gg cap w1 hown1 hgrow hatg hltg))
          exact ⟨⟨k + 1, gg, cap, k + 1, D ++ [s.extract f k], by omega, by go_num, by go_num, by rw [List.length_append]; rfl, hnx, by omega, by simp; omega, by rw [sv_snoc, List.length_append]; exact hown1, Below.grown ((QdrewN hbel).alloc (by simpa using hwz) _) hgrow (by simp; omega) (fun k' hk' => by simp [Value.ownBlock] at hk'; omega)⟩, by simp [intOf]; omega⟩
      · have hnx : Hid (spl s (k + 1) = (D, f)) := by show _ = _; rw [spl_no h44, hsp.out]
        go_wp2_with fail
        go_loopw [5, 6, 8] (fun o ff t wr => o = .slice (some ⟨q, 0, none⟩) D.length cp ∧ ff = .int .i64 f ∧ ((t = .int .i64 0 ∧ wo = wr) ∨ (t = .int .i64 1 ∧ ∃ nq, wr = wo.drewN nq))) (fun _ _ t _ => 1 - (intOf t).toNat)
        case atStart => exact ⟨rfl, rfl, .inl ⟨rfl, by first | rfl | trivial⟩⟩
        case round =>
          obtain ⟨rfl, rfl, ⟨rfl, rfl⟩ | ⟨rfl, nq, rfl⟩⟩ := hrel
          · go_wp2_with fail
            go_quiet (fail)
            go_wp2_with fail
            exact ⟨⟨rfl, rfl, .inr ⟨by go_num, _, rfl⟩⟩, by simp [intOf]⟩
          · go_wp2_with fail
            exact ⟨⟨k + 1, q, cp, f, D, by omega, by go_num, rfl, rfl, hnx, by omega, by omega, hown, QdrewN hbel⟩, by simp [intOf]; omega⟩
    · obtain rfl : k = s.size := by omega
      have hfs : (f : Int) ≤ (s.size : Int) := by omega
      have hf0 : (0 : Int) ≤ (f : Int) := by omega
      have he : Hid (splt s = D ++ [s.extract f s.size]) := by show _ = _; unfold splt; rw [hsp.out]
      go_wp2_with ((at_builtin; refine wpList_append_lies _ rfl _ _ _ rfl (w.heap.size) 9 i0 _ 1 16 Try.underlying23 hi0 hz0 hz1 hz2 rfl (by decide) (.slice (some ⟨q, 0, none⟩) D.length cp) (D.length) (sv D) (by rfl) (hown.alloc _) ⟨(wo).heap.size, 0, none⟩ 1 1 [.string (s.extract f s.size)] (by rfl) (by rfl) (World.news_of_block (cs := #[.string (s.extract f s.size)]) (t := 9) (fr := (0, 0)) (heap_alloc_new (wo) _)) (by simp [Value.oneCell']) (by omega) (by unfold maxLen; omega) (by omega) (by simp; omega) ((wo).heap.size + 1) (by simp) ?_; intro gg cap w1 hown1 hgrow hatg hltg))
      go_ret
      exact ⟨gg, cap, by rw [he.out, List.length_append]; rfl, by rw [he.out, sv_snoc, List.length_append]; exact hown1, Below.grown (hbel.alloc (by omega) _) hgrow (by simp; omega) (fun k' hk' => by simp [Value.ownBlock] at hk'; omega)⟩
/-- The first k strings, a comma between. -/
def joi (zs : List ByteArray) : Nat → ByteArray
  | 0 => ⟨#[]⟩
  | k + 1 => (if k = 0 then (⟨#[]⟩ : ByteArray) else joi zs k ++ ⟨#[44]⟩) ++ zs.getD k ByteArray.empty
theorem joi_size {zs : List ByteArray} (h : ∀ j, (zs.getD j ByteArray.empty).size ≤ 1000000) : ∀ k, (joi zs k).size ≤ 1000001 * k
  | 0 => by simp [joi, ByteArray.size]
  | k + 1 => by
    have h1 := joi_size h k
    have h2 := h k
    unfold joi
    rw [ByteArray.size_append]
    split
    · have : (⟨#[]⟩ : ByteArray).size = 0 := rfl
      omega
    · rw [ByteArray.size_append]
      have : (⟨#[44]⟩ : ByteArray).size = 1 := rfl
      omega
set_option maxRecDepth 20000 in
set_option maxHeartbeats 1000000 in
theorem Join_any (x : Option Addr) (n cap : Nat) (zs : List ByteArray) (w : World) (h : IsStrs w x n cap zs) (hn : n ≤ 100) (hz : ∀ j, (zs.getD j ByteArray.empty).size ≤ 1000000) :
    Calls Try.prog 156 #[.slice x n cap, .string ⟨#[44]⟩] w fun e w' => e = .returned (.string (joi zs n)) ∧ w = w' := by
  have hsz := Lib.hid (joi_size hz)
  have hz' := Lib.hid hz
  have hC := Lib.hid h.2.2.2.2
  clear h hz
  go_enter Try.func156, Try.ntmps156
  go_wp2_with fail
  go_loopw [5, 10] (fun s i wr => ∃ k : Nat, k ≤ n ∧ i = .int .i64 k ∧ s = .string (joi zs k) ∧ w = wr) (fun _ i _ => n - (intOf i).toNat)
  case atStart => exact ⟨0, by omega, rfl, rfl, by first | rfl | trivial⟩
  case round =>
    obtain ⟨k, hk, rfl, rfl, rfl⟩ := hrel
    by_cases hlt : k < n
    · obtain ⟨b, off, rfl, hlb, hcell⟩ : ∃ b off, x = some ⟨b, off, none⟩ ∧ b < w.heap.size ∧ w.cell? ⟨b, off + k, none⟩ = some (.string (zs.getD k ByteArray.empty)) := by
        rcases hC.out with h0 | ⟨b, off, e, hb, hc⟩
        · omega
        · exact ⟨b, off, e, hb, hc k hlt⟩
      have s1 := hsz.out k
      have s2 := hz'.out k
      have hj : Hid (joi zs (k + 1) = (if k = 0 then (⟨#[]⟩ : ByteArray) else joi zs k ++ ⟨#[44]⟩) ++ zs.getD k ByteArray.empty) := rfl
      have hj0 : Hid (k = 0 → joi zs k = ⟨#[]⟩) := fun e => by subst e; rfl
      obtain ⟨z, hz⟩ : ∃ z, zs.getD k ByteArray.empty = z := ⟨_, rfl⟩
      obtain ⟨J, hJ⟩ : ∃ J, joi zs k = J := ⟨_, rfl⟩
      rw [hz] at hcell s2 hj
      rw [hJ] at s1 hj hj0 ⊢
      have i1 : (k : Int) < (n : Int) := by omega
      have i0' : (0 : Int) ≤ (k : Int) := by omega
      have i8 : IntKind.i64.wrap ((k : Int) + 1) = (k : Int) + 1 := IntWalk.i64_in _ (by omega)
      have hr1 : ∀ w, (Op.stringOp .add J ⟨#[44]⟩).run Try.prog w = .ok (.string (J ++ ⟨#[44]⟩)) w := fun w => run_string_add_sum w J _ (by have : (⟨#[44]⟩ : ByteArray).size = 1 := rfl; omega)
      have hr2 : ∀ w, (Op.stringOp .add (J ++ ⟨#[44]⟩) z).run Try.prog w = .ok (.string ((J ++ ⟨#[44]⟩) ++ z)) w := fun w => run_string_add_sum w _ _ (by rw [ByteArray.size_append]; have : (⟨#[44]⟩ : ByteArray).size = 1 := rfl; omega)
      have hr3 : ∀ w, (Op.stringOp .add J z).run Try.prog w = .ok (.string (J ++ z)) w := fun w => run_string_add_sum w _ _ (by omega)
      clear hz hJ s1 s2
      by_cases hk0 : k = 0
      · have hk0' : ¬ (0 : Int) < (k : Int) := by omega
        have e1 : Hid (joi zs (k + 1) = J ++ z) := by show _ = _; rw [hj.out, if_pos hk0, hj0.out hk0]
        clear hk0
        go_wp2_with fail
        exact ⟨⟨k + 1, by omega, by go_num, by rw [e1.out], trivial⟩, by simp [intOf]; omega⟩
      · have hk0' : (0 : Int) < (k : Int) := by omega
        have e1 : Hid (joi zs (k + 1) = (J ++ ⟨#[44]⟩) ++ z) := by show _ = _; rw [hj.out, if_neg hk0]
        clear hk0
        go_wp2_with fail
        exact ⟨⟨k + 1, by omega, by go_num, by rw [e1.out], trivial⟩, by simp [intOf]; omega⟩
    · obtain rfl : k = n := by omega
      go_wp2_with fail
      go_ret
      exact ⟨rfl, rfl⟩
end Go.Proofs.Ytilbhingfnjppab
