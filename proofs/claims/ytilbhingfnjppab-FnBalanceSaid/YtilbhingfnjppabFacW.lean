/- The factors of a word: the walks. -/
import Derived.Test.YtilbhingfnjppabMIns
import Derived.Test.YtilbhingfnjppabWordsC
import Derived.Lib.OwnBridge
set_option linter.unusedSimpArgs false
set_option linter.unusedVariables false
namespace Go.Proofs.Ytilbhingfnjppab
open Go.RowKit
def fkn (s : ByteArray) (n k : Nat) : List ByteArray := (List.range k).map (fun i => s.extract i (i + n))
theorem fkn_next (s : ByteArray) (n k : Nat) : fkn s n (k + 1) = fkn s n k ++ [s.extract k (k + n)] := by simp [fkn, List.range_succ]
theorem fkn_len (s : ByteArray) (n k : Nat) : (fkn s n k).length = k := by simp [fkn]
def FF (s : ByteArray) (n k : Nat) : List ByteArray := (fkn s n k).foldl lins []
theorem FF_next (s : ByteArray) (n k : Nat) : FF s n (k + 1) = lins (FF s n k) (s.extract k (k + n)) := by simp [FF, fkn_next]
theorem FF_len (s : ByteArray) (n : Nat) : ∀ k, (FF s n k).length ≤ k
  | 0 => by simp [FF, fkn]
  | k + 1 => by
    have := FF_len s n k
    rw [FF_next, lins_len]; split <;> omega
def facs (s : ByteArray) (n : Nat) : List ByteArray := FF s n (s.size + 1 - n)
theorem grown_grow (w : World) (os : Array Obj) : w.grownBy (Sort.grow w os) none :=
  ⟨rfl, rfl, rfl, by simp [Sort.grow], fun k hk _ => by simp [Sort.grow, Array.getElem?_append, hk]⟩
theorem sv_bk (M : List (List UInt8)) : sv (M.map bk) = M.map encStr := by simp [sv, bk, encStr]
theorem sv_enc (L : List ByteArray) : sv L = (L.map (fun z => z.data.toList)).map encStr := (Lib.map_encStr L).symm
/-- A row of the call's own, its cells laid anew. -/
theorem own_laid {w : World} {B g n cap q k : Nat} {L : List ByteArray} {M : List (List UInt8)} {os : Array Obj} (h : w.ownsRow B 9 1 (.slice (some ⟨g, 0, none⟩) n cap) n (sv L)) (hM : M.length = n) (hk : k ≤ n) :
    (Sort.grow (Sort.putRow encStr (Sort.ahead w q) g 0 M.toArray) os).ownsRow B 9 1 (.slice (some ⟨g, 0, none⟩) k cap) k (sv ((M.take k).map bk)) ∧ Below B w (Sort.grow (Sort.putRow encStr (Sort.ahead w q) g 0 M.toArray) os) := by
  rw [sv_enc] at h
  have h1 := Lib.ownsRow_putRow (q := q) h hM hk
  have hb : Below B w (Sort.putRow encStr (Sort.ahead w q) g 0 M.toArray) := Lib.below_putRow (Below.refl _ _) (h.lt g rfl).1
  rw [sv_bk]
  exact ⟨h1.kept (grown_grow _ _) (.inr (by simp [Value.ownBlock])), Below.grown hb (grown_grow _ _) (by have := (h.lt g rfl); have := hb.size; omega) (fun k hk => by cases hk)⟩
theorem holds_of {w : World} {B g n cap : Nat} {L : List ByteArray} (h : w.ownsRow B 9 1 (.slice (some ⟨g, 0, none⟩) n cap) n (sv L)) : Sort.Holds encStr w g 0 (L.map (fun z => z.data.toList)).toArray := by
  rw [sv_enc] at h
  obtain ⟨g', cap', e, _, _, _, _, _, hH⟩ := Lib.holds_of_ownsRow h (by simp)
  injection e with e1 e2 e3
  injection e1 with e1
  injection e1 with e1
  subst e1
  exact hH
theorem bk_map (M : List (List UInt8)) : (M.map bk).map (fun z => z.data.toList) = M := by
  rw [List.map_map]
  conv => rhs; rw [← List.map_id M]
  congr 1
theorem facs_srt (s : ByteArray) (n : Nat) : facs s n = (Lib.compact ((((fkn s n (s.size + 1 - n)).map (fun z => z.data.toList))).mergeSort (fun x y => decide (x ≤ y)))).map bk := by
  unfold facs FF
  rw [← srt_fold]; rfl
set_option maxRecDepth 20000 in
set_option maxHeartbeats 1000000 in
theorem factorsOf_any (s : ByteArray) (n : Nat) (w : World) (hs : s.size ≤ 400) (hn : 1 ≤ n ∧ n ≤ 400) :
    Calls Try.prog 76 #[.string s, .int .i64 n] w fun e w' => ∃ g c, e = .returned (.slice (some ⟨g, 0, none⟩) (facs s n).length c) ∧ w'.ownsRow w.heap.size 9 1 (.slice (some ⟨g, 0, none⟩) (facs s n).length c) (facs s n).length (sv (facs s n)) ∧ Below w.heap.size w w' := by
  obtain ⟨i0, hi0, hz0, hz1, hz2⟩ := info_parts infoS
  obtain ⟨hn1, hn2⟩ := hn
  have hn2' : (n : Int) ≤ 400 := by omega
  have hs' : (s.size : Int) ≤ 400 := by omega
  have hown0 := World.ownsRow_lit (base := w.heap.size) (e := 9) (size := 1) w #[] 0 (Nat.le_refl _) (by decide) rfl
  have hfs := facs_srt s n
  obtain ⟨T, hT⟩ : ∃ T, s.size + 1 - n = T := ⟨_, rfl⟩
  rw [hT] at hfs
  have hfs' := Lib.hid hfs
  clear hfs
  go_enter Try.func76, Try.ntmps76
  go_wp2_with fail
  go_loopw [5, 6] (fun out i wr => ∃ k g c : Nat, k ≤ T ∧ i = .int .i64 k ∧ out = .slice (some ⟨g, 0, none⟩) k c ∧ wr.ownsRow w.heap.size 9 1 (.slice (some ⟨g, 0, none⟩) k c) k (sv (fkn s n k)) ∧ Below w.heap.size w wr) (fun _ i _ => T - (intOf i).toNat)
  case atStart => exact ⟨0, w.heap.size, 0, by omega, rfl, rfl, hown0, (Below.refl _ w).alloc (Nat.le_refl _) _⟩
  case round =>
    clear hown0
    obtain ⟨k, g, c, hk, rfl, rfl, hown, hbel⟩ := hrel
    have hz := hbel.size
    have hk0 : (0 : Int) ≤ (k : Int) := by omega
    by_cases hlt : k < T
    · have hk1 : (k : Int) + (n : Int) ≤ (s.size : Int) := by omega
      have hk2 : (k : Int) ≤ (k : Int) + (n : Int) := by omega
      have hnext := Lib.hid (fkn_next s n k)
      clear hfs'
      go_wp2_with (at_builtin; refine wpList_append_lies _ rfl _ _ _ rfl (w.heap.size) 9 i0 _ 1 16 Try.underlying23 hi0 hz0 hz1 hz2 rfl (by decide) (.slice (some ⟨g, 0, none⟩) k c) (k) (sv (fkn s n k)) (by rfl) (hown.alloc _) ⟨(wr).heap.size, 0, none⟩ 1 1 [.string (s.extract k (k + n))] (by rfl) (by rfl) (World.news_of_block (cs := #[.string (s.extract k (k + n))]) (t := 9) (fr := (0, 0)) (heap_alloc_new (wr) _)) (by simp [Value.oneCell']) (by omega) (by unfold maxLen; omega) (by omega) (by simp; omega) ((wr).heap.size + 1) (by simp) ?_; intro gg cap w1 hown1 hgrow hatg hltg)
      go_roundw
      case rel => exact ⟨k + 1, gg, _, by omega, by go_num, rfl, by rw [hnext.out, sv_snoc]; exact hown1, below_app hbel (by omega) hown hgrow⟩
      case measure => (simp [intOf]) <;> omega
    · obtain rfl : T = k := by omega
      have hx : ¬ (T : Int) + (n : Int) ≤ (s.size : Int) := by omega
      have hgl := (hown.lt g rfl).2
      have hcap : T ≤ c ∧ c ≤ maxLen := by
        rcases hown.2 with ⟨h', _⟩ | ⟨_, _, _, h', _, _, hc, hm, _⟩
        · cases h'
        · cases h'; exact ⟨hc, hm⟩
      obtain ⟨hcap1, hcap2⟩ := hcap
      obtain ⟨ss, hss⟩ : ∃ ss, (fkn s n T).map (fun z => z.data.toList) = ss := ⟨_, rfl⟩
      have hsl : ss.length = T := by rw [← hss]; simp [fkn_len]
      have hH := holds_of hown
      rw [hss] at hH
      have hsort := Try.slices_Sort_string g 0 c ss wr hH hgl (by omega)
      rw [hsl] at hsort
      obtain ⟨M, hM⟩ : ∃ M, ss.mergeSort (fun x y => decide (x ≤ y)) = M := ⟨_, rfl⟩
      have hMl : M.length = T := by rw [← hM, List.length_mergeSort, hsl]
      rw [hM] at hsort
      have hfm : Hid (facs s n = (Lib.compact M).map bk) := by show _ = _; rw [hfs'.out, hss, hM]
      have hsort2 : Calls Try.prog 104 #[.slice (some ⟨g, 0, none⟩) T c] wr fun e w' => e = .returned (.tuple #[]) ∧ w'.ownsRow w.heap.size 9 1 (.slice (some ⟨g, 0, none⟩) T c) T (sv (M.map bk)) ∧ Below w.heap.size wr w' := by
        refine hsort.mono ?_
        rintro e w1 ⟨h1, q, os, h2⟩
        have := own_laid (q := q) (os := os) hown hMl (Nat.le_refl _)
        rw [List.take_of_length_le (by omega)] at this
        rw [h2]; exact ⟨h1, this⟩
      have hcomp : ∀ w1, w1.ownsRow w.heap.size 9 1 (.slice (some ⟨g, 0, none⟩) T c) T (sv (M.map bk)) → Calls Try.prog 105 #[.slice (some ⟨g, 0, none⟩) T c] w1 fun e w' => e = .returned (.slice (some ⟨g, 0, none⟩) (Lib.compact M).length c) ∧ w'.ownsRow w.heap.size 9 1 (.slice (some ⟨g, 0, none⟩) (Lib.compact M).length c) (Lib.compact M).length (sv ((Lib.compact M).map bk)) ∧ Below w.heap.size w1 w' := by
        intro w1 ho
        have hH1 := holds_of ho
        rw [bk_map] at hH1
        have hc := Try.slices_Compact_string g 0 c M w1 hH1 (by unfold maxLen at hcap2; omega) (by omega)
        rw [hMl] at hc
        refine hc.mono ?_
        rintro e w2 ⟨h1, q, h2⟩
        have hle := Lib.compact_length_le M
        have := own_laid (q := q) (os := #[]) (k := (Lib.compact M).length) (M := Lib.compact M ++ List.replicate (T - (Lib.compact M).length) []) ho (by simp; omega) (by omega)
        rw [List.take_left] at this
        rw [Sort.grow_empty] at this
        rw [h2]; exact ⟨h1, this⟩
      clear hown hsort hH hss hM hfs'
      go_wp2_with (first | (go_at_call 104; refine hsort2.mono ?_; rintro e w1 ⟨rfl, ho1, hb1⟩) | (go_at_call 105; refine (hcomp _ ho1).mono ?_; rintro e w2 ⟨rfl, ho2, hb2⟩))
      go_ret
      exact ⟨g, c, by rw [hfm.out, List.length_map]; rfl, by rw [hfm.out, List.length_map]; exact ho2, (hbel.trans hb1).trans hb2⟩
end Go.Proofs.Ytilbhingfnjppab
