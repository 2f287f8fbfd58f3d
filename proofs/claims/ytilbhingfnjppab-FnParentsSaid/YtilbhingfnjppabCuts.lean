/- The cuts of a word: the walks. -/
import Derived.Test.YtilbhingfnjppabParD
import Derived.Test.YtilbhingfnjppabLawU
set_option linter.unusedSimpArgs false
set_option linter.unusedVariables false
namespace Go.Proofs.Ytilbhingfnjppab
open Go.RowKit
theorem infoBo : (Try.prog.info? 4).map (fun i => (i.zero, i.size, i.bytes)) = some (some (.bool false), 1, 1) := by kernel_rfl
def bov (l : List Bool) : List Value := l.map Value.bool
theorem bov_at (l : List Bool) (j : Nat) (h : j < l.length) : (bov l)[j]? = some (.bool (l.getD j false)) := by simp [bov, h, List.getD_eq_getElem?_getD]
theorem bov_set (l : List Bool) (j : Nat) (z : Bool) : (bov l).set j (.bool z) = bov (l.set j z) := by simp [bov, List.map_set]
theorem bov_zeros (n : Nat) : (madeCells #[Value.bool false] (n * 1)).toList = bov (List.replicate n false) := by rw [toList_madeCells_one]; simp [bov]
theorem madeB_at (N j : Nat) (h : j < N) : (madeCells (Value.bool false).cells (N * 1)).toList[j]? = some (.bool false) := by
  show (madeCells #[Value.bool false] (N * 1)).toList[j]? = _
  rw [bov_zeros, bov_at _ _ (by simpa using h)]; simp [List.getD_eq_getElem?_getD, h]
def rst (s : ByteArray) (i : Nat) (rs : List Bool) (v : ByteArray) : List Bool := if hitP s v i then rs.set (i + v.size) true else rs
theorem rst_len (s : ByteArray) (i : Nat) (rs : List Bool) (v : ByteArray) : (rst s i rs v).length = rs.length := by unfold rst; split <;> simp
theorem rfold_len (s : ByteArray) (i : Nat) : ∀ (zs : List ByteArray) (rs : List Bool), (zs.foldl (rst s i) rs).length = rs.length
  | [], _ => rfl
  | z :: zs, xs => by rw [List.foldl_cons, rfold_len s i zs, rst_len]
theorem rfold_next (s : ByteArray) (i k : Nat) (zs : List ByteArray) (rs : List Bool) (h : k < zs.length) : (zs.take (k + 1)).foldl (rst s i) rs = rst s i ((zs.take k).foldl (rst s i) rs) (zs.getD k ByteArray.empty) := by
  rw [take_next zs k ByteArray.empty h]; simp
noncomputable def cut1 (s : ByteArray) (zs : List ByteArray) (i : Nat) (a : List Bool × List Int) : List Bool × List Int :=
  if a.1.getD i false = true ∧ ¬ (wys s zs).getD i 0 = 0 then (zs.foldl (rst s i) a.1, a.2 ++ [(i : Int)]) else a
noncomputable def cs (s : ByteArray) (zs : List ByteArray) : Nat → List Bool × List Int
  | 0 => ((List.replicate (s.size + 1) false).set 0 true, [])
  | k + 1 => cut1 s zs k (cs s zs k)
theorem cs_len (s : ByteArray) (zs : List ByteArray) : ∀ k, (cs s zs k).1.length = s.size + 1 ∧ (cs s zs k).2.length ≤ k
  | 0 => by simp [cs]
  | k + 1 => by
    obtain ⟨h1, h2⟩ := cs_len s zs k
    rw [cs, cut1]; split
    · exact ⟨by rw [rfold_len]; exact h1, by simp; omega⟩
    · exact ⟨h1, by omega⟩
theorem cs_yes {s : ByteArray} {zs : List ByteArray} {k : Nat} {rs : List Bool} {out : List Int} (h : cs s zs k = (rs, out)) (h1 : rs.getD k false = true) (h2 : ¬ (wys s zs).getD k 0 = 0) : cs s zs (k + 1) = (zs.foldl (rst s k) rs, out ++ [(k : Int)]) := by
  rw [cs, h, cut1, if_pos ⟨h1, h2⟩]
theorem cs_no {s : ByteArray} {zs : List ByteArray} {k : Nat} {rs : List Bool} {out : List Int} (h : cs s zs k = (rs, out)) (h1 : ¬ (rs.getD k false = true ∧ ¬ (wys s zs).getD k 0 = 0)) : cs s zs (k + 1) = (rs, out) := by
  rw [cs, h, cut1, if_neg h1]
noncomputable def cuts (zs : List ByteArray) (s : ByteArray) : List Int := if (sB zs && isWB s) = true ∧ ¬ (wys s zs).getD 0 0 = 0 then (cs s zs (s.size + 1)).2 else []
theorem kept_same {wr w1 : World} {B g : Nat} {e : TypeId} {v : Value} {n : Nat} {xs : List Value} (h : wr.ownsRow B e 1 v n xs) (hg : wr.grownBy w1 (some g)) (hne : v.ownBlock ≠ some g) : w1.ownsRow B e 1 v n xs := h.kept hg (.inr hne)
theorem initB (s : ByteArray) : (madeCells (Value.bool false).cells ((s.size + 1) * 1)).toList.set 0 (.bool true) = bov ((List.replicate (s.size + 1) false).set 0 true) := by
  show (madeCells #[Value.bool false] ((s.size + 1) * 1)).toList.set 0 (.bool true) = _
  rw [bov_zeros, bov_set]
theorem ne_own {g gr n cap : Nat} (h : g ≠ gr) : (Value.slice (some ⟨gr, 0, none⟩) n cap).ownBlock ≠ some g := by simp [Value.ownBlock]; omega
set_option maxRecDepth 20000 in
set_option maxHeartbeats 4000000 in
theorem implCuts_ok (x : Option Addr) (n cap0 : Nat) (zs : List ByteArray) (s : ByteArray) (w : World) (h : IsStrs w x n cap0 zs) (hn : n ≤ 1048576) (hk : (sB zs && isWB s) = true) (hF0 : ¬ (wys s zs).getD 0 0 = 0) :
    Calls Try.prog 13 #[.agg #[.slice x n cap0], .string s] w fun e w' => ∃ g c, e = .returned (.slice (some ⟨g, 0, none⟩) (cs s zs (s.size + 1)).2.length c) ∧ w'.ownsRow w.heap.size 3 1 (.slice (some ⟨g, 0, none⟩) (cs s zs (s.size + 1)).2.length c) (cs s zs (s.size + 1)).2.length (iv (cs s zs (s.size + 1)).2) ∧ Below w.heap.size w w' := by
  obtain ⟨i0, hi0, hz0, hz1, hz2⟩ := info_parts infoI
  obtain ⟨j0, hj0, hy0, hy1, hy2⟩ := info_parts infoBo
  have hlen := h.1
  have hk2 := hk
  rw [Bool.and_eq_true] at hk2
  obtain ⟨hS, hW⟩ := hk2
  obtain ⟨hn4, hz8⟩ := s_bounds hlen hS
  have hs400 := (isW_of hW).1
  have hs63 : s.size ≤ 9223372036854775807 := by omega
  have hb0 : Below w.heap.size w (w.alloc (.cells #[.slice x n cap0] 25)) := (Below.refl _ w).alloc (Nat.le_refl _) _
  have h' := isStrs_below h (Nat.le_refl _) hb0
  have hwl := Lib.hid (wys_len s zs)
  have hf0 : (0 : Int) < (s.size : Int) + 1 := by omega
  have hFz : ((wys s zs).getD 0 0 == 0) = false := by simpa using hF0
  obtain ⟨F0, hFe⟩ : ∃ F0, (wys s zs).getD 0 0 = F0 := ⟨_, rfl⟩
  rw [hFe] at hFz
  have hFe' := Lib.hid hFe
  clear hF0 hFe
  go_enter Try.func13, Try.ntmps13
  go_wp2_with (first | (go_at_call 32; refine (implSubstOk_any _ _ _ _ _ h' hn).mono ?_; rintro e w1 ⟨rfl, hb1⟩; obtain ⟨hc1, hf1⟩ := bcell hb1) | (go_at_call 62; refine (isWord_any _ _ hs63).mono ?_; rintro e w1 ⟨rfl, rfl⟩))
  have h1 := isStrs_below h' (Nat.le_refl _) hb1
  have hzz1 := hb1.size
  simp only [World.size_alloc] at hzz1
  go_wp2_with (first | (go_at_call 63; refine (implWays_any _ _ _ _ _ _ h1 hn4 hz8 hs400).mono ?_; rintro e wA ⟨gF, rfl, hgF, hownF, hbA⟩; have hcc := own_cell hownF 0 (by omega); rw [iv_at _ _ (by rw [hwl.out]; omega), hFe'.out] at hcc) | (at_make; refine wpList_make_full _ rfl _ _ 84 rfl wA.heap.size 4 j0 _ 1 Try.underlying84 hj0 hy0 hy1 .i64 .i64 _ _ (s.size + 1) (by rfl) (by rfl) (by omega) (by omega) (by rw [hy2]; omega) (by unfold maxLen; omega) (by omega) ?_; intro wM hownM hgM; have hcM := (own_cell hownM 0 (by omega)).trans (madeB_at (s.size + 1) 0 (by omega)); have hfM := hownM.frozenAt; have hltM := (hownM.lt wA.heap.size rfl).2))
  have hcB : wA.cell? ⟨w.heap.size, 0, none⟩ = some (.slice x n cap0) := (hbA.cell (by show w.heap.size < _; omega)).trans ((hb1.cell (by simp)).trans (by simp [go_sem]))
  have hstA := isStrs_below h1 (Nat.le_refl _) hbA
  have hgFA := (hownF.lt gF rfl).2
  have hbAA : Below w.heap.size w wA := Qtrans hbA (by omega) (Qtrans hb1 (by simp) hb0)
  have hzA := hbA.size
  have hwA : w.heap.size < wA.heap.size := by omega
  have oR := (hownM.stored 0 (.bool true)).1
  rw [initB s] at oR
  have hgrM := (hownM.lt wA.heap.size rfl).2
  have oR1 := oR.alloc (.cells #[] 3)
  have oI := World.ownsRow_lit (base := wA.heap.size) (e := 3) (size := 1) (wM.setCell ⟨wA.heap.size, 0, none⟩ (.bool true)) #[] 0 (by simp; omega) (by decide) rfl
  simp only [World.size_setCell] at oI
  have hbM : Below wA.heap.size wA ((wM.setCell ⟨wA.heap.size, 0, none⟩ (.bool true)).alloc (.cells #[] 3)) := (((Below.refl _ wA).grown hgM (Nat.le_refl _) (by simp)).setCell (by simp) _).alloc (by simp; omega) _
  clear hownM hcM hfM hgM oR
  go_loopw [7, 36] (fun ov i wr => ∃ (k g2 c2 : Nat) (rs : List Bool) (out : List Int), k ≤ s.size + 1 ∧ i = .int .i64 k ∧ Hid (cs s zs k = (rs, out)) ∧ rs.length = s.size + 1 ∧ out.length ≤ k ∧ ov = .slice (some ⟨g2, 0, none⟩) out.length c2 ∧ wr.ownsRow wA.heap.size 3 1 (.slice (some ⟨g2, 0, none⟩) out.length c2) out.length (iv out) ∧ wr.ownsRow wA.heap.size 4 1 (.slice (some ⟨wA.heap.size, 0, none⟩) (s.size + 1) (s.size + 1)) (s.size + 1) (bov rs) ∧ g2 ≠ wA.heap.size ∧ wA.heap.size < wr.heap.size ∧ Below wA.heap.size wA wr) (fun _ i _ => s.size + 1 - (intOf i).toNat)
  case atStart => exact ⟨0, wM.heap.size, 0, (List.replicate (s.size + 1) false).set 0 true, [], by omega, rfl, Lib.hid rfl, by simp, Nat.le_refl _, rfl, oI, oR1, by omega, by simp; omega, hbM⟩
  case round =>
    clear oR1 oI hbM
    obtain ⟨k, g2, c2, rs, out, hk', rfl, hcs, hrl, hol, rfl, ho2, hoR, hne, hzr, hbel⟩ := hrel
    by_cases hlt : k < s.size + 1
    · have hk0 : (0 : Int) ≤ (k : Int) := by omega
      have hk1 : (k : Int) < (s.size : Int) + 1 := by omega
      have hk2 : (k : Int) ≤ (s.size : Int) := by omega
      have hcR : wr.cell? ⟨wA.heap.size, k, none⟩ = some (.bool (rs.getD k false)) := by rw [own_cell hoR k (by omega), bov_at _ _ (by omega)]
      have hcF : wr.cell? ⟨gF, k, none⟩ = some (.int .i64 ((wys s zs).getD k 0)) := (hbel.cell (by exact hgFA)).trans (by rw [own_cell hownF k (by omega), iv_at _ _ (by rw [hwl.out]; omega)])
      have hcBr : wr.cell? ⟨w.heap.size, 0, none⟩ = some (.slice x n cap0) := (hbel.cell (by show w.heap.size < _; omega)).trans hcB
      have hstr := isStrs_below hstA (Nat.le_refl _) hbel
      have hyes := Lib.hid (fun a b => cs_yes (k := k) hcs.out a b)
      have hno := Lib.hid (fun a => cs_no (k := k) hcs.out a)
      obtain ⟨rk, hrk⟩ : ∃ q, rs.getD k false = q := ⟨_, rfl⟩
      obtain ⟨fk, hfk⟩ : ∃ q, (wys s zs).getD k 0 = q := ⟨_, rfl⟩
      rw [hrk] at hcR
      rw [hfk] at hcF
      have hrk' := Lib.hid hrk
      have hfk' := Lib.hid hfk
      clear hrk hfk
      cases rk
      · have hnx := Lib.hid (hno.out (fun q => by rw [hrk'.out] at q; cases q.1))
        go_wp2
        go_roundw
        case rel => exact ⟨k + 1, g2, c2, rs, out, by omega, by go_num, hnx, hrl, by omega, rfl, ho2, hoR, hne, hzr, hbel⟩
        case measure => (simp [intOf]) <;> omega
      · by_cases hf0k : fk = 0
        · have hnx := Lib.hid (hno.out (fun q => by rw [hfk'.out] at q; exact q.2 hf0k))
          have hf0z : (fk == 0) = true := by simpa using hf0k
          go_wp2
          go_roundw
          case rel => exact ⟨k + 1, g2, c2, rs, out, by omega, by go_num, hnx, hrl, by omega, rfl, ho2, hoR, hne, hzr, hbel⟩
          case measure => (simp [intOf]) <;> omega
        · have hnx := Lib.hid (hyes.out hrk'.out (by rw [hfk'.out]; exact hf0k))
          have hf0z : (fk == 0) = false := by simpa using hf0k
          have hf0h := Lib.hid hf0k
          clear hf0k
          go_wp2_with ((at_builtin; refine wpList_append_lies _ rfl _ _ _ rfl (wA.heap.size) 3 i0 _ 1 8 Try.underlying32 hi0 hz0 hz1 hz2 rfl (by decide) (.slice (some ⟨g2, 0, none⟩) out.length c2) (out.length) (iv out) (by rfl) (ho2.alloc _) ⟨(wr).heap.size, 0, none⟩ 1 1 [.int .i64 (k : Int)] (by rfl) (by rfl) (World.news_of_block (cs := #[.int .i64 (k : Int)]) (t := 3) (fr := (0, 0)) (heap_alloc_new (wr) _)) (by simp [Value.oneCell']) (by omega) (by unfold maxLen; omega) (by omega) (by simp; omega) ((wr).heap.size + 1) (by simp) ?_; intro gg cap w1 hown1 hgrow hatg hltg); have hbel1 := below_app hbel (Nat.le_of_lt hzr) ho2 hgrow; have hcB1 := (hbel1.cell (p := ⟨w.heap.size, 0, none⟩) hwA).trans hcB)
          have hoR1 := kept_alloc hoR hgrow (ne_own hne)
          have hne1 : gg ≠ wA.heap.size := ne_app hne hzr hatg
          have hzr1 := size_app hgrow
          have hst1 := isStrs_below hstA (Nat.le_refl _) hbel1
          go_loopw [58] (fun i wr2 => ∃ (j : Nat) (rj : List Bool), j ≤ n ∧ i = .int .i64 j ∧ Hid (rj = (zs.take j).foldl (rst s k) rs) ∧ rj.length = s.size + 1 ∧ wr2.ownsRow wA.heap.size 4 1 (.slice (some ⟨wA.heap.size, 0, none⟩) (s.size + 1) (s.size + 1)) (s.size + 1) (bov rj) ∧ wr2.ownsRow wA.heap.size 3 1 (.slice (some ⟨gg, 0, none⟩) (out.length + 1) cap) (out.length + 1) (iv out ++ [.int .i64 (k : Int)]) ∧ wr2.heap.size = w1.heap.size ∧ Below wA.heap.size wA wr2) (fun i _ => n - (intOf i).toNat)
          case atStart => exact ⟨0, rs, by omega, rfl, Lib.hid rfl, hrl, hoR1, hown1, rfl, hbel1⟩
          case round =>
            clear hoR1 hown1 hcB1 hcBr hcR hcF
            obtain ⟨j, rj, hj, rfl, hrj, hrjl, hoRj, hoIj, hsz, hbelj⟩ := hrel
            by_cases hjn : j < n
            · obtain ⟨b, off, rfl, hb, hc⟩ := isStrs_cell hstA (by omega)
              have hck := (hbelj.cell (by exact hb)).trans (hc j hjn)
              have hf := rfold_next s k j zs rs (by omega)
              have hv8 := hz8 j hjn
              obtain ⟨v, hv⟩ : ∃ v, zs.getD j ByteArray.empty = v := ⟨_, rfl⟩
              rw [hv] at hck hf hv8
              rw [← hrj] at hf
              have hf' := Lib.hid hf
              have hj0 : (0 : Int) ≤ (j : Int) := by omega
              have hj1 : (j : Int) < (n : Int) := by omega
              have hps : k ≤ s.size := by omega
              clear hv hf hc
              cases hh : hitP s v k
              · have hst : Hid (rst s k rj v = rj) := by show _ = _; simp [rst, hh]
                skip
                go_wp2_with ((go_at_call 64; refine (hasPrefix_any _ _ _ _ hps).mono ?_; rintro e w1 ⟨rfl, rfl⟩))
                all_goals
                  go_roundw
                  case rel => exact ⟨j + 1, rj, by omega, by go_num, Lib.hid (by rw [hf'.out, hst.out]), hrjl, hoRj, hoIj, hsz, hbelj⟩
                  case measure => (simp [intOf]) <;> omega
              · have hst : Hid (rst s k rj v = rj.set (k + v.size) true) := by show _ = _; simp [rst, hh]
                have hh2 := hh
                unfold hitP at hh2
                rw [Bool.and_eq_true, decide_eq_true_eq] at hh2
                obtain ⟨hle, heq⟩ := hh2
                have hq1 : (k : Int) + (v.size : Int) ≤ (s.size : Int) := by omega
                have hq2 : (0 : Int) ≤ (k : Int) + (v.size : Int) := by omega
                have hq3 : (k : Int) + (v.size : Int) < (s.size : Int) + 1 := by omega
                have hq4 : (k : Int) ≤ (k : Int) + (v.size : Int) := by omega
                have hc2 : wr.cell? ⟨wA.heap.size, k + v.size, none⟩ = some (.bool (rj.getD (k + v.size) false)) := by rw [own_cell hoRj (k + v.size) (by omega), bov_at _ _ (by omega)]
                have hfz := hoRj.frozenAt
                obtain ⟨y2, hy2⟩ : ∃ y, rj.getD (k + v.size) false = y := ⟨_, rfl⟩
                rw [hy2] at hc2
                clear hy2
                go_wp2_with ((go_at_call 64; refine (hasPrefix_any _ _ _ _ hps).mono ?_; rintro e w1 ⟨rfl, rfl⟩))
                go_roundw
                case rel => exact ⟨j + 1, rj.set (k + v.size) true, by omega, by go_num, Lib.hid (by rw [hf'.out, hst.out]), by simpa using hrjl, by rw [← bov_set]; exact (hoRj.stored (k + v.size) _).1, ownsRow_setCell_other hoIj (by simp [Value.ownBlock]; omega) _, by simpa using hsz, hbelj.setCell (by simp) _⟩
                case measure => (simp [intOf]) <;> omega
            · obtain rfl : n = j := by omega
              have hjn' : ¬ (n : Int) < (n : Int) := by omega
              have hnx2 : Hid (cs s zs (k + 1) = (rj, out ++ [(k : Int)])) := by
                show _ = _
                have e := hrj.out
                rw [List.take_of_length_le (by omega)] at e
                rw [hnx.out, e]
              go_wp2
              go_roundw
              case rel => exact ⟨k + 1, gg, cap, rj, out ++ [(k : Int)], by omega, by go_num, hnx2, hrjl, by rw [List.length_append]; simp; omega, by rw [List.length_append]; rfl, by rw [List.length_append, iv_snoc]; exact hoIj, hoRj, hne1, by omega, hbelj⟩
              case measure => (simp [intOf]) <;> omega
    · have e := Lib.hid (show k = s.size + 1 by omega)
      have hlt' : ¬ (k : Int) < (s.size : Int) + 1 := by omega
      have hout : Hid ((cs s zs (s.size + 1)).2 = out) := by show _ = _; rw [← e.out, hcs.out]
      go_wp2
      go_ret
      exact ⟨g2, c2, by rw [hout.out]; rfl, by rw [hout.out]; exact World.ownsRow.mono ho2 (by omega), Qtrans hbel (by omega) hbAA⟩
end Go.Proofs.Ytilbhingfnjppab
