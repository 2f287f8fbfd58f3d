/- Injective substitutions: the reference's walk. -/
import Derived.Test.YtfbcbfimhgaicaaInj
import Derived.Test.YtfbcbfimhgaicaaInsW
import Derived.Test.YtfbcbfimhgaicaaFacP
set_option linter.unusedSimpArgs false
set_option linter.unusedVariables false
namespace Go.Proofs.Ytfbcbfimhgaicaa
open Go.RowKit
theorem hasAt_iff {L : List ByteArray} (h : asc L) (x : ByteArray) : hasAt L x = true ↔ x ∈ L := by
  constructor
  · intro hh
    have e : lins L x = L := by simp [lins, hh]
    have := ((lins_asc h x).2 x).2 (.inl rfl)
    rwa [e] at this
  · intro hx
    cases hh : hasAt L x
    · exfalso
      have ha := (lins_asc h x).1
      have e : lins L x = (L.take (kkf L x L.length) ++ [x]) ++ L.drop (kkf L x L.length) := by simp [lins, hh]
      rw [e] at ha
      unfold asc at ha
      rw [List.pairwise_append, List.pairwise_append] at ha
      rw [← List.take_append_drop (kkf L x L.length) L, List.mem_append] at hx
      rcases hx with hx | hx
      · exact sl_irr _ (ha.1.2.2 x hx x (by simp))
      · exact sl_irr _ (ha.2.2 x (by simp) x hx)
    · rfl
def JJ (I : List ByteArray) (q : Nat) : List ByteArray := (I.take q).foldl lins []
theorem JJ_next (I : List ByteArray) (q : Nat) (h : q < I.length) : JJ I (q + 1) = lins (JJ I q) (I.getD q ByteArray.empty) := by
  unfold JJ; rw [take_next I q ByteArray.empty h]; simp
theorem JJ_asc (I : List ByteArray) (q : Nat) : asc (JJ I q) ∧ ∀ z, z ∈ JJ I q ↔ z ∈ I.take q := by
  obtain ⟨h1, h2⟩ := fold_asc (I.take q) [] List.Pairwise.nil
  exact ⟨h1, fun z => by unfold JJ; rw [h2]; simp⟩
theorem imgs_at (zs L : List ByteArray) (q : Nat) (h : q < L.length) : (imgs zs L).getD q ByteArray.empty = img zs (L.getD q ByteArray.empty) := by
  simp [imgs, List.getD_eq_getElem?_getD, h]
set_option maxRecDepth 20000 in
set_option maxHeartbeats 4000000 in
theorem specInj_ok (x : Option Addr) (p cap n : Nat) (zs : List ByteArray) (w : World) (h : IsStrs w x p cap zs) (hp : p ≤ 1048576) (hS : sB zs = true) (hn : 1 ≤ n ∧ n ≤ 4) :
    Calls Try.prog 25 #[.agg #[.slice x p cap], .int .i64 n] w fun e w' => e = .returned (.bool (injB zs n)) ∧ Below w.heap.size w w' := by
  have hlen := h.1
  obtain ⟨hn4, hz8⟩ := s_bounds hlen hS
  have hp1 : 1 ≤ p := by have := (s_of hS).1.1; omega
  have h8 := Lib.hid (small8_of hlen hz8)
  have hz1 : Hid (∀ j, j < p → 1 ≤ (zs.getD j ByteArray.empty).size) := fun j hj => ((s_of hS).2 j (by omega)).1.1
  have hb0 : Below w.heap.size w (w.alloc (.cells #[.slice x p cap] 39)) := (Below.refl _ w).alloc (Nat.le_refl _) _
  have h' := isStrs_below h (Nat.le_refl _) hb0
  have hN : inB n 1 4 = true := inB_true.2 (by omega)
  obtain ⟨hn1, hn5⟩ := hn
  have hlen' := Lib.hid hlen
  have hws := Lib.hid (wds_short hn4 n hn5)
  have hwz := Lib.hid (wds_size p n)
  have hwl := wds_len hp1 hn4 n hn5
  have hcW := fun w => l17Words_any p n w hp1 hn4 hn5
  have hip : Hid (injP zs n = (imgs zs (wds p n)).Nodup) := by show _ = _; unfold injP; rw [hlen'.out]
  obtain ⟨W, hW⟩ : ∃ W, wds p n = W := ⟨_, rfl⟩
  rw [hW] at hws hwz hwl hcW hip
  obtain ⟨T, hT⟩ : ∃ T, W.length = T := ⟨_, rfl⟩
  rw [hT] at hwl hcW
  have hT' := Lib.hid hT
  have hT2 : T ≤ 1100 := by omega
  clear hz8 h hlen hW hT hwl
  go_enter Try.func25, Try.ntmps25
  go_wp2_with (first | (go_at_call 63; refine (specSubstOk_any _ _ _ _ _ h' hp).mono ?_; rintro e w1 ⟨rfl, hb1⟩; obtain ⟨hc1, hf1⟩ := bcell hb1; have hl1 : w.heap.size < w1.heap.size := (by have := hb1.size; simp only [World.size_alloc] at this; omega)) | (go_at_call 54; refine (l01In_any _ _ _ _).mono ?_; rintro e w1 ⟨rfl, rfl⟩) | (go_at_call 64; refine (hcW _).mono ?_; rintro e w2 ⟨gW, cW, rfl, hownW, hb2⟩))
  have hst := isStrs_below h' (Nat.le_refl _) hb1
  have hcB : w1.cell? ⟨w.heap.size, 0, none⟩ = some (.slice x p cap) := (hb1.cell (by simp)).trans (by simp [go_sem])
  have hz1w := hb1.size
  simp only [World.size_alloc] at hz1w
  have hbA : Below w.heap.size w w1 := Qtrans hb1 (by simp) hb0
  have hown0 := own_below (World.ownsRow_lit (base := w1.heap.size) (e := 9) (size := 1) w1 #[] 0 (Nat.le_refl _) (by decide) rfl) hb2
  have hz2w := hb2.size
  simp only [World.size_alloc] at hz2w
  have hbel2 : Below w1.heap.size w1 w2 := Qtrans hb2 (by simp) ((Below.refl _ w1).alloc (Nat.le_refl _) _)
  have hiL : (imgs zs W).length = T := by unfold imgs; rw [List.length_map]; exact hT'.out
  have hJn := Lib.hid (fun q (hq : q < T) => (JJ_next (imgs zs W) q (by omega)).trans (by rw [imgs_at zs W q (by have := hT'.out; omega)]))
  have hJa := Lib.hid (fun q => JJ_asc (imgs zs W) q)
  have hiT := Lib.hid hiL
  clear hb1 hc1 hf1 h' hb0 hb2 hiL
  go_loopw [5, 24] (fun seen qv wr => ∃ q gS cS : Nat, q ≤ T ∧ qv = .int .i64 q ∧ seen = .slice (some ⟨gS, 0, none⟩) q cS ∧ (JJ (imgs zs W) q).length = q ∧ Hid ((imgs zs W).take q).Nodup ∧ wr.ownsRow w1.heap.size 9 1 (.slice (some ⟨gS, 0, none⟩) q cS) q (sv (JJ (imgs zs W) q)) ∧ wr.ownsRow (w1.alloc (.cells #[] 9)).heap.size 9 1 (.slice (some ⟨gW, 0, none⟩) T cW) T (sv W) ∧ Below w1.heap.size w1 wr) (fun _ qv _ => T - (intOf qv).toNat)
  case atStart => exact ⟨0, w1.heap.size, 0, by omega, rfl, rfl, rfl, Lib.hid (by simp), hown0, hownW, hbel2⟩
  case round =>
    clear hown0 hownW hbel2
    obtain ⟨q, gS, cS, hq, rfl, rfl, hJl, hnd, hownS, hownW, hbel⟩ := hrel
    have hzb := hbel.size
    have hq0 : (0 : Int) ≤ (q : Int) := by omega
    by_cases hlt : q < T
    · have hq1 : (q : Int) < (T : Int) := by omega
      have hck := own_cell hownW q hlt
      rw [sv_at _ _ (by have := hT'.out; omega)] at hck
      have hgWl := (hownW.lt gW rfl).2
      have hxm : W.getD q ByteArray.empty ∈ W := by have := hT'.out; rw [List.getD_eq_getElem?_getD, List.getElem?_eq_getElem (by omega)]; exact List.getElem_mem _
      have hsh := hws.out _ hxm
      have hxz := hwz.out _ hxm
      have hJn1 := hJn.out q hlt
      have hat := imgs_at zs W q (by have := hT'.out; omega)
      obtain ⟨y, hy⟩ : ∃ y, W.getD q ByteArray.empty = y := ⟨_, rfl⟩
      rw [hy] at hck hsh hxz hJn1 hat
      have hst2 := isStrs_below hst (Nat.le_refl _) hbel
      have hcB2 : wr.cell? ⟨w.heap.size, 0, none⟩ = some (.slice x p cap) := (hbel.cell (by show w.heap.size < _; omega)).trans hcB
      have hbw2 : w.heap.size < wr.heap.size := by omega
      have hC := l03Apply_any x p cap zs y wr hst2 hsh (by omega) h8.out hz1.out
      have hie : Hid (img zs y = cc y zs y.size) := rfl
      obtain ⟨I, hI⟩ : ∃ I, cc y zs y.size = I := ⟨_, rfl⟩
      rw [hI] at hC hie
      rw [hie.out] at hJn1 hat
      have hJa1 := hJa.out q
      have htk : Hid ((imgs zs W).take (q + 1) = (imgs zs W).take q ++ [I]) := by show _ = _; rw [take_next _ q ByteArray.empty (by have := hiT.out; omega), hat]
      obtain ⟨J, hJ⟩ : ∃ J, JJ (imgs zs W) q = J := ⟨_, rfl⟩
      rw [hJ] at hJl hownS hJn1 hJa1
      have hiff := hasAt_iff hJa1.1 I
      have hll := lins_len J I
      rw [hJl] at hll
      have hJn1' := Lib.hid hJn1
      have hmem := Lib.hid hJa1.2
      clear hI hJ hy hxm hsh hxz hst2 hJn1 hat hJa1
      have hins := fun (w5 : World) (hz5 : w1.heap.size ≤ w5.heap.size) (ho : w5.ownsRow w1.heap.size 9 1 (.slice (some ⟨gS, 0, none⟩) q cS) q (sv J)) => l05Insert_low w1.heap.size gS q cS J I w5 hz5 (by omega) ho
      cases hh : hasAt J I
      · rw [hh] at hll
        simp only [Bool.false_eq_true, if_false] at hll
        rw [hll] at hins
        have hnm : I ∉ (imgs zs W).take q := fun k => by
          have := hiff.2 ((hmem.out I).2 k); rw [hh] at this; cases this
        have hnm' := Lib.hid hnm
        have hneq : ¬ ((q : Int) + 1 = (q : Int)) := by omega
        clear hnm hiff hh hll
        go_wp2_with (first | (go_at_call 66; refine hC.mono ?_; rintro e w5 ⟨rfl, hb5⟩; have hz5 := hb5.size; have hownS5 := own_below hownS hb5; have hownW5 := own_below hownW hb5) | (go_at_call 65; refine (hins _ (by omega) hownS5).mono ?_; rintro e w6 ⟨g6, c6, rfl, hown6, hb6⟩; have hz6 := hb6.size; have hownW6 := own_below hownW5 hb6))
        go_roundw
        case rel => exact ⟨q + 1, g6, c6, by omega, by go_num, rfl, by rw [hJn1'.out]; exact (by have := hown6.1; simpa [sv] using this), Lib.hid (by rw [htk.out]; exact nodup_snoc hnd.out hnm'.out), by rw [hJn1'.out]; exact hown6, hownW6, Qtrans hb6 (by omega) (Qtrans hb5 (by omega) hbel)⟩
        case measure => (simp [intOf]) <;> omega
      · rw [hh] at hll
        simp only [if_true] at hll
        rw [hll] at hins
        have hm1 : I ∈ (imgs zs W).take q := (hmem.out I).1 (hiff.1 hh)
        have hno : Hid (injB zs n = false) := by
          refine injB_no (fun k => ?_)
          rw [hip.out] at k
          rw [← List.take_append_drop (q + 1) (imgs zs W), htk.out] at k
          exact not_nodup hm1 k
        clear hm1 hiff hh hll
        go_wp2_with (first | (go_at_call 66; refine hC.mono ?_; rintro e w5 ⟨rfl, hb5⟩; have hz5 := hb5.size; have hownS5 := own_below hownS hb5; have hownW5 := own_below hownW hb5) | (go_at_call 65; refine (hins _ (by omega) hownS5).mono ?_; rintro e w6 ⟨g6, c6, rfl, hown6, hb6⟩; have hz6 := hb6.size))
        go_ret
        exact ⟨by rw [hno.out]; rfl, Qtrans hb6 (by omega) (Qtrans hb5 (by omega) (Qtrans hbel (by omega) hbA))⟩
    · obtain rfl : T = q := by omega
      have hyes : Hid (injB zs n = true) := injB_yes (by rw [hip.out]; have := hnd.out; rwa [List.take_of_length_le (by have := hiT.out; omega)] at this)
      have hx : ¬ (T : Int) < (T : Int) := by omega
      go_wp2
      go_ret
      exact ⟨by rw [hyes.out]; rfl, Qtrans hbel (by omega) hbA⟩
noncomputable def injV (zs : List ByteArray) (n : Int) : Bool := sB zs && (inB n 1 4 && injB zs n.toNat)
set_option maxHeartbeats 2000000 in
theorem specInj_any (x : Option Addr) (p cap : Nat) (zs : List ByteArray) (n : Int) (w : World) (h : IsStrs w x p cap zs) (hp : p ≤ 1048576) :
    Calls Try.prog 25 #[.agg #[.slice x p cap], .int .i64 n] w fun e w' => e = .returned (.bool (injV zs n)) ∧ Below w.heap.size w w' := by
  have hb0 : Below w.heap.size w (w.alloc (.cells #[.slice x p cap] 39)) := (Below.refl _ w).alloc (Nat.le_refl _) _
  have h' := isStrs_below h (Nat.le_refl _) hb0
  cases hS : sB zs
  · have hL : Hid (injV zs n = false) := by show _ = _; simp [injV, hS]
    go_enter Try.func25, Try.ntmps25
    go_wp2_with (first | (go_at_call 63; refine (specSubstOk_any _ _ _ _ _ h' hp).mono ?_; rintro e w1 ⟨rfl, hb1⟩) | (go_at_call 54; refine (l01In_any _ _ _ _).mono ?_; rintro e w1 ⟨rfl, rfl⟩))
    go_ret
    exact ⟨by rw [hL.out]; rfl, by (repeat (first | with_reducible exact Below.refl _ _ | assumption | with_reducible refine Qdrew ?_ | with_reducible refine QdrewN ?_ | ((with_reducible refine Qset ?_ ?_); exact (by ((try simp only [World.size_alloc, World.size_setCell, World.size_drew, size_drewN]); (try dsimp only); omega))) | ((with_reducible refine Qalloc ?_ ?_); exact (by ((try simp only [World.size_alloc, World.size_setCell, World.size_drew, size_drewN]); (try dsimp only); omega))) | refine Qtrans (by assumption) (by ((try simp only [World.size_alloc, World.size_setCell, World.size_drew, size_drewN]); (try dsimp only); omega)) ?_))⟩
  · cases hN : inB n 1 4
    · have hL : Hid (injV zs n = false) := by show _ = _; simp [injV, hN]
      go_enter Try.func25, Try.ntmps25
      go_wp2_with (first | (go_at_call 63; refine (specSubstOk_any _ _ _ _ _ h' hp).mono ?_; rintro e w1 ⟨rfl, hb1⟩) | (go_at_call 54; refine (l01In_any _ _ _ _).mono ?_; rintro e w1 ⟨rfl, rfl⟩))
      go_ret
      exact ⟨by rw [hL.out]; rfl, by (repeat (first | with_reducible exact Below.refl _ _ | assumption | with_reducible refine Qdrew ?_ | with_reducible refine QdrewN ?_ | ((with_reducible refine Qset ?_ ?_); exact (by ((try simp only [World.size_alloc, World.size_setCell, World.size_drew, size_drewN]); (try dsimp only); omega))) | ((with_reducible refine Qalloc ?_ ?_); exact (by ((try simp only [World.size_alloc, World.size_setCell, World.size_drew, size_drewN]); (try dsimp only); omega))) | refine Qtrans (by assumption) (by ((try simp only [World.size_alloc, World.size_setCell, World.size_drew, size_drewN]); (try dsimp only); omega)) ?_))⟩
    · have hb := inB_true.1 hN
      obtain ⟨m, hm⟩ : ∃ m : Nat, n = (m : Int) := ⟨n.toNat, by omega⟩
      have hL : injV zs n = injB zs m := by rw [injV, hS, hN, hm]; rfl
      rw [hL, hm]
      exact specInj_ok x p cap m zs w h hp hS (by omega)
set_option maxHeartbeats 2000000 in
theorem implInj_any (x : Option Addr) (p cap : Nat) (zs : List ByteArray) (n : Int) (w : World) (h : IsStrs w x p cap zs) (hp : p ≤ 1048576) :
    Calls Try.prog 27 #[.agg #[.slice x p cap], .int .i64 n] w fun e w' => e = .returned (.bool (injV zs n)) ∧ Below w.heap.size w w' := by
  have hb0 : Below w.heap.size w (w.alloc (.cells #[.slice x p cap] 39)) := (Below.refl _ w).alloc (Nat.le_refl _) _
  have h' := isStrs_below h (Nat.le_refl _) hb0
  cases hS : sB zs
  · have hL : Hid (injV zs n = false) := by show _ = _; simp [injV, hS]
    go_enter Try.func27, Try.ntmps27
    go_wp2_with (first | (go_at_call 68; refine (implSubstOk_any _ _ _ _ _ h' hp).mono ?_; rintro e w1 ⟨rfl, hb1⟩) | (go_at_call 57; refine (within_any _ _ _ _).mono ?_; rintro e w1 ⟨rfl, rfl⟩))
    go_ret
    exact ⟨by rw [hL.out]; rfl, by (repeat (first | with_reducible exact Below.refl _ _ | assumption | with_reducible refine Qdrew ?_ | with_reducible refine QdrewN ?_ | ((with_reducible refine Qset ?_ ?_); exact (by ((try simp only [World.size_alloc, World.size_setCell, World.size_drew, size_drewN]); (try dsimp only); omega))) | ((with_reducible refine Qalloc ?_ ?_); exact (by ((try simp only [World.size_alloc, World.size_setCell, World.size_drew, size_drewN]); (try dsimp only); omega))) | refine Qtrans (by assumption) (by ((try simp only [World.size_alloc, World.size_setCell, World.size_drew, size_drewN]); (try dsimp only); omega)) ?_))⟩
  · cases hN : inB n 1 4
    · have hL : Hid (injV zs n = false) := by show _ = _; simp [injV, hN]
      go_enter Try.func27, Try.ntmps27
      go_wp2_with (first | (go_at_call 68; refine (implSubstOk_any _ _ _ _ _ h' hp).mono ?_; rintro e w1 ⟨rfl, hb1⟩) | (go_at_call 57; refine (within_any _ _ _ _).mono ?_; rintro e w1 ⟨rfl, rfl⟩))
      go_ret
      exact ⟨by rw [hL.out]; rfl, by (repeat (first | with_reducible exact Below.refl _ _ | assumption | with_reducible refine Qdrew ?_ | with_reducible refine QdrewN ?_ | ((with_reducible refine Qset ?_ ?_); exact (by ((try simp only [World.size_alloc, World.size_setCell, World.size_drew, size_drewN]); (try dsimp only); omega))) | ((with_reducible refine Qalloc ?_ ?_); exact (by ((try simp only [World.size_alloc, World.size_setCell, World.size_drew, size_drewN]); (try dsimp only); omega))) | refine Qtrans (by assumption) (by ((try simp only [World.size_alloc, World.size_setCell, World.size_drew, size_drewN]); (try dsimp only); omega)) ?_))⟩
    · have hb := inB_true.1 hN
      obtain ⟨m, hm⟩ : ∃ m : Nat, n = (m : Int) := ⟨n.toNat, by omega⟩
      have hL : injV zs n = injB zs m := by rw [injV, hS, hN, hm]; rfl
      rw [hL, hm]
      exact implInj_ok x p cap m zs w h hp hS (by omega)
end Go.Proofs.Ytfbcbfimhgaicaa
