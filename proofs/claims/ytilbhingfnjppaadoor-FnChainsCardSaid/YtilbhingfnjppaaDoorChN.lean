/- Chains: the word of the steps. -/
import Derived.Test.YtilbhingfnjppaaDoorChM
import Derived.Test.YtilbhingfnjppaaDoorBytes
set_option linter.unusedSimpArgs false
set_option linter.unusedVariables false
namespace Go.Proofs.YtilbhingfnjppaaDoor
open Go.RowKit
/-- Where a number stands among these. -/
def ixl (K : List GP) (x : GP) : Nat := K.findIdx (fun y => (x.1 == y.1) && (x.2 == y.2))
theorem ixl_lt {K : List GP} {x : GP} (h : x ∈ K) : ixl K x < K.length := List.findIdx_lt_length_of_exists ⟨x, h, by simp⟩
theorem ixl_at {K : List GP} {x : GP} (h : x ∈ K) : K.getD (ixl K x) (0, 0) = x := by
  have hl : List.findIdx (fun y : GP => (x.1 == y.1) && (x.2 == y.2)) K < K.length := ixl_lt h
  have := List.findIdx_getElem (xs := K) (p := fun y : GP => (x.1 == y.1) && (x.2 == y.2)) (w := hl)
  rw [Bool.and_eq_true, beq_iff_eq, beq_iff_eq] at this
  show K.getD (List.findIdx (fun y : GP => (x.1 == y.1) && (x.2 == y.2)) K) (0, 0) = x
  rw [List.getD_eq_getElem?_getD, List.getElem?_eq_getElem hl]
  exact (Prod.ext this.1 this.2).symm
theorem ixl_ne {K : List GP} {x : GP} {j : Nat} (h : j < ixl K x) : ((x.1 == (K.getD j (0, 0)).1) && (x.2 == (K.getD j (0, 0)).2)) = false := by
  have hl : j < K.length := Nat.lt_of_lt_of_le h List.findIdx_le_length
  have := List.not_of_lt_findIdx (p := fun y : GP => (x.1 == y.1) && (x.2 == y.2)) h
  rw [List.getD_eq_getElem?_getD, List.getElem?_eq_getElem hl]
  simpa using this
theorem ixl_gt {K : List GP} {x : GP} {j : Nat} (ha : ascK K) (hx : x ∈ K) (h : ixl K x < j) (hj : j < K.length) : ((x.1 == (K.getD j (0, 0)).1) && (x.2 == (K.getD j (0, 0)).2)) = false := by
  cases hq : ((x.1 == (K.getD j (0, 0)).1) && (x.2 == (K.getD j (0, 0)).2))
  · rfl
  · rw [Bool.and_eq_true, beq_iff_eq, beq_iff_eq] at hq
    have e : x = K.getD j (0, 0) := Prod.ext hq.1 hq.2
    have h2 := ixl_at hx
    have hl := ixl_lt hx
    have := List.pairwise_iff_getElem.1 ha (ixl K x) j hl hj h
    rw [List.getD_eq_getElem?_getD, List.getElem?_eq_getElem hj] at e
    rw [List.getD_eq_getElem?_getD, List.getElem?_eq_getElem hl] at h2
    simp only [Option.getD_some] at e h2
    rw [h2, ← e] at this
    omega
def lt8 (N i : Nat) : UInt8 := UInt8.ofNat (97 + N - 1 - i)
theorem lt8_nat {N i : Nat} (h : N ≤ 59) (hi : i < N) : ((lt8 N i).toNat : Int) = 97 + (N : Int) - 1 - i := by
  unfold lt8
  rw [UInt8.toNat_ofNat', Nat.mod_eq_of_lt (by omega)]
  omega
/-- The word of the first k steps. -/
def swL (K S : List GP) (k : Nat) : List UInt8 := (S.take k).map (fun x => lt8 K.length (ixl K x))
theorem swL_next (K S : List GP) (k : Nat) (h : k < S.length) : swL K S (k + 1) = swL K S k ++ [lt8 K.length (ixl K (S.getD k (0, 0)))] := by
  unfold swL
  rw [List.take_add_one, List.getElem?_eq_getElem h, List.map_append, List.getD_eq_getElem?_getD, List.getElem?_eq_getElem h]
  rfl
theorem swL_len (K S : List GP) (k : Nat) (h : k ≤ S.length) : (swL K S k).length = k := by simp [swL]; omega
theorem kdL_asc (a b c d : Int) : ascK (kdL a b c d) ∧ ∀ z, z ∈ kdL a b c d ↔ z ∈ stL a b c d 59 := by
  obtain ⟨h1, h2⟩ := kdS_fold ((stL a b c d 59).take (stL a b c d 59).length) [] (fun z hz => stL_bg a b c d 59 z (List.mem_of_mem_take hz)) (by simp) List.Pairwise.nil
  refine ⟨h1, fun z => ?_⟩
  show z ∈ ((stL a b c d 59).take (stL a b c d 59).length).foldl kdS [] ↔ _
  rw [h2, List.take_length]; simp
theorem stL_sub (a b c d n : Int) : ∀ z ∈ stL a b c d n, z ∈ kdL a b c d := by
  intro z hz
  rw [(kdL_asc a b c d).2]
  unfold stL at hz ⊢
  split at hz
  · rename_i h
    rw [Bool.and_eq_true] at h
    have hn := inB_true.1 h.2
    rw [if_pos (by rw [h.1]; rfl)]
    unfold dfs at hz ⊢
    obtain ⟨j, hj, rfl⟩ := List.mem_map.1 hz
    rw [List.mem_range] at hj
    refine List.mem_map.2 ⟨j, by rw [List.mem_range]; omega, ?_⟩
    have e : ∀ i, i < n.toNat + 1 → ((specL (a, b) (c, d)).take ((59 : Int).toNat + 1)).getD i (0, 0) = ((specL (a, b) (c, d)).take (n.toNat + 1)).getD i (0, 0) := fun i hi => by
      rw [List.getD_eq_getElem?_getD, List.getD_eq_getElem?_getD, List.getElem?_take_of_lt (by omega), List.getElem?_take_of_lt hi]
    rw [e j (by omega), e (j + 1) (by omega)]
  · simp at hz
/-- What StepWord returns. -/
noncomputable def wordL (a b c d n : Int) : ByteArray := ⟨(swL (kdL a b c d) (stL a b c d n) (stL a b c d n).length).toArray⟩
set_option maxRecDepth 20000 in
set_option maxHeartbeats 1000000 in
theorem index_any (g N cap : Nat) (K : List GP) (x : GP) (w : World) (hN : N ≤ 100) (hr : RG w (some ⟨g, 0, none⟩) N K) (hx : x ∈ K) (hl : K.length = N) :
    Calls Tryd.prog 73 #[.slice (some ⟨g, 0, none⟩) N cap, .agg #[.int .i64 (x.1), .int .i64 (x.2)]] w fun e w' => e = .returned (.int .i64 (ixl K x : Nat)) ∧ Below w.heap.size w w' := by
  have hix := ixl_lt hx
  obtain ⟨g', hg', hgl, hcell⟩ := rG_cell hr (by omega)
  cases hg'
  have hcell' := Lib.hid hcell
  have hnl := Lib.hid (fun j => @ixl_ne K x j)
  have hat := Lib.hid (ixl_at hx)
  obtain ⟨s, hs⟩ : ∃ s, x.1 = s := ⟨_, rfl⟩
  obtain ⟨t, ht⟩ : ∃ t, x.2 = t := ⟨_, rfl⟩
  rw [hs, ht]
  obtain ⟨I, hI⟩ : ∃ I, ixl K x = I := ⟨_, rfl⟩
  rw [hI] at hix hnl hat ⊢
  have hst := Lib.hid (And.intro hs ht)
  clear hx hcell hr hs ht hI
  go_enter Tryd.func73, Tryd.ntmps73
  go_wp2_with fail
  go_loopw [8] (fun i wr => ∃ j : Nat, j ≤ I ∧ i = .int .i64 j ∧ Below (w.heap.size + 1) (w.alloc (.cells #[.int .i64 s, .int .i64 t] 44)) wr) (fun i _ => N - (intOf i).toNat)
  case atStart => exact ⟨0, by omega, rfl, Below.refl _ _⟩
  case round =>
    obtain ⟨j, hj, rfl, hb⟩ := hrel
    have x1 : wr.cell? ⟨w.heap.size, 0, none⟩ = some (.int .i64 s) := (hb.cell (by simp)).trans (by simp [go_sem])
    have x2 : wr.cell? ⟨w.heap.size, 1, none⟩ = some (.int .i64 t) := (hb.cell (by simp)).trans (by simp [go_sem])
    obtain ⟨a1, a2⟩ := hcell'.out j (by omega)
    have y1 := (hb.cell (p := ⟨g, j * 2, none⟩) (by show g < _; omega)).trans ((calloc hgl).trans a1)
    have y2 := (hb.cell (p := ⟨g, j * 2 + 1, none⟩) (by show g < _; omega)).trans ((calloc hgl).trans a2)
    have hq1 : Hid (j < I → ((s == (K.getD j (0, 0)).1) && (t == (K.getD j (0, 0)).2)) = false) := fun h => by
      have := hnl.out j h
      rw [hst.out.1, hst.out.2] at this; exact this
    have hq2 : Hid (j = I → ((s == (K.getD j (0, 0)).1) && (t == (K.getD j (0, 0)).2)) = true) := fun h => by
      subst h
      rw [hat.out, hst.out.1, hst.out.2]; simp
    clear a1 a2
    obtain ⟨u, hu⟩ : ∃ u, (K.getD j (0, 0)).1 = u := ⟨_, rfl⟩
    obtain ⟨v, hv⟩ : ∃ v, (K.getD j (0, 0)).2 = v := ⟨_, rfl⟩
    rw [hu] at y1 hq1 hq2
    rw [hv] at y2 hq1 hq2
    clear hu hv
    obtain ⟨q, hq⟩ : ∃ q, ((s == u) && (t == v)) = q := ⟨_, rfl⟩
    have hE : ∀ w, Sem.run Tryd.prog (binOp .eql 44 (.agg #[.int .i64 (s), .int .i64 (t)]) (.agg #[.int .i64 (u), .int .i64 (v)])) w = .ok (.bool q) w := fun w => by rw [gold_eql, hq]
    have hNe : ∀ w, Sem.run Tryd.prog (binOp .neq 44 (.agg #[.int .i64 (s), .int .i64 (t)]) (.agg #[.int .i64 (u), .int .i64 (v)])) w = .ok (.bool !q) w := fun w => by rw [gold_neq, hq]
    have hGd : ∀ (op : BinOp) (x y : Operand) (w : World), Sem.run Tryd.prog (eqGuard op 44 x y (.agg #[.int .i64 (s), .int .i64 (t)]) (.agg #[.int .i64 (u), .int .i64 (v)])) w = .ok () w := fun op x y w => gold_grd op x y (s, t) (u, v) w
    rw [hq] at hq1 hq2
    have j1 : (0 : Int) ≤ (j : Int) := by omega
    have j2 : (j : Int) < (N : Int) := by omega
    have i8 : IntKind.i64.wrap ((j : Int) + 1) = (j : Int) + 1 := IntWalk.i64_in _ (by omega)
    clear hq
    cases q
    · have hne : j < I := by
        rcases Nat.lt_or_ge j I with h | h
        · exact h
        · exact absurd (hq2.out (by omega)) (by simp)
      go_wp2_with fail
      go_quiet (fail)
      go_wp2
      exact ⟨⟨j + 1, by omega, by go_num, QdrewN hb⟩, by simp [intOf]; omega⟩
    · have hee : Hid (j = I) := by
        show _ = _
        rcases Nat.lt_or_ge j I with h | h
        · exact absurd (hq1.out h) (by simp)
        · omega
      go_wp2_with fail
      go_quiet (fail)
      go_wp2
      go_ret
      exact ⟨by rw [hee.out]; rfl, Qtrans (QdrewN hb) (by omega) ((Below.refl _ w).alloc (Nat.le_refl _) _)⟩
theorem heap_newP (w : World) (a b : Obj) : ((w.alloc a).alloc b).heap[w.heap.size + 1]? = some b := by
  have := heap_alloc_new (w.alloc a) b
  rw [World.size_alloc] at this
  exact this
set_option maxRecDepth 20000 in
set_option maxHeartbeats 4000000 in
theorem implWord_any (a b c d n : Int) (w : World) :
    Calls Tryd.prog 27 #[.agg #[.int .i64 (a), .int .i64 (b)], .agg #[.int .i64 (c), .int .i64 (d)], .int .i64 n] w fun e w' => e = .returned (.string (wordL a b c d n)) ∧ Below w.heap.size w w' := by
  have hS := fun w => implSteps_any a b c d n w
  have hK := fun w => implKinds_any a b c d w
  have hSl := stL_len a b c d n
  have hKl := kdL_len a b c d
  have hbg := Lib.hid (stL_bg a b c d n)
  have hsub := Lib.hid (stL_sub a b c d n)
  have hasc := Lib.hid (kdL_asc a b c d).1
  have hres : Hid (wordL a b c d n = ⟨(swL (kdL a b c d) (stL a b c d n) (stL a b c d n).length).toArray⟩) := rfl
  obtain ⟨S, hSS⟩ : ∃ S, stL a b c d n = S := ⟨_, rfl⟩
  obtain ⟨K, hKK⟩ : ∃ K, kdL a b c d = K := ⟨_, rfl⟩
  rw [hSS] at hS hSl hbg hsub hres
  rw [hKK] at hK hKl hsub hasc hres
  obtain ⟨N, hN⟩ : ∃ N, K.length = N := ⟨_, rfl⟩
  obtain ⟨m, hm⟩ : ∃ m, S.length = m := ⟨_, rfl⟩
  rw [hN] at hK hKl
  rw [hm] at hS hSl hres
  have hN' := Lib.hid hN
  have hm' := Lib.hid hm
  clear hSS hKK hN hm
  go_enter Tryd.func27, Tryd.ntmps27
  go_wp2_with (first | (go_at_call 26; refine (hK _).mono ?_; rintro e w1 ⟨xK, cK, rfl, hoK, hb1⟩; have zz1 := hb1.size; obtain ⟨hc1, hf1⟩ := bcellK (w := w) 2 hb1 (by simp); have hl1 := ltK (n := w.heap.size) (p := 2) (w1 := w1) (by simp at zz1; omega)) | (go_at_call 25; refine (hS _).mono ?_; rintro e w2 ⟨xS, cS, rfl, hoS, hb2⟩))
  have zz2 := hb2.size
  simp only [World.size_alloc] at zz1 zz2
  have hbw : Below w.heap.size w w2 := Qtrans hb2 (by simp; omega) ((Qtrans hb1 (by simp; omega) (((Below.refl _ w).alloc (Nat.le_refl _) _).alloc (by simp) _)).alloc (by omega) _)
  have rK := rG_below (rG_alloc (o := .cells #[] 5) (rG_own hoK (by omega))) (Nat.le_refl _) hb2
  have rS := rG_own hoS (by omega)
  have hxK : ∀ g off, xK = some ⟨g, off, none⟩ → g < w1.heap.size := fun g off q => by subst q; exact (hoK.lt g rfl).2
  have hxS : ∀ g off, xS = some ⟨g, off, none⟩ → w1.heap.size < g ∧ g < w2.heap.size := fun g off q => by subst q; have := hoS.lt g rfl; simp at this; omega
  have hown0 : w2.ownsRow w.heap.size 5 1 (.slice (some ⟨w1.heap.size, 0, none⟩) 0 0) 0 (bv (swL K S 0)) := by
    have h := own_below (World.ownsRow_lit (base := w.heap.size) (e := 5) (size := 1) w1 #[] 0 (by omega) (by decide) rfl) hb2
    simpa [swL, bv] using h
  obtain ⟨i0, hi0, hz0, hz1, hz2⟩ := info_parts infoB
  clear hoK hoS
  go_loopw [8, 20] (fun out i wr => ∃ k g cp : Nat, k ≤ m ∧ i = .int .i64 k ∧ out = .slice (some ⟨g, 0, none⟩) k cp ∧ wr.ownsRow w.heap.size 5 1 (.slice (some ⟨g, 0, none⟩) k cp) k (bv (swL K S k)) ∧ RG wr xK N K ∧ RG wr xS m S ∧ (g = w1.heap.size ∨ w2.heap.size ≤ g) ∧ Below w.heap.size w wr ∧ w2.heap.size ≤ wr.heap.size) (fun _ i _ => m - (intOf i).toNat)
  case atStart => exact ⟨0, w1.heap.size, 0, by omega, rfl, rfl, hown0, rK, rS, .inl rfl, hbw, by omega⟩
  case round =>
    clear hown0 rK rS hbw hb1 hb2
    obtain ⟨k, g, cp, hk, rfl, rfl, hown, rK, rS, hg, hbel, hzr⟩ := hrel
    by_cases hlt : k < m
    · obtain ⟨gS, hxs, hlS, hcell⟩ := rG_cell rS (by omega)
      obtain ⟨f1, f2⟩ := hcell k hlt
      have hmem : S.getD k (0, 0) ∈ K := hsub.out _ (by
        rw [List.getD_eq_getElem?_getD, List.getElem?_eq_getElem (by rw [hm'.out]; exact hlt)]; exact List.getElem_mem _)
      have hnext := Lib.hid (swL_next K S k (by rw [hm'.out]; exact hlt))
      obtain ⟨gK, hxk, hlK, _⟩ := rG_cell rK (by have := ixl_lt hmem; rw [hN'.out] at this; omega)
      have hil := ixl_lt hmem
      have hl8 := lt8_nat (N := N) (i := ixl K (S.getD k (0, 0))) hKl (by rw [hN'.out] at hil; exact hil)
      rw [hN'.out] at hil
      have hix : ∀ w cap, RG w (some ⟨gK, 0, none⟩) N K → _ := fun w cap h => index_any gK N cap K (S.getD k (0, 0)) w (by omega) h hmem hN'.out
      subst hxs hxk
      have hgS := hxS gS 0 rfl
      have hgK := hxK gK 0 rfl
      clear hcell hmem
      obtain ⟨x, hx⟩ : ∃ x, S.getD k (0, 0) = x := ⟨_, rfl⟩
      rw [hx] at f1 f2 hnext hil hl8 hix
      rw [hN'.out] at hnext
      clear hx
      obtain ⟨s, t⟩ := x
      simp only at f1 f2 hix
      obtain ⟨L, hL⟩ : ∃ L, lt8 N (ixl K (s, t)) = L := ⟨_, rfl⟩
      obtain ⟨I, hI⟩ : ∃ I, ixl K (s, t) = I := ⟨_, rfl⟩
      rw [hL] at hnext hl8
      rw [hI] at hl8 hil hix
      have hgb := (hown.lt g rfl).1
      have hgl := (hown.lt g rfl).2
      have i1 : (0 : Int) ≤ (k : Int) := by omega
      have i2 : (k : Int) < (m : Int) := by omega
      have i8 : IntKind.i64.wrap ((k : Int) + 1) = (k : Int) + 1 := IntWalk.i64_in _ (by omega)
      have hLr := L.toNat_lt
      have i7 : IntKind.u8.wrap (97 + (N : Int) - 1 - (I : Int)) = 97 + (N : Int) - 1 - (I : Int) := IntWalk.u8_in _ (by omega)
      clear hL hI
      have r1 : RG (wr.alloc (.cells #[.int .i64 s, .int .i64 t] 44)) (some ⟨gK, 0, none⟩) N K := rG_alloc rK
      go_wp2_with (first | (go_at_call 73; refine (hix _ _ r1).mono ?_; rintro e w6 ⟨rfl, hb6⟩; have hown6 := own_below (hown.alloc (.cells #[.int .i64 s, .int .i64 t] 44)) hb6; have hz6 := hb6.size; simp only [World.size_alloc] at hz6) | (at_builtin; refine wpList_append_lies _ rfl _ _ _ rfl (w.heap.size) 5 i0 _ 1 1 Tryd.underlying24 hi0 hz0 hz1 hz2 rfl (by decide) (.slice (some ⟨g, 0, none⟩) k cp) (k) (bv (swL K S k)) (by rfl) (hown6.alloc _) ⟨(w6).heap.size, 0, none⟩ 1 1 [.int .u8 (97 + (N : Int) - 1 - (I : Int))] (by rfl) (by rfl) (World.news_of_block (cs := #[.int .u8 (97 + (N : Int) - 1 - (I : Int))]) (t := 5) (fr := (0, 0)) (heap_alloc_new (w6) _)) (by simp [Value.oneCell']) (by omega) (by unfold maxLen; omega) (by omega) (by simp; omega) ((w6).heap.size + 1) (by simp) ?_; intro gg cap w1 hown1 hgrow hatg hltg))
      go_roundw
      case rel => exact ⟨k + 1, gg, cap, by omega, by go_num, rfl, by rw [hnext.out, bv_snoc, hl8]; exact hown1, rG_grownBy (rG_alloc (rG_below r1 (Nat.le_refl _) hb6)) hgrow (fun b' off' q q2 => by simp at q; simp [Value.ownBlock] at q2; omega), rG_grownBy (rG_alloc (rG_below (rG_alloc rS) (Nat.le_refl _) hb6)) hgrow (fun b' off' q q2 => by simp at q; simp [Value.ownBlock] at q2; omega), by rcases hatg with q | q <;> (try simp [Value.ownBlock] at q) <;> omega, Below.grown ((Qtrans hb6 (by simp; omega) (hbel.alloc (by omega) _)).alloc (by omega) _) hgrow (by simp; omega) (fun k' hk' => by simp [Value.ownBlock] at hk'; omega), by have h1 := hgrow.size; simp only [World.size_alloc] at h1; omega⟩
      case measure => (simp [intOf]) <;> omega
    · obtain rfl : k = m := by omega
      have hlen := swL_len K S k (by rw [hm'.out]; omega)
      have hcv := own_string (g := g) (cap := cp) (l := swL K S k) (w := wr) (B := w.heap.size) (by rw [hlen]; exact hown)
      rw [hlen] at hcv
      go_wp2
      go_ret
      exact ⟨by rw [hres.out]; rfl, hbel⟩
end Go.Proofs.YtilbhingfnjppaaDoor
