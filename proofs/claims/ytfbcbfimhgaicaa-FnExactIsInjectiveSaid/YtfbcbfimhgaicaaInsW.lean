/- A string put into an ascending list: the walk. -/
import Derived.Test.YtfbcbfimhgaicaaIns
import Derived.Test.YtfbcbfimhgaicaaLawT
import Derived.Maps.AppendAt
import Derived.Laws.Cover1
set_option linter.unusedSimpArgs false
set_option linter.unusedVariables false
namespace Go.Proofs.Ytfbcbfimhgaicaa
open Go.RowKit
theorem gtr_B (t : TypeId) (a b : ByteArray) : binOp .gtr t (.string a) (.string b) = pure (.bool (gtB a b)) := by rw [binOp_string_gtr]; rfl
attribute [-go_sem] binOp_string_gtr
attribute [local go_sem] gtr_B
theorem news_take {w : World} {g n K : Nat} {L : List ByteArray} (hc : ∀ j, j < n → w.cell? ⟨g, j, none⟩ = some (.string (L.getD j ByteArray.empty))) (hlen : L.length = n) (hK : K ≤ n) : ∀ j u, (sv (L.take K))[j]? = some u → w.cell? ((⟨g, 0, none⟩ : Addr).add j) = some u := by
  intro j u hu
  have hj : j < K := by
    by_cases h : j < K
    · exact h
    · rw [List.getElem?_eq_none (by simp [sv]; omega)] at hu; cases hu
  rw [sv_at _ _ (by simp; omega), getD_take _ _ _ _ hj] at hu
  rw [Addr.add_lit, Nat.zero_add, hc j (by omega)]; exact hu
theorem news_drop {w : World} {g n K : Nat} {L : List ByteArray} (hc : ∀ j, j < n → w.cell? ⟨g, j, none⟩ = some (.string (L.getD j ByteArray.empty))) (hlen : L.length = n) (hK : K ≤ n) : ∀ j u, (sv (L.drop K))[j]? = some u → w.cell? ((⟨g, K, none⟩ : Addr).add j) = some u := by
  intro j u hu
  have hj : K + j < n := by
    by_cases h : K + j < n
    · exact h
    · rw [List.getElem?_eq_none (by simp [sv]; omega)] at hu; cases hu
  rw [sv_at _ _ (by simp; omega)] at hu
  rw [Addr.add_lit, hc (K + j) hj]
  rw [← hu]; simp [List.getD_eq_getElem?_getD]
theorem sv_one (l : List ByteArray) : ∀ u ∈ sv l, u.oneCell' = true := by intro u hu; obtain ⟨z, _, rfl⟩ := List.mem_map.1 hu; rfl
theorem app_form {w1 : World} {B H W n0 c0 N m : Nat} {e : TypeId} {v' : Value} {xs : List Value} (hown : w1.ownsRow B e 1 v' N xs) (hnil : v' = .slice none 0 0 ↔ (Value.slice (some ⟨H, 0, none⟩) n0 c0) = .slice none 0 0 ∧ m = 0) (hat : v'.ownBlock = some H ∨ v'.ownBlock = some W) : ∃ g1 c1, v' = .slice (some ⟨g1, 0, none⟩) N c1 ∧ (g1 = H ∨ g1 = W) := by
  rcases hown.2 with ⟨h', _⟩ | ⟨g1, c1, _, h', _⟩
  · exact absurd (hnil.1 h').1 (by simp)
  · subst h'
    exact ⟨g1, c1, rfl, by simpa [Value.ownBlock] using hat⟩
theorem far_hid {w w' : World} {g H n : Nat} {L : List ByteArray} (h : Hid (∀ j, j < n → w.cell? ⟨g, j, none⟩ = some (.string (L.getD j ByteArray.empty)))) (hg : w.grownBy w' (some H)) (hl : g < w.heap.size) (hne : g ≠ H) : Hid (∀ j, j < n → w'.cell? ⟨g, j, none⟩ = some (.string (L.getD j ByteArray.empty))) :=
  fun j hj => (hg.cell_far ⟨g, j, none⟩ hl (by simp; omega)).trans (h.out j hj)
set_option maxRecDepth 20000 in
set_option maxHeartbeats 4000000 in
theorem l05Insert_low (B g n cap : Nat) (L : List ByteArray) (x : ByteArray) (w : World) (hB : B ≤ w.heap.size) (hn : n ≤ 100000) (hown : w.ownsRow B 9 1 (.slice (some ⟨g, 0, none⟩) n cap) n (sv L)) :
    Calls Try.prog 65 #[.slice (some ⟨g, 0, none⟩) n cap, .string x] w fun e w' => ∃ g' c, e = .returned (.slice (some ⟨g', 0, none⟩) (lins L x).length c) ∧ w'.ownsRow B 9 1 (.slice (some ⟨g', 0, none⟩) (lins L x).length c) (lins L x).length (sv (lins L x)) ∧ Below w.heap.size w w' := by
  obtain ⟨i0, hi0, hz0, hz1, hz2⟩ := info_parts infoS
  have hlen : L.length = n := by have := hown.1; simpa [sv] using this
  have hn' : (n : Int) ≤ 100000 := by omega
  have hcell : Hid (∀ j, j < n → w.cell? ⟨g, j, none⟩ = some (.string (L.getD j ByteArray.empty))) := fun j hj => by rw [own_cell hown j hj, sv_at _ _ (by omega)]
  have hgl := (hown.lt g rfl).2
  have hgB := (hown.lt g rfl).1
  have hcap : n ≤ cap ∧ cap ≤ maxLen := by
    rcases hown.2 with ⟨h', _⟩ | ⟨_, _, _, h', _, _, hc, hm, _⟩
    · cases h'
    · cases h'; exact ⟨hc, hm⟩
  unfold maxLen at hcap
  go_enter Try.func65, Try.ntmps65
  go_wp2_with fail
  go_loopw [5] (fun kv wr => ∃ k : Nat, k ≤ n ∧ kv = .int .i64 k ∧ Hid (kkf L x L.length = kkf L x k) ∧ w = wr) (fun kv _ => (intOf kv).toNat)
  case atStart => exact ⟨n, Nat.le_refl _, rfl, Lib.hid (by rw [hlen]), by first | rfl | trivial⟩
  case round =>
    obtain ⟨k, hk, rfl, hkk, rfl⟩ := hrel
    cases k with
    | zero =>
      have hk0 : Hid (kkf L x L.length = 0) := hkk
      have hl : Hid (lins L x = (L.take 0 ++ [x]) ++ L.drop 0) := by show _ = _; simp [lins, hasAt, hk0.out]
      have hk5 : (0 : Int) ≤ ((0 : Nat) : Int) := by omega
      have hk6 : ((0 : Nat) : Int) ≤ ((n : Nat) : Int) := by omega
      have hk7 : ((0 : Nat) : Int) ≤ ((cap : Nat) : Int) := by omega
      have hown0 : (w.alloc (.cells #[] 9)).ownsRow B 9 1 (.slice (some ⟨w.heap.size, 0, none⟩) 0 0) 0 [] := World.ownsRow_lit (base := B) (e := 9) (size := 1) w #[] 0 hB (by decide) rfl
      have hcA : Hid (∀ j, j < n → (w.alloc (.cells #[] 9)).cell? ⟨g, j, none⟩ = some (.string (L.getD j ByteArray.empty))) := fun j hj => (calloc hgl).trans (hcell.out j hj)
      go_wp2_with (first | (at_builtin; (refine wpList_append_own_at _ rfl _ _ _ rfl B 9 i0 _ 1 16 Try.underlying34 hi0 hz0 hz1 hz2 rfl (by decide) (.slice (some ⟨w.heap.size, 0, none⟩) 0 0) 0 [] (by rfl) hown0 ⟨g, 0, none⟩ (0) (cap) (sv (L.take (0))) (by rfl) (by simp [sv] <;> omega) (news_take hcA.out hlen (by omega)) (sv_one _) (by unfold maxLen; omega) (by omega) (by simp; omega) ?_); intro v1 w1 hown1 hgrow1 hnil1 hat1; go_loud (obtain ⟨g1, c1, rfl, hg1⟩ := app_form (H := w.heap.size) hown1 hnil1 hat1); rw [Nat.zero_add, List.nil_append] at hown1; have hz1' := hgrow1.size; go_loud (simp only [World.size_alloc] at hz1' hg1); go_loud (have hcB := far_hid (H := w.heap.size) hcA hgrow1 (by simp; omega) (by omega))) | (at_builtin; (refine wpList_append_lies _ rfl _ _ _ rfl B 9 i0 _ 1 16 Try.underlying34 hi0 hz0 hz1 hz2 rfl (by decide) (.slice (some ⟨g1, 0, none⟩) (0) c1) (0) (sv (L.take (0))) (by rfl) (hown1.alloc _) ⟨w1.heap.size, 0, none⟩ 1 1 [.string x] (by rfl) (by rfl) (World.news_of_block (cs := #[.string x]) (t := 9) (fr := (0, 0)) (heap_alloc_new w1 _)) (by simp [Value.oneCell']) (by omega) (by unfold maxLen; omega) (by omega) (by simp; omega) (w1.heap.size + 1) (by simp) ?_); intro gg capA w2 hown2 hgrow2 hatg hltg; have hz2' := hgrow2.size; (simp only [World.size_alloc] at hz2'); have hgg : gg = g1 ∨ gg = w1.heap.size + 1 := (by rcases hatg with e | e; exact .inl (by simpa [Value.ownBlock] using e.symm); exact .inr e); have hcC := far_hid (H := g1) (fun j hj => (calloc (by omega)).trans (hcB.out j hj)) hgrow2 (by simp; omega) (by omega)) | (at_builtin; (refine wpList_append_own_at _ rfl _ _ _ rfl B 9 i0 _ 1 16 Try.underlying34 hi0 hz0 hz1 hz2 rfl (by decide) (.slice (some ⟨gg, 0, none⟩) ((0) + 1) capA) ((0) + 1) _ (by rfl) hown2 ⟨g, 0, none⟩ (n - 0) (cap - 0) (sv (L.drop 0)) (by rfl) (by simp [sv] <;> omega) (news_drop hcC.out hlen (by omega)) (sv_one _) (by unfold maxLen; omega) (by omega) (by omega) ?_); intro v3 w3 hown3 hgrow3 hnil3 hat3; obtain ⟨g3, c3, rfl, hg3⟩ := app_form (H := gg) hown3 hnil3 hat3; have hz3' := hgrow3.size))
      have hN : Hid ((lins L x).length = (0) + 1 + (n - 0)) := by show _ = _; rw [hl.out]; simp; omega
      have hvs : Hid (sv (lins L x) = (sv (L.take (0)) ++ [.string x]) ++ sv (L.drop 0)) := by show _ = _; rw [hl.out]; simp [sv]
      go_ret
      refine ⟨g3, c3, by rw [hN.out]; rfl, by rw [hN.out, hvs.out]; exact hown3, ?_⟩
      have hb1 : Below w.heap.size w w1 := Below.grown ((Below.refl _ w).alloc (Nat.le_refl _) _) hgrow1 (by simp) (fun k hk => by simp [Value.ownBlock] at hk; omega)
      have hb2 : Below w.heap.size w w2 := Below.grown (hb1.alloc (by omega) _) hgrow2 (by simp; omega) (fun k hk => by simp [Value.ownBlock] at hk; omega)
      exact Below.grown hb2 hgrow3 (by omega) (fun k hk => by simp [Value.ownBlock] at hk; omega)
    | succ k =>
      have hck := hcell.out k (by omega)
      obtain ⟨z, hz⟩ : ∃ z, L.getD k ByteArray.empty = z := ⟨_, rfl⟩
      rw [hz] at hck
      have hz' := Lib.hid hz
      clear hz
      have hp : (0 : Int) < ((k : Int) + 1) := by omega
      have hk1 : (0 : Int) ≤ (k : Int) := by omega
      have hk2 : (k : Int) < (n : Int) := by omega
      have e1 : ((k + 1 : Nat) : Int) = (k : Int) + 1 := by omega
      by_cases hg : gtB z x = true
      · rw [e1]
        go_wp2_with fail
        go_roundw
        case rel => exact ⟨k, by omega, rfl, Lib.hid (by rw [hkk.out, kkf, hz'.out, if_pos hg]), by first | rfl | trivial⟩
        case measure => (simp [intOf]) <;> omega
      · have hkv : Hid (kkf L x L.length = k + 1) := by show _ = _; rw [hkk.out, kkf, hz'.out, if_neg hg]
        have hg2 : gtB z x = false := by simpa using hg
        clear hg
        cases he : (z.toList == x.toList)
        · have hl : Hid (lins L x = (L.take (k + 1) ++ [x]) ++ L.drop (k + 1)) := by show _ = _; simp only [lins, hasAt, hkv.out, Nat.add_sub_cancel, hz'.out, he, Bool.and_false]; rfl
          by_cases hce : cap = k + 1
          · obtain rfl : n = k + 1 := by omega
            subst hce
            have hd : L.drop (k + 1) = [] := List.drop_eq_nil_of_le (by omega)
            rw [hd] at hl
            have hk5 : (0 : Int) ≤ ((k + 1 : Nat) : Int) := by omega
            have hk6 : ((k + 1 : Nat) : Int) ≤ ((k + 1 : Nat) : Int) := by omega
            have hk7 : ((k + 1 : Nat) : Int) ≤ ((k + 1 : Nat) : Int) := by omega
            have hown0 : (w.alloc (.cells #[] 9)).ownsRow B 9 1 (.slice (some ⟨w.heap.size, 0, none⟩) 0 0) 0 [] := World.ownsRow_lit (base := B) (e := 9) (size := 1) w #[] 0 hB (by decide) rfl
            have hcA : Hid (∀ j, j < k + 1 → (w.alloc (.cells #[] 9)).cell? ⟨g, j, none⟩ = some (.string (L.getD j ByteArray.empty))) := fun j hj => (calloc hgl).trans (hcell.out j hj)
            go_wp2_with (first | (at_builtin; (refine wpList_append_own_at _ rfl _ _ _ rfl B 9 i0 _ 1 16 Try.underlying34 hi0 hz0 hz1 hz2 rfl (by decide) (.slice (some ⟨w.heap.size, 0, none⟩) 0 0) 0 [] (by rfl) hown0 ⟨g, 0, none⟩ (k + 1) (k + 1) (sv (L.take (k + 1))) (by rfl) (by simp [sv] <;> omega) (news_take hcA.out hlen (by omega)) (sv_one _) (by unfold maxLen; omega) (by omega) (by simp; omega) ?_); intro v1 w1 hown1 hgrow1 hnil1 hat1; go_loud (obtain ⟨g1, c1, rfl, hg1⟩ := app_form (H := w.heap.size) hown1 hnil1 hat1); rw [Nat.zero_add, List.nil_append] at hown1; have hz1' := hgrow1.size; go_loud (simp only [World.size_alloc] at hz1' hg1); go_loud (have hcB := far_hid (H := w.heap.size) hcA hgrow1 (by simp; omega) (by omega))) | (at_builtin; (refine wpList_append_lies _ rfl _ _ _ rfl B 9 i0 _ 1 16 Try.underlying34 hi0 hz0 hz1 hz2 rfl (by decide) (.slice (some ⟨g1, 0, none⟩) (k + 1) c1) (k + 1) (sv (L.take (k + 1))) (by rfl) (hown1.alloc _) ⟨w1.heap.size, 0, none⟩ 1 1 [.string x] (by rfl) (by rfl) (World.news_of_block (cs := #[.string x]) (t := 9) (fr := (0, 0)) (heap_alloc_new w1 _)) (by simp [Value.oneCell']) (by omega) (by unfold maxLen; omega) (by omega) (by simp; omega) (w1.heap.size + 1) (by simp) ?_); intro gg capA w2 hown2 hgrow2 hatg hltg; have hz2' := hgrow2.size; (simp only [World.size_alloc] at hz2'); have hgg : gg = g1 ∨ gg = w1.heap.size + 1 := (by rcases hatg with e | e; exact .inl (by simpa [Value.ownBlock] using e.symm); exact .inr e); have hcC := far_hid (H := g1) (fun j hj => (calloc (by omega)).trans (hcB.out j hj)) hgrow2 (by simp; omega) (by omega)) | (at_builtin; (refine wpList_append_own_at _ rfl _ _ _ rfl B 9 i0 _ 1 16 Try.underlying34 hi0 hz0 hz1 hz2 rfl (by decide) (.slice (some ⟨gg, 0, none⟩) ((k + 1) + 1) capA) ((k + 1) + 1) _ (by rfl) hown2 ⟨g, 0, none⟩ (0) (0) (sv ([])) (by rfl) (by simp [sv] <;> omega) (fun j u hu => by simp [sv] at hu) (sv_one _) (by unfold maxLen; omega) (by omega) (by omega) ?_); intro v3 w3 hown3 hgrow3 hnil3 hat3; obtain ⟨g3, c3, rfl, hg3⟩ := app_form (H := gg) hown3 hnil3 hat3; have hz3' := hgrow3.size))
            have hN : Hid ((lins L x).length = (k + 1) + 1 + (0)) := by show _ = _; rw [hl.out]; simp; omega
            have hvs : Hid (sv (lins L x) = (sv (L.take (k + 1)) ++ [.string x]) ++ sv ([])) := by show _ = _; rw [hl.out]; simp [sv]
            go_ret
            refine ⟨g3, c3, by rw [hN.out]; rfl, by rw [hN.out, hvs.out]; exact hown3, ?_⟩
            have hb1 : Below w.heap.size w w1 := Below.grown ((Below.refl _ w).alloc (Nat.le_refl _) _) hgrow1 (by simp) (fun k hk => by simp [Value.ownBlock] at hk; omega)
            have hb2 : Below w.heap.size w w2 := Below.grown (hb1.alloc (by omega) _) hgrow2 (by simp; omega) (fun k hk => by simp [Value.ownBlock] at hk; omega)
            exact Below.grown hb2 hgrow3 (by omega) (fun k hk => by simp [Value.ownBlock] at hk; omega)
          · have hce' := hce
            have hk5 : (0 : Int) ≤ ((k + 1 : Nat) : Int) := by omega
            have hk6 : ((k + 1 : Nat) : Int) ≤ ((n : Nat) : Int) := by omega
            have hk7 : ((k + 1 : Nat) : Int) ≤ ((cap : Nat) : Int) := by omega
            have hown0 : (w.alloc (.cells #[] 9)).ownsRow B 9 1 (.slice (some ⟨w.heap.size, 0, none⟩) 0 0) 0 [] := World.ownsRow_lit (base := B) (e := 9) (size := 1) w #[] 0 hB (by decide) rfl
            have hcA : Hid (∀ j, j < n → (w.alloc (.cells #[] 9)).cell? ⟨g, j, none⟩ = some (.string (L.getD j ByteArray.empty))) := fun j hj => (calloc hgl).trans (hcell.out j hj)
            go_wp2_with (first | (at_builtin; (refine wpList_append_own_at _ rfl _ _ _ rfl B 9 i0 _ 1 16 Try.underlying34 hi0 hz0 hz1 hz2 rfl (by decide) (.slice (some ⟨w.heap.size, 0, none⟩) 0 0) 0 [] (by rfl) hown0 ⟨g, 0, none⟩ (k + 1) (cap) (sv (L.take (k + 1))) (by rfl) (by simp [sv] <;> omega) (news_take hcA.out hlen (by omega)) (sv_one _) (by unfold maxLen; omega) (by omega) (by simp; omega) ?_); intro v1 w1 hown1 hgrow1 hnil1 hat1; go_loud (obtain ⟨g1, c1, rfl, hg1⟩ := app_form (H := w.heap.size) hown1 hnil1 hat1); rw [Nat.zero_add, List.nil_append] at hown1; have hz1' := hgrow1.size; go_loud (simp only [World.size_alloc] at hz1' hg1); go_loud (have hcB := far_hid (H := w.heap.size) hcA hgrow1 (by simp; omega) (by omega))) | (at_builtin; (refine wpList_append_lies _ rfl _ _ _ rfl B 9 i0 _ 1 16 Try.underlying34 hi0 hz0 hz1 hz2 rfl (by decide) (.slice (some ⟨g1, 0, none⟩) (k + 1) c1) (k + 1) (sv (L.take (k + 1))) (by rfl) (hown1.alloc _) ⟨w1.heap.size, 0, none⟩ 1 1 [.string x] (by rfl) (by rfl) (World.news_of_block (cs := #[.string x]) (t := 9) (fr := (0, 0)) (heap_alloc_new w1 _)) (by simp [Value.oneCell']) (by omega) (by unfold maxLen; omega) (by omega) (by simp; omega) (w1.heap.size + 1) (by simp) ?_); intro gg capA w2 hown2 hgrow2 hatg hltg; have hz2' := hgrow2.size; (simp only [World.size_alloc] at hz2'); have hgg : gg = g1 ∨ gg = w1.heap.size + 1 := (by rcases hatg with e | e; exact .inl (by simpa [Value.ownBlock] using e.symm); exact .inr e); have hcC := far_hid (H := g1) (fun j hj => (calloc (by omega)).trans (hcB.out j hj)) hgrow2 (by simp; omega) (by omega)) | (at_builtin; (refine wpList_append_own_at _ rfl _ _ _ rfl B 9 i0 _ 1 16 Try.underlying34 hi0 hz0 hz1 hz2 rfl (by decide) (.slice (some ⟨gg, 0, none⟩) ((k + 1) + 1) capA) ((k + 1) + 1) _ (by rfl) hown2 ⟨g, k + 1, none⟩ (n - (k + 1)) (cap - (k + 1)) (sv (L.drop (k + 1))) (by rfl) (by simp [sv] <;> omega) (news_drop hcC.out hlen (by omega)) (sv_one _) (by unfold maxLen; omega) (by omega) (by omega) ?_); intro v3 w3 hown3 hgrow3 hnil3 hat3; obtain ⟨g3, c3, rfl, hg3⟩ := app_form (H := gg) hown3 hnil3 hat3; have hz3' := hgrow3.size))
            have hN : Hid ((lins L x).length = (k + 1) + 1 + (n - (k + 1))) := by show _ = _; rw [hl.out]; simp; omega
            have hvs : Hid (sv (lins L x) = (sv (L.take (k + 1)) ++ [.string x]) ++ sv (L.drop (k + 1))) := by show _ = _; rw [hl.out]; simp [sv]
            go_ret
            refine ⟨g3, c3, by rw [hN.out]; rfl, by rw [hN.out, hvs.out]; exact hown3, ?_⟩
            have hb1 : Below w.heap.size w w1 := Below.grown ((Below.refl _ w).alloc (Nat.le_refl _) _) hgrow1 (by simp) (fun k hk => by simp [Value.ownBlock] at hk; omega)
            have hb2 : Below w.heap.size w w2 := Below.grown (hb1.alloc (by omega) _) hgrow2 (by simp; omega) (fun k hk => by simp [Value.ownBlock] at hk; omega)
            exact Below.grown hb2 hgrow3 (by omega) (fun k hk => by simp [Value.ownBlock] at hk; omega)
        · have hl : Hid (lins L x = L) := by show _ = _; rw [lins, if_pos]; simp only [hasAt, hkv.out, Nat.add_sub_cancel, hz'.out, he, Bool.and_true, decide_eq_true_eq]; omega
          rw [e1]
          go_wp2_with fail
          go_ret
          exact ⟨g, cap, by rw [hl.out, hlen]; rfl, by rw [hl.out, hlen]; exact hown, Below.refl _ _⟩
theorem l05Insert_any (B g n cap : Nat) (L : List ByteArray) (x : ByteArray) (w : World) (hB : B ≤ w.heap.size) (hn : n ≤ 100000) (hown : w.ownsRow B 9 1 (.slice (some ⟨g, 0, none⟩) n cap) n (sv L)) :
    Calls Try.prog 65 #[.slice (some ⟨g, 0, none⟩) n cap, .string x] w fun e w' => ∃ g' c, e = .returned (.slice (some ⟨g', 0, none⟩) (lins L x).length c) ∧ w'.ownsRow B 9 1 (.slice (some ⟨g', 0, none⟩) (lins L x).length c) (lins L x).length (sv (lins L x)) ∧ Below B w w' :=
  (l05Insert_low B g n cap L x w hB hn hown).mono fun e w' ⟨g', c, h1, h2, h3⟩ => ⟨g', c, h1, h2, h3.mono hB⟩
end Go.Proofs.Ytfbcbfimhgaicaa
