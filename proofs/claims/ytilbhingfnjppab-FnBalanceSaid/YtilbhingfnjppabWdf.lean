/- All words of two letters, up to five: the walk. -/
import Derived.Test.YtilbhingfnjppabMDrb
set_option linter.unusedSimpArgs false
set_option linter.unusedVariables false
namespace Go.Proofs.Ytilbhingfnjppab
open Go.RowKit
set_option maxRecDepth 20000 in
set_option maxHeartbeats 4000000 in
theorem l17Words5_any (k n : Nat) (w : World) (h1 : 1 ≤ k) (hk4 : k ≤ 4) (hn4 : n ≤ 5) :
    Calls Try.prog 92 #[.int .i64 k, .int .i64 n] w fun e w' => ∃ g c, e = .returned (.slice (some ⟨g, 0, none⟩) (wds k n).length c) ∧ w'.ownsRow w.heap.size 9 1 (.slice (some ⟨g, 0, none⟩) (wds k n).length c) (wds k n).length (sv (wds k n)) ∧ Below w.heap.size w w' := by
  obtain ⟨i0, hi0, hz0, hz1, hz2⟩ := info_parts infoS
  have hk' : (k : Int) ≤ 4 := by omega
  have hn' : (n : Int) ≤ 5 := by omega
  have hown0 := World.ownsRow_lit (base := w.heap.size) (e := 9) (size := 1) w #[.string ⟨#[]⟩] 1 (Nat.le_refl _) (by decide) rfl
  go_enter Try.func92, Try.ntmps92
  go_wp2_with fail
  go_loopw [5, 6, 7] (fun out fr iv wr => ∃ i g c N f : Nat, i ≤ n ∧ iv = .int .i64 i ∧ fr = .int .i64 f ∧ out = .slice (some ⟨g, 0, none⟩) N c ∧ (wds k i).length = N ∧ f + k ^ i = N ∧ wr.ownsRow w.heap.size 9 1 (.slice (some ⟨g, 0, none⟩) N c) N (sv (wds k i)) ∧ Below w.heap.size w wr) (fun _ _ iv _ => n - (intOf iv).toNat)
  case atStart => exact ⟨0, w.heap.size, 1, 1, 0, by omega, rfl, rfl, rfl, rfl, rfl, hown0, (Below.refl _ w).alloc (Nat.le_refl _) _⟩
  case round =>
    clear hown0
    obtain ⟨i, g, c, N, f, hin, rfl, rfl, rfl, hN, hf, hown, hbel⟩ := hrel
    have hz := hbel.size
    have hi0' : (0 : Int) ≤ (i : Int) := by omega
    by_cases hlt : i < n
    · have hi1 : (i : Int) < (n : Int) := by omega
      obtain ⟨p1, p2⟩ := pow_bounds h1 hk4 (show i ≤ 4 by omega)
      have hNb := wds_len h1 hk4 i (by omega)
      have hcap : N ≤ c ∧ c ≤ maxLen := by
        rcases hown.2 with ⟨h', _⟩ | ⟨_, _, _, h', _, _, hc, hm, _⟩
        · cases h'
        · cases h'; exact ⟨hc, hm⟩
      unfold maxLen at hcap
      obtain ⟨c1, c2⟩ := hcap
      obtain ⟨Pr, hPr⟩ := wds_end k i
      have hll := lev_len k i
      have hPl : Pr.length = f := by have := congrArg List.length hPr; rw [List.length_append, hll, hN] at this; omega
      have hgl := (hown.lt g rfl).2
      obtain ⟨l, hl⟩ : ∃ l, k ^ i = l := ⟨_, rfl⟩
      rw [hl] at hf p1 p2 hll
      have hcapt : Hid (∀ j, j < l → wr.cell? ⟨g, f + j, none⟩ = some (.string ((lev k i).getD j ByteArray.empty))) := fun j hj => by
        rw [own_cell hown (f + j) (by omega), sv_at _ _ (by omega), hPr, List.getD_eq_getElem?_getD, List.getElem?_append_right (by omega), hPl, show f + j - f = j by omega]
        rfl
      have f1 : (0 : Int) ≤ (f : Int) := by omega
      have f2 : (f : Int) ≤ (N : Int) := by omega
      have f3 : (N : Int) ≤ (c : Int) := by omega
      have f4 : ¬ c = f := by omega
      have hext : Hid (extL k ((lev k i).take l) = lev k (i + 1)) := by show _ = _; rw [List.take_of_length_le (by omega)]; rfl
      have hNf : N - f = l := by omega
      have hN1k : N ≤ 1100 := by omega
      have hsz := lev_size k i
      have hdat : Hid ((∀ z ∈ lev k i, z.size ≤ i) ∧ (lev k i).length = l ∧ (wds k i).length = N ∧ wds k (i + 1) = wds k i ++ lev k (i + 1) ∧ (wds k (i + 1)).length = N + k ^ (i + 1)) := ⟨hsz, hll, hN, rfl, by rw [wds, List.length_append, lev_len, hN]⟩
      clear hPr hPl hll hl hsz hN
      go_wp2_with fail
      go_loopw [5, 25] (fun out iq wr => ∃ q g2 c2 N2 : Nat, q ≤ l ∧ iq = .int .i64 q ∧ out = .slice (some ⟨g2, 0, none⟩) N2 c2 ∧ (wds k i ++ extL k ((lev k i).take q)).length = N2 ∧ N2 ≤ N + 4 * q ∧ N ≤ N2 ∧ wr.ownsRow w.heap.size 9 1 (.slice (some ⟨g2, 0, none⟩) N2 c2) N2 (sv (wds k i ++ extL k ((lev k i).take q))) ∧ Hid (∀ j, j < l → wr.cell? ⟨g, f + j, none⟩ = some (.string ((lev k i).getD j ByteArray.empty))) ∧ g < wr.heap.size ∧ Below w.heap.size w wr) (fun _ iq _ => l - (intOf iq).toNat)
      case atStart => exact ⟨0, g, c, N, by omega, rfl, rfl, by simp [extL]; exact hdat.out.2.2.1, by omega, Nat.le_refl _, by simpa [extL] using hown, hcapt, hgl, hbel⟩
      case round =>
        clear hown hcapt
        obtain ⟨q, g2, c2, N2, hql, rfl, rfl, hlen2, hN2, hN2', hown, hcapt, hgl2, hbel2⟩ := hrel
        have hz2' := hbel2.size
        have hq0 : (0 : Int) ≤ (q : Int) := by omega
        by_cases hlt2 : q < l
        · have hq1 : (q : Int) < (l : Int) := by omega
          have hck := hcapt.out q hlt2
          have hnext := Lib.hid (extL_next k q (lev k i) (by have := hdat.out.2.1; omega))
          have hxs : ((lev k i).getD q ByteArray.empty).size ≤ 4 := by
            have h5 : (lev k i).getD q ByteArray.empty ∈ lev k i := by
              have := hdat.out.2.1
              rw [List.getD_eq_getElem?_getD, List.getElem?_eq_getElem (by omega)]; exact List.getElem_mem _
            have := hdat.out.1 _ h5
            omega
          obtain ⟨M, hM⟩ : ∃ M, wds k i ++ extL k ((lev k i).take q) = M := ⟨_, rfl⟩
          obtain ⟨x, hx⟩ : ∃ x, (lev k i).getD q ByteArray.empty = x := ⟨_, rfl⟩
          rw [hM] at hown hlen2
          rw [hx] at hck hxs
          have hM' := Lib.hid hM
          have hx' := Lib.hid hx
          clear hM hx
          go_wp2_with fail
          go_loopw [5, 11] (fun out jv wr => ∃ j g3 c3 : Nat, j ≤ k ∧ jv = .int .i64 j ∧ out = .slice (some ⟨g3, 0, none⟩) (N2 + j) c3 ∧ wr.ownsRow w.heap.size 9 1 (.slice (some ⟨g3, 0, none⟩) (N2 + j) c3) (N2 + j) (sv (M ++ ext1 j x)) ∧ Hid (∀ j, j < l → wr.cell? ⟨g, f + j, none⟩ = some (.string ((lev k i).getD j ByteArray.empty))) ∧ g < wr.heap.size ∧ Below w.heap.size w wr) (fun _ jv _ => k - (intOf jv).toNat)
          case atStart => exact ⟨0, g2, c2, by omega, rfl, rfl, by simpa [ext1] using hown, hcapt, hgl2, hbel2⟩
          case round =>
            clear hown hcapt hck hbel2 hz2'
            obtain ⟨j, g3, c3, hjk, rfl, rfl, hown, hcapt, hgl3, hbel2⟩ := hrel
            have hz3' := hbel2.size
            have hj0 : (0 : Int) ≤ (j : Int) := by omega
            by_cases hlt3 : j < k
            · have hj1 : (j : Int) < (k : Int) := by omega
              have hj2 : (j : Int) + 1 ≤ 4 := by omega
              have hj3 : (j : Int) ≤ (j : Int) + 1 := by omega
              have hnx := Lib.hid (ext1_next k j x)
              have hls : ((⟨#[97, 98, 99, 100]⟩ : ByteArray).extract j (j + 1)).size ≤ 1 := by rw [ByteArray.size_extract]; omega
              have hrun := fun w => run_string_add_sum (P := Try.prog) w x ((⟨#[97, 98, 99, 100]⟩ : ByteArray).extract j (j + 1)) (by omega)
              have hcapt0 := cap_alloc (o := .cells #[.string (x ++ (⟨#[97, 98, 99, 100]⟩ : ByteArray).extract j (j + 1))] 9) hcapt hgl3
              clear hls hxs
              go_wp2_with (at_builtin; refine wpList_append_keep _ rfl _ _ _ rfl w.heap.size 9 i0 _ 16 Try.underlying23 hi0 hz0 hz1 hz2 rfl (g3) (N2 + j) (c3) (sv (M ++ ext1 j x)) (by rfl) (hown.alloc _) ⟨(wr).heap.size, 0, none⟩ 1 1 [.string (x ++ (⟨#[97, 98, 99, 100]⟩ : ByteArray).extract j (j + 1))] (by rfl) (by rfl) (World.news_of_block (cs := #[.string (x ++ (⟨#[97, 98, 99, 100]⟩ : ByteArray).extract j (j + 1))]) (t := 9) (fr := (0, 0)) (heap_alloc_new (wr) _)) (by simp [Value.oneCell']) (by unfold maxLen; omega) (by omega) (by simp; omega) ((wr).heap.size + 1) (by simp) ?_; intro gg capA w1 hown1 hgrow hatg hkeep)
              go_roundw
              case rel => exact ⟨j + 1, gg, _, by omega, by go_num, rfl, by rw [hnx.out, ← List.append_assoc, sv_snoc]; exact hown1, cap_keep hcapt0 (by omega) hgrow hkeep (by simp; omega), by have := size_app hgrow; omega, below_app hbel2 (by omega) hown hgrow⟩
              case measure => (simp [intOf]) <;> omega
            · obtain rfl : k = j := by omega
              have hj4 : ¬ (k : Int) < (k : Int) := by omega
              have hMn : Hid (wds k i ++ extL k ((lev k i).take (q + 1)) = M ++ ext1 k x) := by show _ = _; rw [hnext.out, hx'.out, ← hM'.out, List.append_assoc]
              go_wp2
              go_roundw
              case rel => exact ⟨q + 1, g3, c3, N2 + k, by omega, by go_num, rfl, by rw [hMn.out, List.length_append, ext1_len, hlen2], by omega, by omega, by rw [hMn.out]; exact hown, hcapt, hgl3, hbel2⟩
              case measure => (simp [intOf]) <;> omega
        · obtain rfl : l = q := by omega
          have hq4 : ¬ (l : Int) < (l : Int) := by omega
          rw [hext.out] at hown hlen2
          have hd := hdat.out
          go_wp2
          go_roundw
          case rel => exact ⟨i + 1, g2, c2, N2, N, by omega, by go_num, rfl, rfl, hd.2.2.2.1 ▸ hlen2, by rw [← hlen2, List.length_append, hd.2.2.1, lev_len], by rw [hd.2.2.2.1]; exact hown, hbel2⟩
          case measure => (simp [intOf]) <;> omega
    · obtain rfl : n = i := by omega
      have hx : ¬ (n : Int) < (n : Int) := by omega
      go_wp2
      go_ret
      exact ⟨g, c, by first | rfl | (rw [hN]; rfl), by first | exact hown | (rw [hN]; exact hown), hbel⟩
set_option maxRecDepth 20000 in
set_option maxHeartbeats 1000000 in
theorem MakeAll_any (n : Nat) (w : World) (hn : n ≤ 5) :
    Calls Try.prog 55 #[.int .i64 2, .int .i64 n] w fun e w' => ∃ g c, e = .returned (.slice (some ⟨g, 0, none⟩) (wds 2 n).length c) ∧ w'.ownsRow w.heap.size 9 1 (.slice (some ⟨g, 0, none⟩) (wds 2 n).length c) (wds 2 n).length (sv (wds 2 n)) ∧ Below w.heap.size w w' := by
  have c1 := l17Words5_any 2 n w (by omega) (by omega) hn
  go_enter Try.func55, Try.ntmps55
  go_wp2_with fail
  refine c1.mono ?_
  rintro e w1 ⟨g, c, rfl, hown, hb1⟩
  go_wp2_with fail
  go_ret
  exact ⟨g, c, rfl, hown, hb1⟩
end Go.Proofs.Ytilbhingfnjppab
