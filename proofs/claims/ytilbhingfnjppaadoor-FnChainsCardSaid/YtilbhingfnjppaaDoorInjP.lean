/- Injective substitutions: the plain law. -/
import Derived.Test.YtilbhingfnjppaaDoorWds
import Derived.Test.YtilbhingfnjppaaDoorApl
set_option linter.unusedSimpArgs false
set_option linter.unusedVariables false
namespace Go.Proofs.YtilbhingfnjppaaDoor
open Go.RowKit
def img (zs : List ByteArray) (z : ByteArray) : ByteArray := cc z zs z.size
def imgs (zs L : List ByteArray) : List ByteArray := L.map (img zs)
theorem wds_up (p : Nat) : ∀ n i, i ≤ n → ∃ R, wds p n = wds p i ++ R
  | 0, i, h => by obtain rfl : i = 0 := by omega
                  exact ⟨[], by simp⟩
  | n + 1, i, h => by
    by_cases e : i = n + 1
    · subst e; exact ⟨[], by simp⟩
    · obtain ⟨R, hR⟩ := wds_up p n i (by omega)
      exact ⟨R ++ lev p (n + 1), by rw [wds, hR, List.append_assoc]⟩
theorem ext1_up (x : ByteArray) : ∀ p j, j ≤ p → ∃ R, ext1 p x = ext1 j x ++ R
  | 0, j, h => by obtain rfl : j = 0 := by omega
                  exact ⟨[], by simp⟩
  | p + 1, j, h => by
    by_cases e : j = p + 1
    · subst e; exact ⟨[], by simp⟩
    · obtain ⟨R, hR⟩ := ext1_up x p j (by omega)
      exact ⟨R ++ [x ++ letS p], by rw [ext1_next 0, hR, List.append_assoc]⟩
theorem wds_pre {p n i a j : Nat} (hi : i < n) (ha : a < (lev p i).length) (hj : j < p) : ∃ R, wds p n = (wds p i ++ extL p ((lev p i).take a) ++ ext1 j ((lev p i).getD a ByteArray.empty) ++ [(lev p i).getD a ByteArray.empty ++ letS j]) ++ R := by
  obtain ⟨R0, h0⟩ := wds_up p n (i + 1) (by omega)
  obtain ⟨x, hx⟩ : ∃ x, (lev p i).getD a ByteArray.empty = x := ⟨_, rfl⟩
  rw [hx]
  obtain ⟨R1, h1⟩ := ext1_up x p (j + 1) (by omega)
  have hsplit : extL p (lev p i) = extL p ((lev p i).take a) ++ ext1 p x ++ extL p ((lev p i).drop (a + 1)) := by
    have hn := extL_next p a (lev p i) ha
    rw [hx] at hn
    rw [← hn]
    unfold extL
    rw [← List.flatMap_append, List.take_append_drop]
  refine ⟨R1 ++ extL p ((lev p i).drop (a + 1)) ++ R0, ?_⟩
  rw [h0, wds, lev, hsplit, h1, ext1_next 0]
  simp [List.append_assoc]
theorem bt_left (x y : ByteArray) (j : Nat) (h : j < x.size) : bt (x ++ y) j = bt x j := by
  unfold bt
  rw [dif_pos (by rw [ByteArray.size_append]; omega), dif_pos h]
  congr 2
  rw [ByteArray.getElem_eq_getElem_data, ByteArray.getElem_eq_getElem_data]
  simp only [ByteArray.data_append]
  rw [Array.getElem_append_left (by exact h)]
theorem bt_right (x y : ByteArray) (h : 0 < y.size) : bt (x ++ y) x.size = bt y 0 := by
  unfold bt
  rw [dif_pos (by rw [ByteArray.size_append]; omega), dif_pos h]
  congr 2
  rw [ByteArray.getElem_eq_getElem_data, ByteArray.getElem_eq_getElem_data]
  simp only [ByteArray.data_append]
  rw [Array.getElem_append_right (by exact Nat.le_refl _)]
  congr 1
  exact Nat.sub_self _
theorem letS_facts : ∀ j : Fin 4, (letS j.val).size = 1 ∧ bt (letS j.val) 0 = 97 + (j.val : Int) := by decide +kernel
theorem short_add {p j : Nat} {x : ByteArray} (hx : shortP p x) (hs : x.size ≤ 100) (hj : j < p) (hp : p ≤ 4) : shortP p (x ++ letS j) := by
  obtain ⟨h1, h2⟩ := letS_facts ⟨j, by omega⟩
  simp only at h1 h2
  refine ⟨by rw [ByteArray.size_append, h1]; omega, fun k hk => ?_⟩
  rw [ByteArray.size_append, h1] at hk
  by_cases e : k < x.size
  · have := hx.2 k e
    unfold inL lt at *
    rw [bt_left x _ k e]; exact this
  · obtain rfl : k = x.size := by omega
    unfold inL lt
    rw [bt_right x _ (by omega), h2]
    omega
theorem lev_short {p : Nat} (hp : p ≤ 4) : ∀ i, i ≤ 4 → ∀ z ∈ lev p i, shortP p z
  | 0, _, z, h => by simp [lev] at h; subst h; exact ⟨Nat.zero_le _, fun j hj => absurd hj (by show ¬ j < 0; omega)⟩
  | i + 1, hi, z, h => by
    unfold lev extL at h
    obtain ⟨x, hx, hz⟩ := List.mem_flatMap.1 h
    obtain ⟨j, hj, rfl⟩ := List.mem_map.1 hz
    rw [List.mem_range] at hj
    exact short_add (lev_short hp i (by omega) x hx) (by have := lev_size p i x hx; omega) hj hp
theorem wds_short {p : Nat} (hp : p ≤ 4) : ∀ i, i ≤ 4 → ∀ z ∈ wds p i, shortP p z
  | 0, _, z, h => lev_short hp 0 (by omega) z h
  | i + 1, hi, z, h => by
    rw [wds, List.mem_append] at h
    rcases h with h | h
    · exact wds_short hp i (by omega) z h
    · exact lev_short hp (i + 1) hi z h
theorem img_size {zs : List ByteArray} (h : small8 zs) (z : ByteArray) : (img zs z).size ≤ 8 * z.size := cc_size8 h z.size
theorem imgs_snoc (zs L : List ByteArray) (z : ByteArray) : imgs zs (L ++ [z]) = imgs zs L ++ [img zs z] := by simp [imgs]
theorem nodup_snoc {L : List ByteArray} {z : ByteArray} (h : L.Nodup) (hz : z ∉ L) : (L ++ [z]).Nodup := by
  rw [List.nodup_append]
  refine ⟨h, by simp, fun a ha b hb => ?_⟩
  rw [List.mem_singleton] at hb
  subst hb
  intro e; subst e; exact hz ha
theorem not_nodup {L R : List ByteArray} {z : ByteArray} (hz : z ∈ L) : ¬ ((L ++ [z]) ++ R).Nodup := by
  intro h
  have := (List.nodup_append.1 h).1
  rw [List.nodup_append] at this
  exact this.2.2 z hz z (by simp) rfl
/-- Whether the images of all words of at most n letters differ. -/
def injP (zs : List ByteArray) (n : Nat) : Prop := (imgs zs (wds zs.length n)).Nodup
end Go.Proofs.YtilbhingfnjppaaDoor
