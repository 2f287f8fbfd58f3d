/- Several texts in one, in their order: Ins InsW FacP WordsB. -/
import Derived.Test.YtilbhingfnjppabBytes
import Derived.Sort.Walk0
import Derived.Test.YtilbhingfnjppabMFra
import Derived.Maps.AppendAt
import Derived.Laws.Cover1
import Derived.Lib.SlicesCompact
import Derived.Test.YtilbhingfnjppabWordsA
import Derived.Deep.RegionLaw
set_option linter.unusedSimpArgs false
set_option linter.unusedVariables false
namespace Go.Proofs.Ytilbhingfnjppab
open Go.RowKit
/-- The order of strings, byte by byte. -/
def sl (a b : ByteArray) : Prop := a.toList < b.toList
theorem sl_irr (a : ByteArray) : ¬ sl a a := List.lt_irrefl a.toList
theorem sl_tr {a b c : ByteArray} (h1 : sl a b) (h2 : sl b c) : sl a c := List.lt_trans h1 h2
theorem same_of {a b : ByteArray} (h : a.toList = b.toList) : a = b := by
  rw [ByteArray.toList_eq, ByteArray.toList_eq] at h
  cases a; cases b; simp at h; rw [h]
theorem sl_tri (a b : ByteArray) : sl a b ∨ a = b ∨ sl b a := by
  rcases Classical.em (a.toList < b.toList) with h | h
  · exact .inl h
  · rcases Classical.em (b.toList < a.toList) with h' | h'
    · exact .inr (.inr h')
    · exact .inr (.inl (same_of (List.le_antisymm (List.not_lt.1 h') (List.not_lt.1 h))))
/-- z > x, as a walk spells it. -/
def gtB (z x : ByteArray) : Bool := !(Op.bytesLess z.toList x.toList || z.toList == x.toList)
theorem gtB_iff (z x : ByteArray) : gtB z x = true ↔ sl x z := by
  unfold gtB
  rw [bytesLess_eq]
  simp only [Bool.not_eq_true', Bool.or_eq_false_iff, decide_eq_false_iff_not, beq_eq_false_iff_ne]
  constructor
  · rintro ⟨h1, h2⟩
    rcases sl_tri x z with h | h | h
    · exact h
    · exact absurd (by rw [h]) h2
    · exact absurd h h1
  · intro h
    exact ⟨fun q => sl_irr _ (sl_tr h q), fun q => by have := same_of q; subst this; exact sl_irr _ h⟩
/-- Behind how many of the first k the string belongs. -/
def kkf (L : List ByteArray) (x : ByteArray) : Nat → Nat
  | 0 => 0
  | k + 1 => if gtB (L.getD k ByteArray.empty) x then kkf L x k else k + 1
theorem kkf_le (L : List ByteArray) (x : ByteArray) : ∀ n, kkf L x n ≤ n
  | 0 => Nat.le_refl _
  | n + 1 => by
    have := kkf_le L x n
    unfold kkf; split <;> omega
theorem kkf_above (L : List ByteArray) (x : ByteArray) : ∀ n j, kkf L x n ≤ j → j < n → gtB (L.getD j ByteArray.empty) x = true
  | 0, j, _, h => absurd h (by omega)
  | n + 1, j, h1, h2 => by
    by_cases hg : gtB (L.getD n ByteArray.empty) x = true
    · rw [kkf, if_pos hg] at h1
      by_cases e : j = n
      · subst e; exact hg
      · exact kkf_above L x n j h1 (by omega)
    · rw [kkf, if_neg hg] at h1; omega
theorem kkf_at (L : List ByteArray) (x : ByteArray) : ∀ n, 0 < kkf L x n → gtB (L.getD (kkf L x n - 1) ByteArray.empty) x = false
  | 0, h => absurd h (by simp [kkf])
  | n + 1, h => by
    by_cases hg : gtB (L.getD n ByteArray.empty) x = true
    · rw [kkf, if_pos hg] at h ⊢
      exact kkf_at L x n h
    · rw [kkf, if_neg hg]; simpa using hg
def hasAt (L : List ByteArray) (x : ByteArray) : Bool := decide (0 < kkf L x L.length) && ((L.getD (kkf L x L.length - 1) ByteArray.empty).toList == x.toList)
def lins (L : List ByteArray) (x : ByteArray) : List ByteArray := if hasAt L x then L else (L.take (kkf L x L.length) ++ [x]) ++ L.drop (kkf L x L.length)
def asc (L : List ByteArray) : Prop := L.Pairwise sl
theorem mem_getD {L : List ByteArray} {z : ByteArray} (h : z ∈ L) : ∃ j, j < L.length ∧ L.getD j ByteArray.empty = z := by
  obtain ⟨j, hj, e⟩ := List.getElem_of_mem h
  exact ⟨j, hj, by simp [List.getD_eq_getElem?_getD, hj, e]⟩
theorem asc_at {L : List ByteArray} (h : asc L) {i j : Nat} (hij : i < j) (hj : j < L.length) : sl (L.getD i ByteArray.empty) (L.getD j ByteArray.empty) := by
  have := List.pairwise_iff_getElem.1 h i j (by omega) hj hij
  simpa [List.getD_eq_getElem?_getD, hj, show i < L.length by omega] using this
theorem lins_asc {L : List ByteArray} (h : asc L) (x : ByteArray) : asc (lins L x) ∧ ∀ z, z ∈ lins L x ↔ z = x ∨ z ∈ L := by
  unfold lins
  by_cases hh : hasAt L x = true
  · rw [if_pos hh]
    refine ⟨h, fun z => ⟨fun q => .inr q, fun q => ?_⟩⟩
    rcases q with rfl | q
    · simp only [hasAt, Bool.and_eq_true, decide_eq_true_eq, beq_iff_eq] at hh
      have hk := kkf_le L z L.length
      have := same_of hh.2
      rw [← this]
      rw [List.getD_eq_getElem?_getD, List.getElem?_eq_getElem (by omega)]
      exact List.getElem_mem _
    · exact q
  · rw [if_neg hh]
    have hk := kkf_le L x L.length
    have hab := kkf_above L x L.length
    have hat := kkf_at L x L.length
    obtain ⟨k, hkk⟩ : ∃ k, kkf L x L.length = k := ⟨_, rfl⟩
    simp only [hasAt, hkk, Bool.and_eq_true, decide_eq_true_eq, beq_iff_eq, not_and] at hh
    rw [hkk] at hk hab hat ⊢
    have hlow : ∀ j, j < k → sl (L.getD j ByteArray.empty) x := by
      intro j hj
      have h1 : sl (L.getD (k - 1) ByteArray.empty) x := by
        have h2 := hat (by omega)
        rcases sl_tri (L.getD (k - 1) ByteArray.empty) x with q | q | q
        · exact q
        · exact absurd (by rw [q]) (hh (by omega))
        · rw [(gtB_iff _ _).2 q] at h2; cases h2
      by_cases e : j = k - 1
      · subst e; exact h1
      · exact sl_tr (asc_at h (show j < k - 1 by omega) (by omega)) h1
    have hup : ∀ j, k ≤ j → j < L.length → sl x (L.getD j ByteArray.empty) := fun j h1 h2 => (gtB_iff _ _).1 (hab j h1 h2)
    have hmt : ∀ z ∈ L.take k, sl z x := by
      intro z hz
      obtain ⟨j, hj, e⟩ := List.getElem_of_mem hz
      have hjk : j < k := by simp at hj; omega
      have := hlow j hjk
      rw [List.getElem_take] at e
      rw [show L.getD j ByteArray.empty = z by simp [List.getD_eq_getElem?_getD, show j < L.length by omega, e]] at this
      exact this
    have hmd : ∀ z ∈ L.drop k, sl x z := by
      intro z hz
      obtain ⟨j, hj, e⟩ := List.getElem_of_mem hz
      simp at hj
      have := hup (k + j) (by omega) (by omega)
      rw [List.getElem_drop] at e
      rw [show L.getD (k + j) ByteArray.empty = z by simp [List.getD_eq_getElem?_getD, show k + j < L.length by omega, e]] at this
      exact this
    refine ⟨?_, fun z => ?_⟩
    · unfold asc
      rw [List.pairwise_append, List.pairwise_append]
      refine ⟨⟨List.Pairwise.sublist (List.take_sublist _ _) h, by simp, fun a ha b hb => by simp at hb; subst hb; exact hmt a ha⟩, List.Pairwise.sublist (List.drop_sublist _ _) h, fun a ha b hb => ?_⟩
      rw [List.mem_append] at ha
      rcases ha with ha | ha
      · exact sl_tr (hmt a ha) (hmd b hb)
      · simp at ha; subst ha; exact hmd b hb
    · rw [List.mem_append, List.mem_append]
      have : z ∈ L ↔ z ∈ L.take k ∨ z ∈ L.drop k := by
        conv => lhs; rw [← List.take_append_drop k L]
        rw [List.mem_append]
      rw [this, List.mem_singleton]
      constructor
      · rintro ((h | h) | h)
        · exact .inr (.inl h)
        · exact .inl h
        · exact .inr (.inr h)
      · rintro (h | h | h)
        · exact .inl (.inr h)
        · exact .inl (.inl h)
        · exact .inr h
/-- Two ascending lists of the same members are one. -/
theorem asc_eq : ∀ {L M : List ByteArray}, asc L → asc M → (∀ z, z ∈ L ↔ z ∈ M) → L = M
  | [], [], _, _, _ => rfl
  | [], b :: M, _, _, h => by have := (h b).2 (by simp); simp at this
  | a :: L, [], _, _, h => by have := (h a).1 (by simp); simp at this
  | a :: L, b :: M, hL, hM, h => by
    have hL' := List.pairwise_cons.1 hL
    have hM' := List.pairwise_cons.1 hM
    have hab : a = b := by
      have h1 := (h a).1 (by simp)
      have h2 := (h b).2 (by simp)
      simp only [List.mem_cons] at h1 h2
      rcases h1 with h1 | h1
      · exact h1
      · rcases h2 with h2 | h2
        · exact h2.symm
        · exact absurd (sl_tr (hM'.1 a h1) (hL'.1 b h2)) (sl_irr _)
    subst hab
    congr 1
    refine asc_eq hL'.2 hM'.2 (fun z => ?_)
    have hz := h z
    simp only [List.mem_cons] at hz
    constructor
    · intro q
      rcases hz.1 (.inr q) with e | e
      · subst e; exact absurd (hL'.1 z q) (sl_irr _)
      · exact e
    · intro q
      rcases hz.2 (.inr q) with e | e
      · subst e; exact absurd (hM'.1 z q) (sl_irr _)
      · exact e
theorem lins_len (L : List ByteArray) (x : ByteArray) : (lins L x).length = if hasAt L x then L.length else L.length + 1 := by
  unfold lins
  have := kkf_le L x L.length
  split
  · rfl
  · simp; omega
end Go.Proofs.Ytilbhingfnjppab

namespace Go.Proofs.Ytilbhingfnjppab
open Go.RowKit
theorem gtr_B (t : TypeId) (a b : ByteArray) : binOp .gtr t (.string a) (.string b) = pure (.bool (gtB a b)) := by rw [binOp_string_gtr]; rfl
attribute [-go_sem] binOp_string_gtr
attribute [local go_sem] gtr_B
theorem news_take {w : World} {g n K : Nat} {L : List ByteArray} (hc : ∀ j, j < n → w.cell? ⟨g, j, none⟩ = some (.string (L.getD j ByteArray.empty))) (hlen : L.length = n) (hK : K ≤ n) : ∀ j u, (sv (L.take K))[j]? = some u → w.cell? ((⟨g, 0, none⟩ : Addr).add j) = some u := by
  intro j u hu
  have hj : j < K := by
    by_cases h : j < K
    · exact h
    · rw [List.getElem?_eq_none (by simp [sv]; omega)] at hu; cases hu
  rw [sv_at _ _ (by simp; omega), getD_take _ _ _ _ hj] at hu
  rw [Addr.add_lit, Nat.zero_add, hc j (by omega)]; exact hu
theorem news_drop {w : World} {g n K : Nat} {L : List ByteArray} (hc : ∀ j, j < n → w.cell? ⟨g, j, none⟩ = some (.string (L.getD j ByteArray.empty))) (hlen : L.length = n) (hK : K ≤ n) : ∀ j u, (sv (L.drop K))[j]? = some u → w.cell? ((⟨g, K, none⟩ : Addr).add j) = some u := by
  intro j u hu
  have hj : K + j < n := by
    by_cases h : K + j < n
    · exact h
    · rw [List.getElem?_eq_none (by simp [sv]; omega)] at hu; cases hu
  rw [sv_at _ _ (by simp; omega)] at hu
  rw [Addr.add_lit, hc (K + j) hj]
  rw [← hu]; simp [List.getD_eq_getElem?_getD]
theorem sv_one (l : List ByteArray) : ∀ u ∈ sv l, u.oneCell' = true := by intro u hu; obtain ⟨z, _, rfl⟩ := List.mem_map.1 hu; rfl
theorem app_form {w1 : World} {B H W n0 c0 N m : Nat} {e : TypeId} {v' : Value} {xs : List Value} (hown : w1.ownsRow B e 1 v' N xs) (hnil : v' = .slice none 0 0 ↔ (Value.slice (some ⟨H, 0, none⟩) n0 c0) = .slice none 0 0 ∧ m = 0) (hat : v'.ownBlock = some H ∨ v'.ownBlock = some W) : ∃ g1 c1, v' = .slice (some ⟨g1, 0, none⟩) N c1 ∧ (g1 = H ∨ g1 = W) := by
  rcases hown.2 with ⟨h', _⟩ | ⟨g1, c1, _, h', _⟩
  · exact absurd (hnil.1 h').1 (by simp)
  · subst h'
    exact ⟨g1, c1, rfl, by simpa [Value.ownBlock] using hat⟩
theorem far_hid {w w' : World} {g H n : Nat} {L : List ByteArray} (h : Hid (∀ j, j < n → w.cell? ⟨g, j, none⟩ = some (.string (L.getD j ByteArray.empty)))) (hg : w.grownBy w' (some H)) (hl : g < w.heap.size) (hne : g ≠ H) : Hid (∀ j, j < n → w'.cell? ⟨g, j, none⟩ = some (.string (L.getD j ByteArray.empty))) :=
  fun j hj => (hg.cell_far ⟨g, j, none⟩ hl (by simp; omega)).trans (h.out j hj)
end Go.Proofs.Ytilbhingfnjppab

namespace Go.Proofs.Ytilbhingfnjppab
open Go.RowKit
theorem le_tri {a b : List UInt8} (h : a ≤ b) (hne : a ≠ b) : a < b := by
  rcases Classical.em (a < b) with q | q
  · exact q
  · exact absurd (List.le_antisymm h (List.not_lt.1 q)) hne
theorem compact_asc (d : Array (List UInt8)) (N : Nat) (hd : ∀ i j, i < j → j < N → d[i]! ≤ d[j]!) : ∀ m, m ≤ N → (Lib.compactUpTo d m).Pairwise (· < ·) ∧ (∀ z, z ∈ Lib.compactUpTo d m ↔ ∃ j, j < m ∧ d[j]! = z)
  | 0, _ => by simp [Lib.compactUpTo]
  | m + 1, hm => by
    obtain ⟨h1, h2⟩ := compact_asc d N hd m (by omega)
    rw [Lib.compactUpTo_succ]
    by_cases hk : Lib.keeps d m = true
    · rw [if_pos hk]
      refine ⟨?_, fun z => ?_⟩
      · rw [List.pairwise_append]
        refine ⟨h1, by simp, fun a ha b hb => ?_⟩
        rw [List.mem_singleton] at hb
        subst hb
        obtain ⟨j, hj, e⟩ := (h2 a).1 ha
        have hne : d[m]! ≠ d[m - 1]! := by
          simp only [Lib.keeps, decide_eq_true_eq] at hk
          rcases hk with hk | hk
          · omega
          · exact hk
        have h3 : d[m - 1]! < d[m]! := le_tri (hd (m - 1) m (by omega) (by omega)) (Ne.symm hne)
        rw [← e]
        by_cases e2 : j = m - 1
        · subst e2; exact h3
        · exact List.lt_of_le_of_lt (hd j (m - 1) (by omega) (by omega)) h3
      · rw [List.mem_append, h2, List.mem_singleton]
        constructor
        · rintro (⟨j, hj, e⟩ | e)
          · exact ⟨j, by omega, e⟩
          · exact ⟨m, by omega, e.symm⟩
        · rintro ⟨j, hj, e⟩
          by_cases e2 : j = m
          · subst e2; exact .inr e.symm
          · exact .inl ⟨j, by omega, e⟩
    · rw [if_neg hk, List.append_nil]
      refine ⟨h1, fun z => ?_⟩
      rw [h2]
      simp only [Lib.keeps, decide_eq_true_eq, not_or, Classical.not_not] at hk
      constructor
      · rintro ⟨j, hj, e⟩; exact ⟨j, by omega, e⟩
      · rintro ⟨j, hj, e⟩
        by_cases e2 : j = m
        · subst e2; exact ⟨j - 1, by omega, by rw [← hk.2]; exact e⟩
        · exact ⟨j, by omega, e⟩
def bk (l : List UInt8) : ByteArray := ⟨l.toArray⟩
theorem bk_toList (l : List UInt8) : (bk l).toList = l := by rw [ByteArray.toList_eq]; simp [bk]
theorem bk_data (z : ByteArray) : bk z.data.toList = z := by cases z; simp [bk]
/-- Sorted, and each once. -/
def srt (zs : List ByteArray) : List ByteArray := (Lib.compact ((zs.map (fun z => z.data.toList)).mergeSort (fun x y => decide (x ≤ y)))).map bk
theorem srt_asc (zs : List ByteArray) : asc (srt zs) ∧ ∀ z, z ∈ srt zs ↔ z ∈ zs := by
  obtain ⟨S, hS⟩ : ∃ S, (zs.map (fun z => z.data.toList)).mergeSort (fun x y => decide (x ≤ y)) = S := ⟨_, rfl⟩
  have hp : S.Pairwise (fun a b => decide (a ≤ b) = true) := by
    rw [← hS]
    exact List.pairwise_mergeSort (fun a b c h1 h2 => by simp only [decide_eq_true_eq] at *; exact List.le_trans h1 h2) (fun a b => by simp only [Bool.or_eq_true, decide_eq_true_eq]; exact List.le_total a b) _
  have hm : ∀ z, z ∈ S ↔ z ∈ zs.map (fun z => z.data.toList) := fun z => by rw [← hS, List.mem_mergeSort]
  have hd : ∀ i j, i < j → j < S.length → S.toArray[i]! ≤ S.toArray[j]! := by
    intro i j hij hj
    have := List.pairwise_iff_getElem.1 hp i j (by omega) hj hij
    simpa [show i < S.length by omega, hj] using this
  obtain ⟨h1, h2⟩ := compact_asc S.toArray S.length hd S.length (Nat.le_refl _)
  have e : srt zs = (Lib.compactUpTo S.toArray S.length).map bk := by unfold srt; rw [hS]; rfl
  rw [e]
  refine ⟨?_, fun z => ?_⟩
  · unfold asc
    rw [List.pairwise_map]
    refine h1.imp (fun {a b} h => ?_)
    unfold sl; rw [bk_toList, bk_toList]; exact h
  · rw [List.mem_map]
    constructor
    · rintro ⟨a, ha, rfl⟩
      obtain ⟨j, hj, e⟩ := (h2 a).1 ha
      have : a ∈ S := by
        rw [← e]
        simp only [List.getElem!_toArray, List.getElem!_eq_getElem?_getD, List.getElem?_eq_getElem hj, Option.getD_some]
        exact List.getElem_mem _
      obtain ⟨y, hy, rfl⟩ := List.mem_map.1 ((hm a).1 this)
      rw [bk_data]; exact hy
    · intro hz
      have : z.data.toList ∈ S := (hm _).2 (List.mem_map.2 ⟨z, hz, rfl⟩)
      obtain ⟨j, hj, e⟩ := List.getElem_of_mem this
      refine ⟨z.data.toList, (h2 _).2 ⟨j, hj, ?_⟩, bk_data z⟩
      simp only [List.getElem!_toArray, List.getElem!_eq_getElem?_getD, List.getElem?_eq_getElem hj, Option.getD_some]
      exact e
theorem fold_asc : ∀ (zs L : List ByteArray), asc L → asc (zs.foldl lins L) ∧ ∀ z, z ∈ zs.foldl lins L ↔ z ∈ L ∨ z ∈ zs
  | [], L, h => ⟨h, fun z => by simp⟩
  | a :: zs, L, h => by
    obtain ⟨h1, h2⟩ := lins_asc h a
    obtain ⟨h3, h4⟩ := fold_asc zs (lins L a) h1
    refine ⟨h3, fun z => ?_⟩
    rw [List.foldl_cons, h4, h2, List.mem_cons]
    constructor
    · rintro ((h | h) | h)
      · exact .inr (.inl h)
      · exact .inl h
      · exact .inr (.inr h)
    · rintro (h | h | h)
      · exact .inl (.inr h)
      · exact .inl (.inl h)
      · exact .inr h
/-- The two ways of finding the factors agree. -/
theorem srt_fold (zs : List ByteArray) : srt zs = zs.foldl lins [] := by
  obtain ⟨h1, h2⟩ := srt_asc zs
  obtain ⟨h3, h4⟩ := fold_asc zs [] List.Pairwise.nil
  refine asc_eq h1 h3 (fun z => ?_)
  rw [h2, h4]; simp
end Go.Proofs.Ytilbhingfnjppab

namespace Go.Proofs.Ytilbhingfnjppab
open Go.RowKit
/-- A string begins in another one at a place. -/
def hit (w f : ByteArray) (i : Nat) : Bool := (w.extract i (i + f.size)).toList == f.toList
def pl (w f : ByteArray) (k : Nat) : List Nat := (List.range k).filter (hit w f)
def nvl (l : List Nat) : List Value := l.map (fun (n : Nat) => Value.int .i64 (n : Int))
theorem nvl_len (l : List Nat) : (nvl l).length = l.length := by simp [nvl]
theorem nvl_at (l : List Nat) (j : Nat) (h : j < l.length) : (nvl l)[j]? = some (.int .i64 (l.getD j 0 : Nat)) := by simp [nvl, h, List.getD_eq_getElem?_getD]
theorem pl_yes {w f : ByteArray} {k : Nat} (h : hit w f k = true) : pl w f (k + 1) = pl w f k ++ [k] := by simp [pl, List.range_succ, List.filter_append, h]
theorem pl_no {w f : ByteArray} {k : Nat} (h : hit w f k = false) : pl w f (k + 1) = pl w f k := by simp [pl, List.range_succ, List.filter_append, h]
theorem pl_le (w f : ByteArray) (k : Nat) : (pl w f k).length ≤ k := Nat.le_trans (List.length_filter_le _ _) (by simp)
/-- All places. -/
def places (w f : ByteArray) : List Nat := pl w f (w.size + 1 - f.size)
set_option maxRecDepth 20000 in
set_option maxHeartbeats 2000000 in
theorem placesIn_any (s f : ByteArray) (w : World) (hs : s.size ≤ 400) (hf : f.size ≤ 400)  :
    Calls Try.prog 72 #[.string s, .string f] w fun e w' => ∃ g cap, e = .returned (.slice (some ⟨g, 0, none⟩) (places s f).length cap) ∧ w'.ownsRow w.heap.size 3 1 (.slice (some ⟨g, 0, none⟩) (places s f).length cap) (places s f).length (nvl (places s f)) ∧ Below w.heap.size w w' := by
  obtain ⟨i0, hi0, hz0, hz1, hz2⟩ := info_parts infoI
  go_enter Try.func72, Try.ntmps72
  go_wp2_with (fail)
  go_loopw [5, 6] (fun out i wr => ∃ k g cap : Nat, k ≤ s.size + 1 - f.size ∧ i = .int .i64 k ∧ out = .slice (some ⟨g, 0, none⟩) (pl s f k).length cap ∧ wr.ownsRow w.heap.size 3 1 (.slice (some ⟨g, 0, none⟩) (pl s f k).length cap) (pl s f k).length (nvl (pl s f k)) ∧ w.heap.size ≤ wr.heap.size ∧ Below w.heap.size w wr) (fun _ i _ => s.size + 1 - (intOf i).toNat)
  case atStart => exact ⟨0, w.heap.size, 0, by omega, rfl, rfl, World.ownsRow_lit w #[] 0 (Nat.le_refl _) (by decide) rfl, by ((try simp only [World.size_alloc, World.size_setCell, World.size_drew, size_drewN]); (try dsimp only); omega), by (repeat (first | with_reducible exact Below.refl _ _ | assumption | with_reducible refine Qdrew ?_ | with_reducible refine QdrewN ?_ | ((with_reducible refine Qset ?_ ?_); exact (by ((try simp only [World.size_alloc, World.size_setCell, World.size_drew, size_drewN]); (try dsimp only); omega))) | ((with_reducible refine Qalloc ?_ ?_); exact (by ((try simp only [World.size_alloc, World.size_setCell, World.size_drew, size_drewN]); (try dsimp only); omega))) | refine Qtrans (by assumption) (by ((try simp only [World.size_alloc, World.size_setCell, World.size_drew, size_drewN]); (try dsimp only); omega)) ?_))⟩
  case round =>
    obtain ⟨k, g, cap, hk, rfl, rfl, hown, hz, hbel⟩ := hrel
    have hpl := pl_le s f k
    by_cases hlt : k + f.size ≤ s.size
    · have hlt' : (k : Int) + (f.size : Int) ≤ (s.size : Int) := by omega
      have hk0 : (0 : Int) ≤ (k : Int) := by omega
      have hk1 : (k : Int) ≤ (k : Int) + (f.size : Int) := by omega
      cases hh : hit s f k
      · have hh' : ((s.extract k (k + f.size)).toList == f.toList) = false := hh
        have hs' := Lib.hid (pl_no hh)
        go_wp2
        go_roundw
        case rel => exact ⟨k + 1, g, cap, by omega, by go_num, by rw [hs'.out], by rw [hs'.out]; exact hown, hz, hbel⟩
        case measure => (simp [intOf]) <;> omega
      · have hh' : ((s.extract k (k + f.size)).toList == f.toList) = true := hh
        have hs' := Lib.hid (pl_yes hh)
        obtain ⟨L, hL⟩ : ∃ L, pl s f k = L := ⟨_, rfl⟩
        have hL' := Lib.hid hL
        rw [hL] at hown hpl ⊢
        clear hL
        go_wp2_with (at_builtin; refine wpList_append_lies _ rfl _ _ _ rfl (w.heap.size) 3 i0 _ 1 8 Try.underlying32 hi0 hz0 hz1 hz2 rfl (by decide) (_) (L.length) (nvl L) (by rfl) (hown.alloc _) ⟨(wr).heap.size, 0, none⟩ 1 1 [.int .i64 (k : Int)] (by rfl) (by rfl) (World.news_of_block (cs := #[.int .i64 (k : Int)]) (t := 3) (fr := (0, 0)) (heap_alloc_new (wr) _)) (by simp [Value.oneCell']) (by omega) (by unfold maxLen; omega) (by omega) (by simp; omega) ((wr).heap.size + 1) (by simp) ?_; intro gg cap w1 hown1 hgrow hatg hltg)
        go_roundw
        case rel => exact ⟨k + 1, gg, _, by omega, by go_num, by rw [hs'.out, hL'.out]; simp; rfl, by rw [hs'.out, hL'.out]; simpa [nvl] using hown1, by have := size_app hgrow; omega, below_app hbel hz hown hgrow⟩
        case measure => (simp [intOf]) <;> omega
    · have e := Lib.hid (show k = s.size + 1 - f.size by omega)
      have hlt' : ¬ (k : Int) + (f.size : Int) ≤ (s.size : Int) := by omega
      have hp : Hid (pl s f k = places s f) := by show _ = _; rw [e.out]; rfl
      go_wp2
      go_ret
      exact ⟨g, cap, by rw [← hp.out]; rfl, by rw [← hp.out]; exact hown, hbel⟩
noncomputable def pOk (s f : ByteArray) : Bool := isWB s && (isWB f && !f.toList.isEmpty)
noncomputable def P (s f : ByteArray) : List Nat := if pOk s f then places s f else []
theorem pOk_true {s f : ByteArray} (h : pOk s f = true) : isWB s = true ∧ isWB f = true ∧ f.toList.isEmpty = false := by
  simp only [pOk, Bool.and_eq_true, Bool.not_eq_true'] at h; exact ⟨h.1, h.2.1, h.2.2⟩
theorem P_no {s f : ByteArray} (h : pOk s f = false) : P s f = [] := by simp [P, h]
theorem P_yes {s f : ByteArray} (h : pOk s f = true) : P s f = places s f := by simp [P, h]
def RowN (w : World) (B : Nat) (x : Option Addr) (cap : Nat) (l : List Nat) : Prop := w.ownsRow B 3 1 (.slice x l.length cap) l.length (nvl l)
set_option maxRecDepth 20000 in
set_option maxHeartbeats 1000000 in
theorem implPlaces_any (s f : ByteArray) (w : World) (hs : s.size ≤ 9223372036854775807) (hf : f.size ≤ 9223372036854775807) :
    Calls Try.prog 23 #[.string s, .string f] w fun e w' => ∃ x cap, e = .returned (.slice x (P s f).length cap) ∧ RowN w' w.heap.size x cap (P s f) ∧ Below w.heap.size w w' := by
  cases hp : pOk s f
  · have hP := Lib.hid (P_no hp)
    cases h1 : isWB s
    · go_enter Try.func23, Try.ntmps23
      go_wp2_with (first | (go_at_call 62; refine (isWord_any _ _ (by assumption)).mono ?_; rintro e w1 ⟨rfl, rfl⟩))
      go_ret
      exact ⟨none, 0, by rw [hP.out]; rfl, by rw [hP.out]; exact World.ownsRow_nil _ _ _ _, by (repeat (first | with_reducible exact Below.refl _ _ | assumption | with_reducible refine Qdrew ?_ | with_reducible refine QdrewN ?_ | ((with_reducible refine Qset ?_ ?_); exact (by ((try simp only [World.size_alloc, World.size_setCell, World.size_drew, size_drewN]); (try dsimp only); omega))) | ((with_reducible refine Qalloc ?_ ?_); exact (by ((try simp only [World.size_alloc, World.size_setCell, World.size_drew, size_drewN]); (try dsimp only); omega))) | refine Qtrans (by assumption) (by ((try simp only [World.size_alloc, World.size_setCell, World.size_drew, size_drewN]); (try dsimp only); omega)) ?_))⟩
    · cases h2 : isWB f
      · go_enter Try.func23, Try.ntmps23
        go_wp2_with (first | (go_at_call 62; refine (isWord_any _ _ (by assumption)).mono ?_; rintro e w1 ⟨rfl, rfl⟩))
        go_ret
        exact ⟨none, 0, by rw [hP.out]; rfl, by rw [hP.out]; exact World.ownsRow_nil _ _ _ _, by (repeat (first | with_reducible exact Below.refl _ _ | assumption | with_reducible refine Qdrew ?_ | with_reducible refine QdrewN ?_ | ((with_reducible refine Qset ?_ ?_); exact (by ((try simp only [World.size_alloc, World.size_setCell, World.size_drew, size_drewN]); (try dsimp only); omega))) | ((with_reducible refine Qalloc ?_ ?_); exact (by ((try simp only [World.size_alloc, World.size_setCell, World.size_drew, size_drewN]); (try dsimp only); omega))) | refine Qtrans (by assumption) (by ((try simp only [World.size_alloc, World.size_setCell, World.size_drew, size_drewN]); (try dsimp only); omega)) ?_))⟩
      · have h3 : f.toList.isEmpty = true := by simpa [pOk, h1, h2] using hp
        go_enter Try.func23, Try.ntmps23
        go_wp2_with (first | (go_at_call 62; refine (isWord_any _ _ (by assumption)).mono ?_; rintro e w1 ⟨rfl, rfl⟩))
        go_ret
        exact ⟨none, 0, by rw [hP.out]; rfl, by rw [hP.out]; exact World.ownsRow_nil _ _ _ _, by (repeat (first | with_reducible exact Below.refl _ _ | assumption | with_reducible refine Qdrew ?_ | with_reducible refine QdrewN ?_ | ((with_reducible refine Qset ?_ ?_); exact (by ((try simp only [World.size_alloc, World.size_setCell, World.size_drew, size_drewN]); (try dsimp only); omega))) | ((with_reducible refine Qalloc ?_ ?_); exact (by ((try simp only [World.size_alloc, World.size_setCell, World.size_drew, size_drewN]); (try dsimp only); omega))) | refine Qtrans (by assumption) (by ((try simp only [World.size_alloc, World.size_setCell, World.size_drew, size_drewN]); (try dsimp only); omega)) ?_))⟩
  · obtain ⟨h1, h2, h3⟩ := pOk_true hp
    have hs4 := (isW_of h1).1
    have hf4 := (isW_of h2).1
    have hP := Lib.hid (P_yes hp)
    go_enter Try.func23, Try.ntmps23
    go_wp2_with (first | (go_at_call 62; refine (isWord_any _ _ (by omega)).mono ?_; rintro e w1 ⟨rfl, rfl⟩) | (go_at_call 72; refine (placesIn_any _ _ _ hs4 hf4).mono ?_; rintro e w1 ⟨g, cap, rfl, hown, hb1⟩))
    go_ret
    exact ⟨_, cap, by rw [hP.out]; rfl, by rw [hP.out]; exact hown, hb1⟩
noncomputable def plB (s f : ByteArray) : Bool := decide (0 < ((P s f).length : Int))
set_option maxRecDepth 20000 in
set_option maxHeartbeats 1000000 in
theorem isPlaced_any (s f : ByteArray) (w : World) (hs : s.size ≤ 9223372036854775807) (hf : f.size ≤ 9223372036854775807) :
    Calls Try.prog 69 #[.string s, .string f] w fun e w' => e = .returned (.bool (plB s f)) ∧ Below w.heap.size w w' := by
  obtain ⟨L, hL⟩ : ∃ L, (P s f).length = L := ⟨_, rfl⟩
  have hc := fun w => implPlaces_any s f w hs hf
  rw [hL] at hc
  have hL' := Lib.hid hL
  go_enter Try.func69, Try.ntmps69
  go_wp2_with (first | (go_at_call 23; refine (hc _).mono ?_; rintro e w1 ⟨x, cap, rfl, hown, hb1⟩))
  go_ret
  exact ⟨ret_bool (by simp only [plB]; rw [hL'.out]; simp), hb1⟩
end Go.Proofs.Ytilbhingfnjppab
