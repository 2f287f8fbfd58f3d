/- Plain laws of the sums: the weights, the greedy digits, the sum of a numeral. No program in sight. -/
import Derived.Test.YtilbhingfnjppaaDoorBytes
import Derived.Test.YtilbhingfnjppaaDoorBase
set_option linter.unusedSimpArgs false
set_option linter.unusedVariables false
namespace Go.Proofs.YtilbhingfnjppaaDoor
open Go.RowKit

/-- The weights 1, 2, 3, 5, 8 and so on, two at a time. -/
def wp : Nat → Int × Int
  | 0 => (1, 2)
  | n + 1 => ((wp n).2, (wp n).1 + (wp n).2)
def wt (n : Nat) : Int := (wp n).1
theorem wt0 : wt 0 = 1 := rfl
theorem wt1 : wt 1 = 2 := rfl
theorem wtSS (n : Nat) : wt (n + 2) = wt n + wt (n + 1) := rfl
theorem wt_pos : ∀ n, 0 < wt n ∧ 0 < wt (n + 1)
  | 0 => by decide
  | n + 1 => by have h := wt_pos n; have e := wtSS n; exact ⟨h.2, by rw [show n + 1 + 1 = n + 2 from rfl, e]; omega⟩
theorem wt_lt (n : Nat) : wt n < wt (n + 1) := by
  cases n with
  | zero => decide
  | succ n => have h := wt_pos n; have e := wtSS n; rw [show n + 1 + 1 = n + 2 from rfl, e]; omega
theorem wt_mono : ∀ {m n : Nat}, m ≤ n → wt m ≤ wt n := by
  intro m n h
  induction h with
  | refl => exact Int.le_refl _
  | step _ ih => have := wt_lt ‹Nat›; exact Int.le_trans ih (Int.le_of_lt (wt_lt _))
theorem wt62 : wt 62 = 10610209857723 := by decide +kernel
theorem wt60 : wt 60 = 4052739537881 := by decide +kernel
theorem wtB (n : Nat) (h : n ≤ 62) : 0 < wt n ∧ wt n ≤ 10610209857723 := ⟨(wt_pos n).1, by have := wt_mono h; rw [wt62] at this; exact this⟩

/-- The greedy digits: those of the weights below the k-th, behind what is written already. -/
def gr : Nat → Int → List UInt8 → List UInt8
  | 0, _, acc => acc
  | k + 1, n, acc => if wt k ≤ n then gr k (n - wt k) (acc ++ [49]) else if acc = [] then gr k n [] else gr k n (acc ++ [48])
theorem gr_yes {k : Nat} {n : Int} {acc : List UInt8} (h : wt k ≤ n) : gr (k + 1) n acc = gr k (n - wt k) (acc ++ [49]) := by simp [gr, h]
theorem gr_no {k : Nat} {n : Int} {acc : List UInt8} (h : ¬ wt k ≤ n) (ha : acc ≠ []) : gr (k + 1) n acc = gr k n (acc ++ [48]) := by simp [gr, h, ha]
theorem gr_nil {k : Nat} {n : Int} (h : ¬ wt k ≤ n) : gr (k + 1) n [] = gr k n [] := by simp [gr, h]
theorem gr_len : ∀ (k : Nat) (n : Int) (acc : List UInt8), acc ≠ [] → (gr k n acc).length = k + acc.length
  | 0, _, _, _ => by simp [gr]
  | k + 1, n, acc, ha => by
    by_cases h : wt k ≤ n
    · rw [gr_yes h, gr_len k _ _ (by simp)]; simp; omega
    · rw [gr_no h ha, gr_len k _ _ (by simp)]; simp; omega
theorem gr_le : ∀ (k : Nat) (n : Int), (gr k n []).length ≤ k
  | 0, _ => by simp [gr]
  | k + 1, n => by
    by_cases h : wt k ≤ n
    · rw [gr_yes h, gr_len k _ _ (by simp)]; simp
    · rw [gr_nil h]; have := gr_le k n; omega
/-- The numeral as a string. -/
def num (n : Int) : ByteArray := ⟨(gr 60 n []).toArray⟩
theorem gr61_lo {n : Int} (h : n < wt 60) : gr 61 n [] = gr 60 n [] := gr_nil (by omega)
theorem gr61_hi {n : Int} (h : wt 60 ≤ n) : (gr 61 n []).length = 61 := by rw [gr_yes h, gr_len _ _ _ (by simp)]; simp
theorem num_size (n : Int) : (num n).size ≤ 60 := by have := gr_le 60 n; simpa [num, ByteArray.size] using this
/-- What a numeral's place must be. -/
def okAt (s : ByteArray) (j : Nat) : Prop := (bt s j = 48 ∨ bt s j = 49) ∧ ¬ (0 < j ∧ bt s j = 49 ∧ bt s (j - 1) = 49)
def Nok (s : ByteArray) : Prop := s.size ≤ 60 ∧ (0 < s.size → bt s 0 = 49) ∧ ∀ j, j < s.size → okAt s j
open Classical in
noncomputable def nokB (s : ByteArray) : Bool := decide (Nok s)
theorem nokB_true {s : ByteArray} (h : Nok s) : nokB s = true := by simp [nokB, h]
theorem nokB_false {s : ByteArray} (h : ¬ Nok s) : nokB s = false := by simp [nokB, h]
theorem nok_of {s : ByteArray} (h : nokB s = true) : Nok s := by simpa [nokB] using h
theorem nok_not {s : ByteArray} (h : nokB s = false) : ¬ Nok s := by simpa [nokB] using h

/-- The sum of a numeral's first places. -/
def sm (s : ByteArray) : Nat → Int
  | 0 => 0
  | k + 1 => if bt s k = 49 then wrap64 (sm s k + wt (s.size - 1 - k)) else sm s k
theorem sm_yes {s : ByteArray} {k : Nat} (h : bt s k = 49) : sm s (k + 1) = wrap64 (sm s k + wt (s.size - 1 - k)) := by simp [sm, h]
theorem sm_no {s : ByteArray} {k : Nat} (h : ¬ bt s k = 49) : sm s (k + 1) = sm s k := by simp [sm, h]
/-- The number of a numeral. -/
def smm (s : ByteArray) : Int := sm s s.size
/-- A list of digits without two high ones side by side, that begins with a high one. -/
def gd (l : List UInt8) : Prop := (∀ j, j < l.length → l.getD j 0 = 48 ∨ l.getD j 0 = 49) ∧ (∀ j, j + 1 < l.length → ¬ (l.getD j 0 = 49 ∧ l.getD (j + 1) 0 = 49)) ∧ (0 < l.length → l.getD 0 0 = 49)
theorem getD_lo {l m : List UInt8} {j : Nat} (h : j < l.length) : (l ++ m).getD j 0 = l.getD j 0 := by simp [List.getD_eq_getElem?_getD, List.getElem?_append_left h]
theorem getD_at {l : List UInt8} {x : UInt8} : (l ++ [x]).getD l.length 0 = x := by simp [List.getD_eq_getElem?_getD]
theorem gd_snoc {l : List UInt8} {x : UInt8} (h : gd l) (hx : x = 48 ∨ x = 49) (h0 : l = [] → x = 49) (h1 : l ≠ [] → x = 49 → l.getD (l.length - 1) 0 ≠ 49) : gd (l ++ [x]) := by
  refine ⟨fun j hj => ?_, fun j hj => ?_, fun _ => ?_⟩
  · by_cases hjl : j < l.length
    · rw [getD_lo hjl]; exact h.1 j hjl
    · have : j = l.length := by simp at hj; omega
      subst this; rw [getD_at]; exact hx
  · by_cases hjl : j + 1 < l.length
    · rw [getD_lo hjl, getD_lo (by omega)]; exact h.2.1 j hjl
    · have e : j + 1 = l.length := by simp at hj; omega
      have hne : l ≠ [] := by intro e2; subst e2; simp at e
      rw [getD_lo (by omega), e, getD_at]
      intro ⟨e1, e2⟩
      exact h1 hne e2 (by rw [← e]; simpa using e1)
  · by_cases hl : l = []
    · subst hl; simpa using h0 rfl
    · have : 0 < l.length := by cases l <;> simp_all
      rw [getD_lo this]; exact h.2.2 this
theorem gr_gd : ∀ (k : Nat) (n : Int) (acc : List UInt8), gd acc → 0 ≤ n → n < wt k → (acc ≠ [] → acc.getD (acc.length - 1) 0 = 49 → n < wt (k - 1)) → gd (gr k n acc)
  | 0, _, _, h, _, _, _ => h
  | k + 1, n, acc, h, h0, hn, hl => by
    by_cases hw : wt k ≤ n
    · rw [gr_yes hw]
      have hk : n - wt k < wt (k - 1) := by
        cases k with
        | zero => simp [wt0, wt1] at *; omega
        | succ k => have := wtSS k; simp at *; rw [show k + 1 + 1 = k + 2 from rfl] at hn; omega
      refine gr_gd k _ _ (gd_snoc h (.inr rfl) (fun _ => rfl) (fun hne _ e => ?_)) (by omega) ?_ (fun _ _ => hk)
      · have := hl hne e; simp at this; omega
      · have := wt_mono (show k - 1 ≤ k by omega); omega
    · by_cases ha : acc = []
      · subst ha; rw [gr_nil hw]; exact gr_gd k n [] h h0 (by omega) (fun h => absurd rfl h)
      · rw [gr_no hw ha]
        refine gr_gd k _ _ (gd_snoc h (.inl rfl) (fun e => absurd e ha) (fun _ e => by simp at e)) h0 (by omega) (fun _ e => ?_)
        rw [show (acc ++ [(48 : UInt8)]).length - 1 = acc.length by simp, getD_at] at e; simp at e
theorem gd_nil : gd [] := ⟨by simp, by simp, by simp⟩
theorem bt_list (l : List UInt8) (j : Nat) (h : j < l.length) : bt ⟨l.toArray⟩ j = ((l.getD j 0).toNat : Int) := by
  have : j < (⟨l.toArray⟩ : ByteArray).size := by simpa [ByteArray.size] using h
  simp [bt, this, ByteArray.getElem_eq_getElem_data, List.getD_eq_getElem?_getD, h]
theorem nok_of_gd {l : List UInt8} (h : gd l) (hl : l.length ≤ 60) : Nok ⟨l.toArray⟩ := by
  have hs : (⟨l.toArray⟩ : ByteArray).size = l.length := by simp [ByteArray.size]
  refine ⟨by omega, fun h0 => ?_, fun j hj => ⟨?_, ?_⟩⟩
  · rw [bt_list l 0 (by omega), h.2.2 (by omega)]; rfl
  · rw [bt_list l j (by omega)]
    rcases h.1 j (by omega) with e | e <;> rw [e] <;> simp
  · intro ⟨hj0, e1, e2⟩
    rw [bt_list l j (by omega)] at e1
    rw [bt_list l (j - 1) (by omega)] at e2
    have q : ∀ x : UInt8, ((x.toNat : Int) = 49) → x = 49 := by
      intro x hx; apply UInt8.toNat_inj.1; show x.toNat = 49; omega
    have := h.2.1 (j - 1) (by omega)
    rw [show j - 1 + 1 = j by omega] at this
    exact this ⟨q _ e2, q _ e1⟩
/-- The numeral of a number of at least 1, with a low digit behind it, is a numeral. -/
theorem nok_shift {n : Int} (h1 : 1 ≤ n) (h2 : n ≤ 1000000000) : Nok ⟨(gr 60 n [] ++ [48]).toArray⟩ := by
  have w59 : wt 59 = 2504730781961 := by decide +kernel
  have e : gr 60 n [] = gr 59 n [] := gr_nil (by rw [w59]; omega)
  have w0 : ∀ k, n < wt 0 → False := fun _ h => by rw [wt0] at h; omega
  have hne : ∀ k, wt 0 ≤ n → gr (k + 1) n [] ≠ [] := by
    intro k
    induction k with
    | zero => intro h; rw [gr_yes h]; simp [gr]
    | succ k ih =>
      intro h
      by_cases hw : wt (k + 1) ≤ n
      · intro e; have := congrArg List.length e; rw [gr_yes hw, gr_len _ _ _ (by simp)] at this; simp at this
      · rw [gr_nil hw]; exact ih h
  have hg := gr_gd 59 n [] gd_nil (by omega) (by rw [w59]; omega) (fun h => absurd rfl h)
  rw [e]
  refine nok_of_gd (gd_snoc hg (.inl rfl) (fun e => absurd e (hne 58 (by rw [wt0]; omega))) (fun _ e => by simp at e)) ?_
  have := gr_le 59 n
  simp; omega
end Go.Proofs.YtilbhingfnjppaaDoor
