/- Several texts in one, in their order: SumsA SumsB SumsC SumsD SumsE SumsF SumsT SumP. -/
import Derived.Test.YtilbhingfnjppaaDoorBytes
import Derived.Test.YtilbhingfnjppaaDoorBase
import Derived.Test.YtilbhingfnjppaaDoorBase2
import Derived.Deep.RegionLaw
import Derived.Laws.IdiomStrings
import Derived.Test.YtilbhingfnjppaaDoorMGold
set_option linter.unusedSimpArgs false
set_option linter.unusedVariables false
namespace Go.Proofs.YtilbhingfnjppaaDoor
open Go.RowKit

/-- The weights 1, 2, 3, 5, 8 and so on, two at a time. -/
def wp : Nat → Int × Int
  | 0 => (1, 2)
  | n + 1 => ((wp n).2, (wp n).1 + (wp n).2)
def wt (n : Nat) : Int := (wp n).1
theorem wt0 : wt 0 = 1 := rfl
theorem wt1 : wt 1 = 2 := rfl
theorem wtSS (n : Nat) : wt (n + 2) = wt n + wt (n + 1) := rfl
theorem wt_pos : ∀ n, 0 < wt n ∧ 0 < wt (n + 1)
  | 0 => by decide
  | n + 1 => by have h := wt_pos n; have e := wtSS n; exact ⟨h.2, by rw [show n + 1 + 1 = n + 2 from rfl, e]; omega⟩
theorem wt_lt (n : Nat) : wt n < wt (n + 1) := by
  cases n with
  | zero => decide
  | succ n => have h := wt_pos n; have e := wtSS n; rw [show n + 1 + 1 = n + 2 from rfl, e]; omega
theorem wt_mono : ∀ {m n : Nat}, m ≤ n → wt m ≤ wt n := by
  intro m n h
  induction h with
  | refl => exact Int.le_refl _
  | step _ ih => have := wt_lt ‹Nat›; exact Int.le_trans ih (Int.le_of_lt (wt_lt _))
theorem wt62 : wt 62 = 10610209857723 := by decide +kernel
theorem wt60 : wt 60 = 4052739537881 := by decide +kernel
theorem wtB (n : Nat) (h : n ≤ 62) : 0 < wt n ∧ wt n ≤ 10610209857723 := ⟨(wt_pos n).1, by have := wt_mono h; rw [wt62] at this; exact this⟩

/-- The greedy digits: those of the weights below the k-th, behind what is written already. -/
def gr : Nat → Int → List UInt8 → List UInt8
  | 0, _, acc => acc
  | k + 1, n, acc => if wt k ≤ n then gr k (n - wt k) (acc ++ [49]) else if acc = [] then gr k n [] else gr k n (acc ++ [48])
theorem gr_yes {k : Nat} {n : Int} {acc : List UInt8} (h : wt k ≤ n) : gr (k + 1) n acc = gr k (n - wt k) (acc ++ [49]) := by simp [gr, h]
theorem gr_no {k : Nat} {n : Int} {acc : List UInt8} (h : ¬ wt k ≤ n) (ha : acc ≠ []) : gr (k + 1) n acc = gr k n (acc ++ [48]) := by simp [gr, h, ha]
theorem gr_nil {k : Nat} {n : Int} (h : ¬ wt k ≤ n) : gr (k + 1) n [] = gr k n [] := by simp [gr, h]
theorem gr_len : ∀ (k : Nat) (n : Int) (acc : List UInt8), acc ≠ [] → (gr k n acc).length = k + acc.length
  | 0, _, _, _ => by simp [gr]
  | k + 1, n, acc, ha => by
    by_cases h : wt k ≤ n
    · rw [gr_yes h, gr_len k _ _ (by simp)]; simp; omega
    · rw [gr_no h ha, gr_len k _ _ (by simp)]; simp; omega
theorem gr_le : ∀ (k : Nat) (n : Int), (gr k n []).length ≤ k
  | 0, _ => by simp [gr]
  | k + 1, n => by
    by_cases h : wt k ≤ n
    · rw [gr_yes h, gr_len k _ _ (by simp)]; simp
    · rw [gr_nil h]; have := gr_le k n; omega
/-- The numeral as a string. -/
def num (n : Int) : ByteArray := ⟨(gr 60 n []).toArray⟩
theorem gr61_lo {n : Int} (h : n < wt 60) : gr 61 n [] = gr 60 n [] := gr_nil (by omega)
theorem gr61_hi {n : Int} (h : wt 60 ≤ n) : (gr 61 n []).length = 61 := by rw [gr_yes h, gr_len _ _ _ (by simp)]; simp
theorem num_size (n : Int) : (num n).size ≤ 60 := by have := gr_le 60 n; simpa [num, ByteArray.size] using this
/-- What a numeral's place must be. -/
def okAt (s : ByteArray) (j : Nat) : Prop := (bt s j = 48 ∨ bt s j = 49) ∧ ¬ (0 < j ∧ bt s j = 49 ∧ bt s (j - 1) = 49)
def Nok (s : ByteArray) : Prop := s.size ≤ 60 ∧ (0 < s.size → bt s 0 = 49) ∧ ∀ j, j < s.size → okAt s j
open Classical in
noncomputable def nokB (s : ByteArray) : Bool := decide (Nok s)
theorem nokB_true {s : ByteArray} (h : Nok s) : nokB s = true := by simp [nokB, h]
theorem nokB_false {s : ByteArray} (h : ¬ Nok s) : nokB s = false := by simp [nokB, h]
theorem nok_of {s : ByteArray} (h : nokB s = true) : Nok s := by simpa [nokB] using h
theorem nok_not {s : ByteArray} (h : nokB s = false) : ¬ Nok s := by simpa [nokB] using h

/-- The sum of a numeral's first places. -/
def sm (s : ByteArray) : Nat → Int
  | 0 => 0
  | k + 1 => if bt s k = 49 then wrap64 (sm s k + wt (s.size - 1 - k)) else sm s k
theorem sm_yes {s : ByteArray} {k : Nat} (h : bt s k = 49) : sm s (k + 1) = wrap64 (sm s k + wt (s.size - 1 - k)) := by simp [sm, h]
theorem sm_no {s : ByteArray} {k : Nat} (h : ¬ bt s k = 49) : sm s (k + 1) = sm s k := by simp [sm, h]
/-- The number of a numeral. -/
def smm (s : ByteArray) : Int := sm s s.size
/-- A list of digits without two high ones side by side, that begins with a high one. -/
def gd (l : List UInt8) : Prop := (∀ j, j < l.length → l.getD j 0 = 48 ∨ l.getD j 0 = 49) ∧ (∀ j, j + 1 < l.length → ¬ (l.getD j 0 = 49 ∧ l.getD (j + 1) 0 = 49)) ∧ (0 < l.length → l.getD 0 0 = 49)
theorem getD_lo {l m : List UInt8} {j : Nat} (h : j < l.length) : (l ++ m).getD j 0 = l.getD j 0 := by simp [List.getD_eq_getElem?_getD, List.getElem?_append_left h]
theorem getD_at {l : List UInt8} {x : UInt8} : (l ++ [x]).getD l.length 0 = x := by simp [List.getD_eq_getElem?_getD]
theorem gd_snoc {l : List UInt8} {x : UInt8} (h : gd l) (hx : x = 48 ∨ x = 49) (h0 : l = [] → x = 49) (h1 : l ≠ [] → x = 49 → l.getD (l.length - 1) 0 ≠ 49) : gd (l ++ [x]) := by
  refine ⟨fun j hj => ?_, fun j hj => ?_, fun _ => ?_⟩
  · by_cases hjl : j < l.length
    · rw [getD_lo hjl]; exact h.1 j hjl
    · have : j = l.length := by simp at hj; omega
      subst this; rw [getD_at]; exact hx
  · by_cases hjl : j + 1 < l.length
    · rw [getD_lo hjl, getD_lo (by omega)]; exact h.2.1 j hjl
    · have e : j + 1 = l.length := by simp at hj; omega
      have hne : l ≠ [] := by intro e2; subst e2; simp at e
      rw [getD_lo (by omega), e, getD_at]
      intro ⟨e1, e2⟩
      exact h1 hne e2 (by rw [← e]; simpa using e1)
  · by_cases hl : l = []
    · subst hl; simpa using h0 rfl
    · have : 0 < l.length := by cases l <;> simp_all
      rw [getD_lo this]; exact h.2.2 this
theorem gr_gd : ∀ (k : Nat) (n : Int) (acc : List UInt8), gd acc → 0 ≤ n → n < wt k → (acc ≠ [] → acc.getD (acc.length - 1) 0 = 49 → n < wt (k - 1)) → gd (gr k n acc)
  | 0, _, _, h, _, _, _ => h
  | k + 1, n, acc, h, h0, hn, hl => by
    by_cases hw : wt k ≤ n
    · rw [gr_yes hw]
      have hk : n - wt k < wt (k - 1) := by
        cases k with
        | zero => simp [wt0, wt1] at *; omega
        | succ k => have := wtSS k; simp at *; rw [show k + 1 + 1 = k + 2 from rfl] at hn; omega
      refine gr_gd k _ _ (gd_snoc h (.inr rfl) (fun _ => rfl) (fun hne _ e => ?_)) (by omega) ?_ (fun _ _ => hk)
      · have := hl hne e; simp at this; omega
      · have := wt_mono (show k - 1 ≤ k by omega); omega
    · by_cases ha : acc = []
      · subst ha; rw [gr_nil hw]; exact gr_gd k n [] h h0 (by omega) (fun h => absurd rfl h)
      · rw [gr_no hw ha]
        refine gr_gd k _ _ (gd_snoc h (.inl rfl) (fun e => absurd e ha) (fun _ e => by simp at e)) h0 (by omega) (fun _ e => ?_)
        rw [show (acc ++ [(48 : UInt8)]).length - 1 = acc.length by simp, getD_at] at e; simp at e
theorem gd_nil : gd [] := ⟨by simp, by simp, by simp⟩
theorem bt_list (l : List UInt8) (j : Nat) (h : j < l.length) : bt ⟨l.toArray⟩ j = ((l.getD j 0).toNat : Int) := by
  have : j < (⟨l.toArray⟩ : ByteArray).size := by simpa [ByteArray.size] using h
  simp [bt, this, ByteArray.getElem_eq_getElem_data, List.getD_eq_getElem?_getD, h]
theorem nok_of_gd {l : List UInt8} (h : gd l) (hl : l.length ≤ 60) : Nok ⟨l.toArray⟩ := by
  have hs : (⟨l.toArray⟩ : ByteArray).size = l.length := by simp [ByteArray.size]
  refine ⟨by omega, fun h0 => ?_, fun j hj => ⟨?_, ?_⟩⟩
  · rw [bt_list l 0 (by omega), h.2.2 (by omega)]; rfl
  · rw [bt_list l j (by omega)]
    rcases h.1 j (by omega) with e | e <;> rw [e] <;> simp
  · intro ⟨hj0, e1, e2⟩
    rw [bt_list l j (by omega)] at e1
    rw [bt_list l (j - 1) (by omega)] at e2
    have q : ∀ x : UInt8, ((x.toNat : Int) = 49) → x = 49 := by
      intro x hx; apply UInt8.toNat_inj.1; show x.toNat = 49; omega
    have := h.2.1 (j - 1) (by omega)
    rw [show j - 1 + 1 = j by omega] at this
    exact this ⟨q _ e2, q _ e1⟩
/-- The numeral of a number of at least 1, with a low digit behind it, is a numeral. -/
theorem nok_shift {n : Int} (h1 : 1 ≤ n) (h2 : n ≤ 1000000000) : Nok ⟨(gr 60 n [] ++ [48]).toArray⟩ := by
  have w59 : wt 59 = 2504730781961 := by decide +kernel
  have e : gr 60 n [] = gr 59 n [] := gr_nil (by rw [w59]; omega)
  have w0 : ∀ k, n < wt 0 → False := fun _ h => by rw [wt0] at h; omega
  have hne : ∀ k, wt 0 ≤ n → gr (k + 1) n [] ≠ [] := by
    intro k
    induction k with
    | zero => intro h; rw [gr_yes h]; simp [gr]
    | succ k ih =>
      intro h
      by_cases hw : wt (k + 1) ≤ n
      · intro e; have := congrArg List.length e; rw [gr_yes hw, gr_len _ _ _ (by simp)] at this; simp at this
      · rw [gr_nil hw]; exact ih h
  have hg := gr_gd 59 n [] gd_nil (by omega) (by rw [w59]; omega) (fun h => absurd rfl h)
  rw [e]
  refine nok_of_gd (gd_snoc hg (.inl rfl) (fun e => absurd e (hne 58 (by rw [wt0]; omega))) (fun _ e => by simp at e)) ?_
  have := gr_le 59 n
  simp; omega
end Go.Proofs.YtilbhingfnjppaaDoor

namespace Go.Proofs.YtilbhingfnjppaaDoor
open Go.RowKit
/-- The first k weights, as values. -/
def W (k : Nat) : List Value := (List.range k).map (fun j => Value.int .i64 (wt j))
theorem W_succ (k : Nat) : W (k + 1) = W k ++ [.int .i64 (wt k)] := by simp [W, List.range_succ]
theorem W_at (k j : Nat) (h : j < k) : (W k)[j]? = some (.int .i64 (wt j)) := by simp [W, h]
def WtAt (w : World) (g m : Nat) : Prop := ∀ j, j < m → w.cell? ⟨g, j, none⟩ = some (.int .i64 (wt j))
set_option maxRecDepth 20000 in
set_option maxHeartbeats 1000000 in
theorem specWeights_any (m : Nat) (n : Int) (w : World) (hn : (m : Int) = n) (h0 : 0 < m) (hm : m ≤ 61) :
    Calls Tryd.prog 86 #[.int .i64 n] w fun e w' => ∃ g cap, e = .returned (.slice (some ⟨g, 0, none⟩) m cap) ∧ w.heap.size ≤ g ∧ g < w'.heap.size ∧ WtAt w' g m ∧ Below w.heap.size w w' := by
  subst hn
  obtain ⟨i0, hi0, hz0, hz1, hz2⟩ := info_parts infoI
  go_enter Tryd.func86, Tryd.ntmps86
  go_wp2
  go_loopw [3, 4, 5, 6] (fun out a b i wr => ∃ k : Nat, k ≤ m ∧ i = .int .i64 k ∧ a = .int .i64 (wt k) ∧ b = .int .i64 (wt (k + 1)) ∧ wr.ownsRow w.heap.size 3 1 out k (W k) ∧ w.heap.size ≤ wr.heap.size ∧ Below w.heap.size w wr) (fun _ _ _ i _ => m - (intOf i).toNat)
  case atStart => exact ⟨0, by omega, rfl, rfl, rfl, World.ownsRow_lit w #[] 0 (Nat.le_refl _) (by decide) rfl, by ((try simp only [World.size_alloc, World.size_setCell, World.size_drew, size_drewN]); (try dsimp only); omega), by (repeat (first | with_reducible exact Below.refl _ _ | assumption | with_reducible refine Qdrew ?_ | with_reducible refine QdrewN ?_ | ((with_reducible refine Qset ?_ ?_); exact (by ((try simp only [World.size_alloc, World.size_setCell, World.size_drew, size_drewN]); (try dsimp only); omega))) | ((with_reducible refine Qalloc ?_ ?_); exact (by ((try simp only [World.size_alloc, World.size_setCell, World.size_drew, size_drewN]); (try dsimp only); omega))) | refine Qtrans (by assumption) (by ((try simp only [World.size_alloc, World.size_setCell, World.size_drew, size_drewN]); (try dsimp only); omega)) ?_))⟩
  case round =>
    obtain ⟨k, hk, rfl, rfl, rfl, hown, hz, hbel⟩ := hrel
    obtain ⟨b1, b2⟩ := wtB k (by omega)
    obtain ⟨b3, b4⟩ := wtB (k + 1) (by omega)
    by_cases hlt : k < m
    · go_wp2_with (at_builtin; refine wpList_append_lies _ rfl _ _ _ rfl (w.heap.size) 3 i0 _ 1 8 Tryd.underlying75 hi0 hz0 hz1 hz2 rfl (by decide) (_) (k) (W k) (by rfl) (hown.alloc _) ⟨(wr).heap.size, 0, none⟩ 1 1 [.int .i64 (wt k)] (by rfl) (by rfl) (World.news_of_block (cs := #[.int .i64 (wt k)]) (t := 3) (fr := (0, 0)) (heap_alloc_new (wr) _)) (by simp [Value.oneCell']) (by omega) (by unfold maxLen; omega) (by omega) (by simp; omega) ((wr).heap.size + 1) (by simp) ?_; intro gg cap w1 hown1 hgrow hatg hltg)
      go_roundw
      case rel => exact ⟨k + 1, by omega, by go_num, rfl, by rw [wtSS], by rw [W_succ]; exact hown1, by have := size_app hgrow; omega, below_app hbel hz hown hgrow⟩
      case measure => simp [intOf]; omega
    · obtain rfl : k = m := by omega
      go_wp2
      obtain ⟨g, cap, rfl, hg1, hg2⟩ := hown.form h0
      go_ret
      exact ⟨_, _, rfl, hg1, hg2, fun j hj => by rw [own_cell hown j hj, W_at _ _ hj], hbel⟩
attribute [local go_sem ↓] Go.wp_at_zero Go.wp_at_succ
set_option maxRecDepth 20000 in
set_option maxHeartbeats 2000000 in
theorem implWeights_any (m : Nat) (n : Int) (w : World) (hn : (m : Int) = n) (h0 : 2 ≤ m) (hm : m ≤ 61) :
    Calls Tryd.prog 84 #[.int .i64 n] w fun e w' => ∃ g cap, e = .returned (.slice (some ⟨g, 0, none⟩) m cap) ∧ w.heap.size ≤ g ∧ g < w'.heap.size ∧ WtAt w' g m ∧ Below w.heap.size w w' := by
  subst hn
  obtain ⟨i0, hi0, hz0, hz1, hz2⟩ := info_parts infoI
  go_enter Tryd.func84, Tryd.ntmps84
  go_wp2
  go_loopw [3] (fun out wr => ∃ q g cap : Nat, q + 2 ≤ m ∧ out = .slice (some ⟨g, 0, none⟩) (q + 2) cap ∧ q + 2 ≤ cap ∧ g < wr.heap.size ∧ wr.ownsRow w.heap.size 3 1 (.slice (some ⟨g, 0, none⟩) (q + 2) cap) (q + 2) (W (q + 2)) ∧ w.heap.size ≤ wr.heap.size ∧ Below w.heap.size w wr) (fun out _ => m - lenOf out)
  case atStart => exact ⟨0, w.heap.size, 2, h0, rfl, by omega, by ((try simp only [World.size_alloc, World.size_setCell, World.size_drew, size_drewN]); (try dsimp only); omega), World.ownsRow_lit w #[.int .i64 1, .int .i64 2] 2 (Nat.le_refl _) (by decide) rfl, by ((try simp only [World.size_alloc, World.size_setCell, World.size_drew, size_drewN]); (try dsimp only); omega), by (repeat (first | with_reducible exact Below.refl _ _ | assumption | with_reducible refine Qdrew ?_ | with_reducible refine QdrewN ?_ | ((with_reducible refine Qset ?_ ?_); exact (by ((try simp only [World.size_alloc, World.size_setCell, World.size_drew, size_drewN]); (try dsimp only); omega))) | ((with_reducible refine Qalloc ?_ ?_); exact (by ((try simp only [World.size_alloc, World.size_setCell, World.size_drew, size_drewN]); (try dsimp only); omega))) | refine Qtrans (by assumption) (by ((try simp only [World.size_alloc, World.size_setCell, World.size_drew, size_drewN]); (try dsimp only); omega)) ?_))⟩
  case round =>
    obtain ⟨q, g, cap, hk, rfl, hcap, hg, hown, hz, hbel⟩ := hrel
    obtain ⟨b1, b2⟩ := wtB (q + 1) (by omega)
    obtain ⟨b3, b4⟩ := wtB q (by omega)
    have hc1 := own_cell hown (q + 1) (by omega)
    have hc0 := own_cell hown q (by omega)
    rw [W_at _ _ (by omega)] at hc0 hc1
    by_cases hlt : q + 2 < m
    · have s7 : IntKind.i64.wrap ((q : Int) + 2 - 1) = (q : Int) + 1 := by rw [IntWalk.i64_left, IntWalk.wrap64_in] <;> omega
      have s8 : IntKind.i64.wrap ((q : Int) + 2 - 2) = (q : Int) := by rw [IntWalk.i64_left, IntWalk.wrap64_in] <;> omega
      have s9 : IntKind.i64.wrap (q : Int) = (q : Int) := by rw [IntWalk.i64_left, IntWalk.wrap64_in] <;> omega
      have s10 : IntKind.i64.wrap (wt (q + 1) + wt q) = wt (q + 2) := by rw [IntWalk.i64_left, IntWalk.wrap64_in, wtSS] <;> omega
      have s3 : (0 : Int) ≤ (q : Int) + 1 := by omega
      have s4 : (q : Int) + 1 < (q : Int) + 2 := by omega
      have s5 : (0 : Int) ≤ (q : Int) := by omega
      have s6 : (q : Int) < (q : Int) + 2 := by omega
      go_wp2_with fail
      go_region_law (((refine step_append_lies _ (by rfl) _ _ _ (by rfl) (w.heap.size) 3 i0 _ 1 8 Tryd.underlying75 hi0 hz0 hz1 hz2 rfl (by decide) (.slice (some ⟨g, 0, none⟩) (q + 2) cap) (q + 2) (W (q + 2)) (by rfl) ((hown.alloc _).drew) ⟨(wr).heap.size, 0, none⟩ 1 1 [.int .i64 (wt (q + 2))] (by rfl) (by rfl) (World.news_of_block (cs := #[.int .i64 (wt (q + 2))]) (t := 3) (fr := (0, 0)) (heap_alloc_new (wr) _)) (by simp [Value.oneCell']) (by omega) (by unfold maxLen; omega) (by omega) (by simp; omega) ((wr).heap.size + 1) (by simp) ?_; intro gg cap w1 hown1 hgrow hatg hltg)))
      all_goals
        go_wp2
        go_roundw
        case rel => repeat apply Exists.intro
                    refine ⟨?_, rfl⟩
                    exact ⟨q + 1, gg, _, by omega, rfl, le_cap hown1, hltg, by rw [W_succ]; exact hown1, by have := size_appD hgrow; omega, below_appD hbel hz hown hgrow⟩
        case measure => show m - (q + 2 + 1) < m - (q + 2); omega
    · obtain rfl : q + 2 = m := by omega
      have hcap' : ((q + 2 : Nat) : Int) ≤ (cap : Int) := by omega
      have hq2 : (0 : Int) ≤ ((q + 2 : Nat) : Int) := by omega
      go_wp2
      go_ret
      exact ⟨_, _, rfl, (hown.lt g rfl).1, hg, fun j hj => by rw [own_cell hown j hj, W_at _ _ hj], hbel⟩
end Go.Proofs.YtilbhingfnjppaaDoor

namespace Go.Proofs.YtilbhingfnjppaaDoor
open Go.RowKit
set_option maxRecDepth 20000 in
set_option maxHeartbeats 1000000 in
theorem specNumeral_any (n : Int) (w : World) (hn : -9223372036854775808 ≤ n ∧ n ≤ 9223372036854775807) :
    Calls Tryd.prog 49 #[.int .i64 n] w fun e w' => e = .returned (.string ⟨(gr 60 n []).toArray⟩) ∧ Below w.heap.size w w' := by
  obtain ⟨i0, hi0, hz0, hz1, hz2⟩ := info_parts infoB
  obtain ⟨hn1, hn2⟩ := hn
  go_enter Tryd.func49, Tryd.ntmps49
  go_wp2_with (go_at_call 86; refine (specWeights_any 60 _ _ rfl (by omega) (by omega)).mono ?_; rintro e wA ⟨gw, cw, rfl, hgw1, hgw2, hwt, hb1⟩)
  have hz1' := hb1.size
  go_loopw [0, 4, 5] (fun nv b i wr => ∃ (k : Nat) (acc : List UInt8) (g cap : Nat) (n' : Int), k ≤ 60 ∧ i = .int .i64 ((k : Int) - 1) ∧ nv = .int .i64 n' ∧ b = .slice (some ⟨g, 0, none⟩) acc.length cap ∧ -9223372036854775808 ≤ n' ∧ n' ≤ 9223372036854775807 ∧ acc.length + k ≤ 60 ∧ Hid (gr k n' acc = gr 60 n []) ∧ wr.ownsRow wA.heap.size 5 1 (.slice (some ⟨g, 0, none⟩) acc.length cap) acc.length (bv acc) ∧ wA.heap.size ≤ wr.heap.size ∧ Below wA.heap.size wA wr) (fun _ _ i _ => (intOf i + 1).toNat)
  case atStart => exact ⟨60, [], wA.heap.size, 0, n, by omega, rfl, rfl, rfl, hn1, hn2, by simp, Lib.hid rfl, World.ownsRow_lit wA #[] 0 (Nat.le_refl _) (by decide) rfl, by ((try simp only [World.size_alloc, World.size_setCell, World.size_drew, size_drewN]); (try dsimp only); omega), by (repeat (first | with_reducible exact Below.refl _ _ | assumption | with_reducible refine Qdrew ?_ | with_reducible refine QdrewN ?_ | ((with_reducible refine Qset ?_ ?_); exact (by ((try simp only [World.size_alloc, World.size_setCell, World.size_drew, size_drewN]); (try dsimp only); omega))) | ((with_reducible refine Qalloc ?_ ?_); exact (by ((try simp only [World.size_alloc, World.size_setCell, World.size_drew, size_drewN]); (try dsimp only); omega))) | refine Qtrans (by assumption) (by ((try simp only [World.size_alloc, World.size_setCell, World.size_drew, size_drewN]); (try dsimp only); omega)) ?_))⟩
  case round =>
    obtain ⟨k, acc, g, cap, n', hk, rfl, rfl, rfl, h1, h2, hlen, heq, hown, hz, hbel⟩ := hrel
    cases k with
    | zero =>
      have hcv := own_string hown
      rw [show ((0 : Nat) : Int) - 1 = -1 from rfl]
      go_wp2
      go_ret
      refine ⟨?_, hb1.trans (hbel.mono hz1')⟩
      have := heq.out
      rw [← this]; rfl
    | succ q =>
      have hcell : wr.cell? ⟨gw, q, none⟩ = some (.int .i64 (wt q)) := (hbel.cell (by exact hgw2)).trans (hwt q (by omega))
      obtain ⟨b1, b2⟩ := wtB q (by omega)
      have hq0 : (0 : Int) ≤ (q : Int) := by omega
      have hq1 : (q : Int) < 60 := by omega
      rw [show ((q + 1 : Nat) : Int) - 1 = (q : Int) by omega]
      by_cases hle : wt q ≤ n'
      · have hs := Lib.hid (gr_yes (k := q) (acc := acc) hle)
        go_wp2_with (at_builtin; refine wpList_append_lies _ rfl _ _ _ rfl (wA.heap.size) 5 i0 _ 1 1 Tryd.underlying24 hi0 hz0 hz1 hz2 rfl (by decide) (_) (acc.length) (bv acc) (by rfl) (hown.alloc _) ⟨(wr).heap.size, 0, none⟩ 1 1 [.int .u8 49] (by rfl) (by rfl) (World.news_of_block (cs := #[.int .u8 49]) (t := 5) (fr := (0, 0)) (heap_alloc_new (wr) _)) (by simp [Value.oneCell']) (by omega) (by unfold maxLen; omega) (by omega) (by simp; omega) ((wr).heap.size + 1) (by simp) ?_; intro gg cap w1 hown1 hgrow hatg hltg)
        go_roundw
        case rel => exact ⟨q, acc ++ [49], gg, cap, n' - wt q, by omega, rfl, rfl, by rw [List.length_append]; rfl, by omega, by omega, by simp; omega, Lib.hid (by rw [← heq.out, hs.out]), by simpa [bv] using hown1, by have := size_app hgrow; omega, below_app hbel hz hown hgrow⟩
        case measure => (simp [intOf]) <;> omega
      · by_cases ha : acc = []
        · subst ha
          have hs := Lib.hid (gr_nil (k := q) hle)
          go_wp2
          go_roundw
          case rel => exact ⟨q, [], g, cap, n', by omega, rfl, rfl, rfl, by omega, by omega, by simp; omega, Lib.hid (by rw [← heq.out, hs.out]), hown, hz, hbel⟩
          case measure => (simp [intOf]) <;> omega
        · have hs := Lib.hid (gr_no (k := q) hle ha)
          have hpos : 0 < acc.length := List.length_pos_iff.2 ha
          have hpos' : (0 : Int) < (acc.length : Int) := by omega
          go_wp2_with (at_builtin; refine wpList_append_lies _ rfl _ _ _ rfl (wA.heap.size) 5 i0 _ 1 1 Tryd.underlying24 hi0 hz0 hz1 hz2 rfl (by decide) (_) (acc.length) (bv acc) (by rfl) (hown.alloc _) ⟨(wr).heap.size, 0, none⟩ 1 1 [.int .u8 48] (by rfl) (by rfl) (World.news_of_block (cs := #[.int .u8 48]) (t := 5) (fr := (0, 0)) (heap_alloc_new (wr) _)) (by simp [Value.oneCell']) (by omega) (by unfold maxLen; omega) (by omega) (by simp; omega) ((wr).heap.size + 1) (by simp) ?_; intro gg cap w1 hown1 hgrow hatg hltg)
          go_roundw
          case rel => exact ⟨q, acc ++ [48], gg, cap, n', by omega, rfl, rfl, by rw [List.length_append]; rfl, by omega, by omega, by simp; omega, Lib.hid (by rw [← heq.out, hs.out]), by simpa [bv] using hown1, by have := size_app hgrow; omega, below_app hbel hz hown hgrow⟩
          case measure => (simp [intOf]) <;> omega
set_option maxRecDepth 20000 in
set_option maxHeartbeats 1000000 in
theorem implNumeral_any (n : Int) (w : World) (hn : -9223372036854775808 ≤ n ∧ n ≤ 9223372036854775807) :
    Calls Tryd.prog 51 #[.int .i64 n] w fun e w' => e = .returned (.string ⟨(gr 61 n []).toArray⟩) ∧ Below w.heap.size w w' := by
  obtain ⟨i0, hi0, hz0, hz1, hz2⟩ := info_parts infoB
  obtain ⟨hn1, hn2⟩ := hn
  go_enter Tryd.func51, Tryd.ntmps51
  go_wp2_with (go_at_call 84; refine (implWeights_any 61 _ _ rfl (by omega) (by omega)).mono ?_; rintro e wA ⟨gw, cw, rfl, hgw1, hgw2, hwt, hb1⟩)
  have hz1' := hb1.size
  go_loopw [0, 4, 5] (fun nv b i wr => ∃ (k : Nat) (acc : List UInt8) (g cap : Nat) (n' : Int), k ≤ 61 ∧ i = .int .i64 ((k : Int) - 1) ∧ nv = .int .i64 n' ∧ b = .slice (some ⟨g, 0, none⟩) acc.length cap ∧ -9223372036854775808 ≤ n' ∧ n' ≤ 9223372036854775807 ∧ acc.length + k ≤ 61 ∧ Hid (gr k n' acc = gr 61 n []) ∧ wr.ownsRow wA.heap.size 5 1 (.slice (some ⟨g, 0, none⟩) acc.length cap) acc.length (bv acc) ∧ wA.heap.size ≤ wr.heap.size ∧ Below wA.heap.size wA wr) (fun _ _ i _ => (intOf i + 1).toNat)
  case atStart => exact ⟨61, [], wA.heap.size, 0, n, by omega, rfl, rfl, rfl, hn1, hn2, by simp, Lib.hid rfl, World.ownsRow_lit wA #[] 0 (Nat.le_refl _) (by decide) rfl, by ((try simp only [World.size_alloc, World.size_setCell, World.size_drew, size_drewN]); (try dsimp only); omega), by (repeat (first | with_reducible exact Below.refl _ _ | assumption | with_reducible refine Qdrew ?_ | with_reducible refine QdrewN ?_ | ((with_reducible refine Qset ?_ ?_); exact (by ((try simp only [World.size_alloc, World.size_setCell, World.size_drew, size_drewN]); (try dsimp only); omega))) | ((with_reducible refine Qalloc ?_ ?_); exact (by ((try simp only [World.size_alloc, World.size_setCell, World.size_drew, size_drewN]); (try dsimp only); omega))) | refine Qtrans (by assumption) (by ((try simp only [World.size_alloc, World.size_setCell, World.size_drew, size_drewN]); (try dsimp only); omega)) ?_))⟩
  case round =>
    obtain ⟨k, acc, g, cap, n', hk, rfl, rfl, rfl, h1, h2, hlen, heq, hown, hz, hbel⟩ := hrel
    cases k with
    | zero =>
      have hcv := own_string hown
      rw [show ((0 : Nat) : Int) - 1 = -1 from rfl]
      go_wp2
      go_ret
      refine ⟨?_, hb1.trans (hbel.mono hz1')⟩
      have := heq.out
      rw [← this]; rfl
    | succ q =>
      have hcell : wr.cell? ⟨gw, q, none⟩ = some (.int .i64 (wt q)) := (hbel.cell (by exact hgw2)).trans (hwt q (by omega))
      obtain ⟨b1, b2⟩ := wtB q (by omega)
      have hq0 : (0 : Int) ≤ (q : Int) := by omega
      have hq1 : (q : Int) < 61 := by omega
      rw [show ((q + 1 : Nat) : Int) - 1 = (q : Int) by omega]
      by_cases hle : wt q ≤ n'
      · have hs := Lib.hid (gr_yes (k := q) (acc := acc) hle)
        go_wp2_with (at_builtin; refine wpList_append_lies _ rfl _ _ _ rfl (wA.heap.size) 5 i0 _ 1 1 Tryd.underlying24 hi0 hz0 hz1 hz2 rfl (by decide) (_) (acc.length) (bv acc) (by rfl) (hown.alloc _) ⟨(wr).heap.size, 0, none⟩ 1 1 [.int .u8 49] (by rfl) (by rfl) (World.news_of_block (cs := #[.int .u8 49]) (t := 5) (fr := (0, 0)) (heap_alloc_new (wr) _)) (by simp [Value.oneCell']) (by omega) (by unfold maxLen; omega) (by omega) (by simp; omega) ((wr).heap.size + 1) (by simp) ?_; intro gg cap w1 hown1 hgrow hatg hltg)
        go_roundw
        case rel => exact ⟨q, acc ++ [49], gg, cap, n' - wt q, by omega, rfl, rfl, by rw [List.length_append]; rfl, by omega, by omega, by simp; omega, Lib.hid (by rw [← heq.out, hs.out]), by simpa [bv] using hown1, by have := size_app hgrow; omega, below_app hbel hz hown hgrow⟩
        case measure => (simp [intOf]) <;> omega
      · by_cases ha : acc = []
        · subst ha
          have hs := Lib.hid (gr_nil (k := q) hle)
          go_wp2
          go_roundw
          case rel => exact ⟨q, [], g, cap, n', by omega, rfl, rfl, rfl, by omega, by omega, by simp; omega, Lib.hid (by rw [← heq.out, hs.out]), hown, hz, hbel⟩
          case measure => (simp [intOf]) <;> omega
        · have hs := Lib.hid (gr_no (k := q) hle ha)
          have hpos : 0 < acc.length := List.length_pos_iff.2 ha
          have hpos' : (0 : Int) < (acc.length : Int) := by omega
          go_wp2_with (at_builtin; refine wpList_append_lies _ rfl _ _ _ rfl (wA.heap.size) 5 i0 _ 1 1 Tryd.underlying24 hi0 hz0 hz1 hz2 rfl (by decide) (_) (acc.length) (bv acc) (by rfl) (hown.alloc _) ⟨(wr).heap.size, 0, none⟩ 1 1 [.int .u8 48] (by rfl) (by rfl) (World.news_of_block (cs := #[.int .u8 48]) (t := 5) (fr := (0, 0)) (heap_alloc_new (wr) _)) (by simp [Value.oneCell']) (by omega) (by unfold maxLen; omega) (by omega) (by simp; omega) ((wr).heap.size + 1) (by simp) ?_; intro gg cap w1 hown1 hgrow hatg hltg)
          go_roundw
          case rel => exact ⟨q, acc ++ [48], gg, cap, n', by omega, rfl, rfl, by rw [List.length_append]; rfl, by omega, by omega, by simp; omega, Lib.hid (by rw [← heq.out, hs.out]), by simpa [bv] using hown1, by have := size_app hgrow; omega, below_app hbel hz hown hgrow⟩
          case measure => (simp [intOf]) <;> omega
end Go.Proofs.YtilbhingfnjppaaDoor

namespace Go.Proofs.YtilbhingfnjppaaDoor
open Go.RowKit
def ok2 (s : ByteArray) (j : Nat) : Prop := okAt s j ∧ (j = 0 → bt s 0 = 49)
theorem nok_no {s : ByteArray} {k : Nat} (hk : k < s.size) (h : ¬ ok2 s k) : nokB s = false := nokB_false (fun hn => h ⟨hn.2.2 k hk, fun _ => hn.2.1 (by omega)⟩)
theorem nok_yes {s : ByteArray} (h60 : s.size ≤ 60) (h : ∀ j, j < s.size → ok2 s j) : nokB s = true := nokB_true ⟨h60, fun h0 => (h 0 h0).2 rfl, fun j hj => (h j hj).1⟩
theorem ok_next {s : ByteArray} {k : Nat} (h : ∀ j, j < k → ok2 s j) (hk : ok2 s k) : ∀ j, j < k + 1 → ok2 s j := fun j hj => by
  by_cases e : j = k
  · subst e; exact hk
  · exact h j (by omega)
set_option maxRecDepth 20000 in
set_option maxHeartbeats 2000000 in
theorem implNumeralOk_any (s : ByteArray) (w : World) (hsz : s.size ≤ 9223372036854775807) :
    Calls Tryd.prog 39 #[.string s] w fun e w' => e = .returned (.bool (nokB s)) ∧ w = w' := by
  have hb : ∀ j (h : j < s.size), ((s[j]'h).toNat : Int) = bt s j := fun j h => bt_eq s j h
  all_goals
    go_enter Tryd.func39, Tryd.ntmps39
    go_wp2
    go_loopw [6] (fun i wr => ∃ k : Nat, k ≤ s.size ∧ i = .int .i64 k ∧ Hid (∀ j, j < k → ok2 s j) ∧ w = wr) (fun i _ => s.size - (intOf i).toNat)
    case atStart => exact ⟨0, by omega, rfl, Lib.hid (fun _ h => absurd h (by omega)), by first | rfl | trivial⟩
    case round =>
      obtain ⟨k, hk, rfl, hall, rfl⟩ := hrel
      by_cases hlt : k < s.size
      · have hlt' : (k : Int) < (s.size : Int) := by omega
        have hk0 : (0 : Int) ≤ (k : Int) := by omega
        by_cases h48 : bt s k = 48
        · cases k with
          | zero =>
            have hf := Lib.hid (nok_no hlt (fun h => by have := h.2 rfl; omega))
            go_wp2
            go_ret
            exact ⟨by rw [hf.out]; rfl, rfl⟩
          | succ q =>
            have hq0 : (0 : Int) ≤ (q : Int) := by omega
            have hok := Lib.hid (show ok2 s (q + 1) from ⟨⟨.inl h48, by omega⟩, fun h => by omega⟩)
            go_wp2
            all_goals
              go_roundw
              case rel => exact ⟨q + 1 + 1, by omega, by go_num, Lib.hid (ok_next hall.out hok.out), by first | rfl | trivial⟩
              case measure => (simp [intOf]) <;> omega
        · by_cases h49 : bt s k = 49
          · cases k with
            | zero =>
              have hok := Lib.hid (show ok2 s 0 from ⟨⟨.inr h49, by omega⟩, fun _ => h49⟩)
              go_wp2
              go_roundw
              case rel => exact ⟨1, by omega, rfl, Lib.hid (ok_next hall.out hok.out), by first | rfl | trivial⟩
              case measure => (simp [intOf]) <;> omega
            | succ q =>
              have hq : q < s.size := by omega
              have hq0 : (0 : Int) ≤ (q : Int) := by omega
              have hq1 : (q : Int) < (s.size : Int) := by omega
              by_cases hp : bt s q = 49
              · have hf := Lib.hid (nok_no hlt (fun h => h.1.2 ⟨by omega, h49, by simpa using hp⟩))
                go_wp2
                go_ret
                exact ⟨by rw [hf.out]; rfl, rfl⟩
              · have hok := Lib.hid (show ok2 s (q + 1) from ⟨⟨.inr h49, fun h => hp (by simpa using h.2.2)⟩, fun h => by omega⟩)
                go_wp2
                go_roundw
                case rel => exact ⟨q + 1 + 1, by omega, by go_num, Lib.hid (ok_next hall.out hok.out), by first | rfl | trivial⟩
                case measure => (simp [intOf]) <;> omega
          · have hf := Lib.hid (nok_no hlt (fun h => h.1.1.elim h48 h49))
            go_wp2
            go_ret
            exact ⟨by rw [hf.out]; rfl, rfl⟩
      · obtain rfl : k = s.size := by omega
        have hf : Hid (nokB s = decide ((s.size : Int) ≤ 60)) := by
          by_cases h60 : s.size ≤ 60
          · rw [decide_eq_true (by omega)]
            exact nok_yes h60 hall.out
          · rw [decide_eq_false (by omega)]; exact nokB_false (fun h => h60 h.1)
        go_wp2
        go_ret
        exact ⟨by rw [hf.out]; rfl, rfl⟩
end Go.Proofs.YtilbhingfnjppaaDoor

namespace Go.Proofs.YtilbhingfnjppaaDoor
open Go.RowKit
/-! ### Weights -/
def wv (i : Int) : Int := if inB i 0 59 then wt i.toNat else -1
set_option maxRecDepth 20000 in
set_option maxHeartbeats 400000 in
theorem implWeightOf_any (i : Int) (w : World) :
    Calls Tryd.prog 42 #[.int .i64 i] w fun e w' => e = .returned (.int .i64 (wv i)) ∧ Below w.heap.size w w' := by
  cases hin : inB i 0 59
  · go_enter Tryd.func42, Tryd.ntmps42
    go_wp2_with ((go_at_call 50; refine (within_any _ _ _ _).mono ?_; rintro e w1 ⟨rfl, rfl⟩))
    go_ret
    exact ⟨ret_int (by simp [wv, hin]), by (repeat (first | with_reducible exact Below.refl _ _ | assumption | with_reducible refine Qdrew ?_ | with_reducible refine QdrewN ?_ | ((with_reducible refine Qset ?_ ?_); exact (by ((try simp only [World.size_alloc, World.size_setCell, World.size_drew, size_drewN]); (try dsimp only); omega))) | ((with_reducible refine Qalloc ?_ ?_); exact (by ((try simp only [World.size_alloc, World.size_setCell, World.size_drew, size_drewN]); (try dsimp only); omega))) | refine Qtrans (by assumption) (by ((try simp only [World.size_alloc, World.size_setCell, World.size_drew, size_drewN]); (try dsimp only); omega)) ?_))⟩
  · have hi := inB_true.1 hin
    obtain ⟨k, rfl⟩ : ∃ k : Nat, i = (k : Int) := ⟨i.toNat, by omega⟩
    have hk : k ≤ 59 := by omega
    have hk0 : (0 : Int) ≤ (k : Int) := by omega
    have hk1 : (k : Int) < 60 := by omega
    have hk2 : (k : Int) < (k : Int) + 1 := by omega
    clear hi
    go_enter Tryd.func42, Tryd.ntmps42
    go_wp2_with (first | (go_at_call 50; refine (within_any _ _ _ _).mono ?_; rintro e w1 ⟨rfl, rfl⟩) | (go_at_call 84; refine (implWeights_any 60 _ _ (by omega) (by omega) (by omega)).mono ?_; rintro e wA ⟨g, cap, rfl, hg1, hg2, hwt, hb1⟩; have hcell := hwt k (by omega)))
    go_ret
    exact ⟨ret_int (by simp [wv, hin]), hb1⟩
/-! ### The test on numerals -/
theorem implNumeralOk_b (s : ByteArray) (w : World) (hs' : s.size ≤ 9223372036854775807) : Calls Tryd.prog 39 #[.string s] w fun e w' => e = .returned (.bool (nokB s)) ∧ Below w.heap.size w w' :=
  (implNumeralOk_any s w hs').mono fun e w' h => ⟨h.1, by rw [h.2]; exact Below.refl _ _⟩
/-! ### Numerals -/
def nm (b : Bool) (n : Int) : ByteArray := if b then num n else ⟨#[]⟩
set_option maxRecDepth 20000 in
set_option maxHeartbeats 400000 in
theorem l13Most_any (w : World) : Calls Tryd.prog 48 #[] w fun e w' => e = .returned (.int .i64 1000000000000) ∧ w = w' := by
  go_enter Tryd.func48, Tryd.ntmps48
  go_wp2
  go_ret
  exact ⟨rfl, rfl⟩
theorem implNumeral_lo (n : Int) (w : World) (h : -9223372036854775808 ≤ n ∧ n < 4052739537881) :
    Calls Tryd.prog 51 #[.int .i64 n] w fun e w' => e = .returned (.string (num n)) ∧ Below w.heap.size w w' :=
  (implNumeral_any n w ⟨h.1, by omega⟩).mono fun e w' q => ⟨q.1.trans (by rw [gr61_lo (by rw [wt60]; exact h.2)]; rfl), q.2⟩
set_option maxRecDepth 20000 in
set_option maxHeartbeats 400000 in
theorem implNumeralOf_any (n : Int) (w : World) :
    Calls Tryd.prog 38 #[.int .i64 n] w fun e w' => e = .returned (.string (nm (inB n 0 1000000000000) n)) ∧ Below w.heap.size w w' := by
  cases hin : inB n 0 1000000000000
  case' true => have hi := inB_true.1 hin
  all_goals
    go_enter Tryd.func38, Tryd.ntmps38
    go_wp2_with (first | (go_at_call 50; refine (within_any _ _ _ _).mono ?_; rintro e w1 ⟨rfl, rfl⟩) | (go_at_call 51; refine (implNumeral_lo _ _ (by omega)).mono ?_; rintro e w1 ⟨rfl, hb1⟩; have hz1 := hb1.size))
    go_ret
  · exact ⟨ret_str (by simp [nm, num]), by (repeat (first | with_reducible exact Below.refl _ _ | assumption | with_reducible refine Qdrew ?_ | with_reducible refine QdrewN ?_ | ((with_reducible refine Qset ?_ ?_); exact (by ((try simp only [World.size_alloc, World.size_setCell, World.size_drew, size_drewN]); (try dsimp only); omega))) | ((with_reducible refine Qalloc ?_ ?_); exact (by ((try simp only [World.size_alloc, World.size_setCell, World.size_drew, size_drewN]); (try dsimp only); omega))) | refine Qtrans (by assumption) (by ((try simp only [World.size_alloc, World.size_setCell, World.size_drew, size_drewN]); (try dsimp only); omega)) ?_))⟩
  · exact ⟨ret_str (by simp [nm, num]), by (repeat (first | with_reducible exact Below.refl _ _ | assumption | with_reducible refine Qdrew ?_ | with_reducible refine QdrewN ?_ | ((with_reducible refine Qset ?_ ?_); exact (by ((try simp only [World.size_alloc, World.size_setCell, World.size_drew, size_drewN]); (try dsimp only); omega))) | ((with_reducible refine Qalloc ?_ ?_); exact (by ((try simp only [World.size_alloc, World.size_setCell, World.size_drew, size_drewN]); (try dsimp only); omega))) | refine Qtrans (by assumption) (by ((try simp only [World.size_alloc, World.size_setCell, World.size_drew, size_drewN]); (try dsimp only); omega)) ?_))⟩
/-! ### Numbers -/
set_option maxRecDepth 20000 in
set_option maxHeartbeats 1000000 in
theorem implNumberOk_any (s : ByteArray) (w : World) (hsz : s.size ≤ 60) (hok : nokB s = true) :
    Calls Tryd.prog 40 #[.string s] w fun e w' => e = .returned (.int .i64 (smm s)) ∧ Below w.heap.size w w' := by
  have hb : ∀ j (h : j < s.size), ((s[j]'h).toNat : Int) = bt s j := fun j h => bt_eq s j h
  go_enter Tryd.func40, Tryd.ntmps40
  go_wp2_with (first | (go_at_call 39; refine (implNumeralOk_any _ _ (by omega)).mono ?_; rintro e w1 ⟨rfl, rfl⟩) | (go_at_call 84; refine (implWeights_any 60 _ _ rfl (by omega) (by omega)).mono ?_; rintro e wA ⟨gw, cw, rfl, hgw1, hgw2, hwt, hb1⟩))
  go_loopw [4, 12] (fun nv i wr => ∃ k : Nat, k ≤ s.size ∧ i = .int .i64 k ∧ nv = .int .i64 (sm s k) ∧ wA = wr) (fun _ i _ => s.size - (intOf i).toNat)
  case atStart => exact ⟨0, by omega, rfl, rfl, by first | rfl | trivial⟩
  case round =>
    obtain ⟨k, hk, rfl, rfl, rfl⟩ := hrel
    by_cases hlt : k < s.size
    · have hlt' : (k : Int) < (s.size : Int) := by omega
      have hk0 : (0 : Int) ≤ (k : Int) := by omega
      by_cases h49 : bt s k = 49
      · obtain ⟨r, hr⟩ : ∃ r : Nat, s.size - 1 - k = r := ⟨_, rfl⟩
        have hr1 : (s.size : Int) - 1 - (k : Int) = (r : Int) := by omega
        have hr0 : (0 : Int) ≤ (r : Int) := by omega
        have hr2 : (r : Int) < 60 := by omega
        have hr3 : r < 60 := by omega
        have hcell := hwt r hr3
        have hs := sm_yes h49
        rw [hr] at hs
        have hs' := Lib.hid hs
        have hr' := Lib.hid hr
        clear hs hr
        go_wp2
        go_roundw
        case rel => exact ⟨k + 1, by omega, by go_num, by rw [hs'.out], by first | rfl | trivial⟩
        case measure => (simp [intOf]) <;> omega
      · have hs' := Lib.hid (sm_no h49)
        go_wp2
        go_roundw
        case rel => exact ⟨k + 1, by omega, by go_num, by rw [hs'.out], by first | rfl | trivial⟩
        case measure => (simp [intOf]) <;> omega
    · obtain rfl : k = s.size := by omega
      go_wp2
      go_ret
      exact ⟨by simp [smm], hb1⟩
noncomputable def nv (s : ByteArray) : Int := if nokB s then smm s else -1
set_option maxRecDepth 20000 in
set_option maxHeartbeats 400000 in
theorem implNumberOf_any (s : ByteArray) (w : World) (hs' : s.size ≤ 9223372036854775807) :
    Calls Tryd.prog 40 #[.string s] w fun e w' => e = .returned (.int .i64 (nv s)) ∧ Below w.heap.size w w' := by
  cases hn : nokB s
  · go_enter Tryd.func40, Tryd.ntmps40
    go_wp2_with ((go_at_call 39; refine (implNumeralOk_any _ _ hs').mono ?_; rintro e w1 ⟨rfl, rfl⟩))
    go_ret
    exact ⟨ret_int (by simp [nv, hn]), by (repeat (first | with_reducible exact Below.refl _ _ | assumption | with_reducible refine Qdrew ?_ | with_reducible refine QdrewN ?_ | ((with_reducible refine Qset ?_ ?_); exact (by ((try simp only [World.size_alloc, World.size_setCell, World.size_drew, size_drewN]); (try dsimp only); omega))) | ((with_reducible refine Qalloc ?_ ?_); exact (by ((try simp only [World.size_alloc, World.size_setCell, World.size_drew, size_drewN]); (try dsimp only); omega))) | refine Qtrans (by assumption) (by ((try simp only [World.size_alloc, World.size_setCell, World.size_drew, size_drewN]); (try dsimp only); omega)) ?_))⟩
  · exact (implNumberOk_any s w (nok_of hn).1 hn).mono fun e w' h => ⟨h.1.trans (ret_int (by simp [nv, hn])), h.2⟩
/-! ### The shift -/
def shiftS (n : Int) : ByteArray := ⟨(gr 60 n [] ++ [48]).toArray⟩
def sh (n : Int) : Int := if inB n 0 1000000000 then smm (shiftS n) else -1
theorem shift_size (n : Int) : (shiftS n).size ≤ 61 := by have := gr_le 60 n; simp [shiftS, ByteArray.size]; omega
theorem shift_app (n : Int) : num n ++ (⟨#[48]⟩ : ByteArray) = shiftS n := by
  apply ByteArray.ext; simp [shiftS, num]
theorem shift_zero : smm (shiftS 0) = 0 := by
  have e : gr 60 0 [] = [] := by decide +kernel
  have hb : ¬ bt ⟨#[48]⟩ 0 = 49 := by decide
  unfold smm shiftS
  rw [e]
  show sm ⟨#[48]⟩ (0 + 1) = 0
  rw [sm_no hb]; rfl
theorem shift_run (n : Int) (w : World) : (Op.stringOp .add (num n) ⟨#[48]⟩).run Tryd.prog w = .ok (.string (shiftS n)) w := by
  have h := num_size n
  rw [run_string_add_sum w _ _ (by have e : (⟨#[48]⟩ : ByteArray).size = 1 := rfl; omega), shift_app]
theorem specNumeral_n (n : Int) (w : World) (hn : -9223372036854775808 ≤ n ∧ n ≤ 9223372036854775807) :
    Calls Tryd.prog 49 #[.int .i64 n] w fun e w' => e = .returned (.string (num n)) ∧ Below w.heap.size w w' := specNumeral_any n w hn
set_option maxRecDepth 20000 in
set_option maxHeartbeats 400000 in
theorem implShift_any (n : Int) (w : World) :
    Calls Tryd.prog 45 #[.int .i64 n] w fun e w' => e = .returned (.int .i64 (sh n)) ∧ Below w.heap.size w w' := by
  cases hin : inB n 0 1000000000
  · go_enter Tryd.func45, Tryd.ntmps45
    go_wp2_with ((go_at_call 50; refine (within_any _ _ _ _).mono ?_; rintro e w1 ⟨rfl, rfl⟩))
    go_ret
    exact ⟨ret_int (by simp [sh, hin]), by (repeat (first | with_reducible exact Below.refl _ _ | assumption | with_reducible refine Qdrew ?_ | with_reducible refine QdrewN ?_ | ((with_reducible refine Qset ?_ ?_); exact (by ((try simp only [World.size_alloc, World.size_setCell, World.size_drew, size_drewN]); (try dsimp only); omega))) | ((with_reducible refine Qalloc ?_ ?_); exact (by ((try simp only [World.size_alloc, World.size_setCell, World.size_drew, size_drewN]); (try dsimp only); omega))) | refine Qtrans (by assumption) (by ((try simp only [World.size_alloc, World.size_setCell, World.size_drew, size_drewN]); (try dsimp only); omega)) ?_))⟩
  · by_cases h0 : n = 0
    · subst h0
      go_enter Tryd.func45, Tryd.ntmps45
      go_wp2_with ((go_at_call 50; refine (within_any _ _ _ _).mono ?_; rintro e w1 ⟨rfl, rfl⟩))
      go_ret
      exact ⟨ret_int (by simp only [sh]; rw [if_pos hin, shift_zero]), by (repeat (first | with_reducible exact Below.refl _ _ | assumption | with_reducible refine Qdrew ?_ | with_reducible refine QdrewN ?_ | ((with_reducible refine Qset ?_ ?_); exact (by ((try simp only [World.size_alloc, World.size_setCell, World.size_drew, size_drewN]); (try dsimp only); omega))) | ((with_reducible refine Qalloc ?_ ?_); exact (by ((try simp only [World.size_alloc, World.size_setCell, World.size_drew, size_drewN]); (try dsimp only); omega))) | refine Qtrans (by assumption) (by ((try simp only [World.size_alloc, World.size_setCell, World.size_drew, size_drewN]); (try dsimp only); omega)) ?_))⟩
    · have hi := inB_true.1 hin
      have hrun := fun w => shift_run n w
      have hok := Lib.hid (nok_shift (n := n) (by omega) hi.2)
      go_enter Tryd.func45, Tryd.ntmps45
      go_wp2_with (first | (go_at_call 50; refine (within_any _ _ _ _).mono ?_; rintro e w1 ⟨rfl, rfl⟩) | (go_at_call 51; refine (implNumeral_lo _ _ (by omega)).mono ?_; rintro e w1 ⟨rfl, hb1⟩; have hz1 := hb1.size) | (go_at_call 40; refine (implNumberOk_any _ _ hok.out.1 (nokB_true hok.out)).mono ?_; rintro e w2 ⟨rfl, hb2⟩))
      go_ret
      exact ⟨ret_int (by simp [sh, hin, shiftS]), by (repeat (first | with_reducible exact Below.refl _ _ | assumption | with_reducible refine Qdrew ?_ | with_reducible refine QdrewN ?_ | ((with_reducible refine Qset ?_ ?_); exact (by ((try simp only [World.size_alloc, World.size_setCell, World.size_drew, size_drewN]); (try dsimp only); omega))) | ((with_reducible refine Qalloc ?_ ?_); exact (by ((try simp only [World.size_alloc, World.size_setCell, World.size_drew, size_drewN]); (try dsimp only); omega))) | refine Qtrans (by assumption) (by ((try simp only [World.size_alloc, World.size_setCell, World.size_drew, size_drewN]); (try dsimp only); omega)) ?_))⟩
/-! ### The next numeral -/
def nx (m : Int) : ByteArray := if m < wt 60 then num m else ⟨#[]⟩
noncomputable def nxt (s : ByteArray) : ByteArray := if nokB s then nx (wrap64 (smm s + 1)) else ⟨#[]⟩
theorem nx_no {m : Int} (h : ¬ m < wt 60) : nx m = ⟨#[]⟩ := by simp only [nx]; rw [if_neg h]
theorem nx_yes {m : Int} (h : m < wt 60) : nx m = num m := by simp only [nx]; rw [if_pos h]
theorem big_size {n : Int} (h : ¬ n < wt 60) : (⟨(gr 61 n []).toArray⟩ : ByteArray).size = 61 := by
  have := gr61_hi (n := n) (by omega); simpa [ByteArray.size] using this
theorem wrap_range (z : Int) : -9223372036854775808 ≤ wrap64 z ∧ wrap64 z ≤ 9223372036854775807 := by unfold wrap64; omega
set_option maxRecDepth 20000 in
set_option maxHeartbeats 400000 in
theorem implNext_any (s : ByteArray) (w : World) (hs' : s.size ≤ 9223372036854775807) :
    Calls Tryd.prog 41 #[.string s] w fun e w' => e = .returned (.string (nxt s)) ∧ Below w.heap.size w w' := by
  cases hn : nokB s
  · go_enter Tryd.func41, Tryd.ntmps41
    go_wp2_with ((go_at_call 39; refine (implNumeralOk_any _ _ hs').mono ?_; rintro e w1 ⟨rfl, rfl⟩))
    go_ret
    exact ⟨ret_str (by simp [nxt, hn]), by (repeat (first | with_reducible exact Below.refl _ _ | assumption | with_reducible refine Qdrew ?_ | with_reducible refine QdrewN ?_ | ((with_reducible refine Qset ?_ ?_); exact (by ((try simp only [World.size_alloc, World.size_setCell, World.size_drew, size_drewN]); (try dsimp only); omega))) | ((with_reducible refine Qalloc ?_ ?_); exact (by ((try simp only [World.size_alloc, World.size_setCell, World.size_drew, size_drewN]); (try dsimp only); omega))) | refine Qtrans (by assumption) (by ((try simp only [World.size_alloc, World.size_setCell, World.size_drew, size_drewN]); (try dsimp only); omega)) ?_))⟩
  · have h60 := (nok_of hn).1
    obtain ⟨m, hm⟩ : ∃ m, wrap64 (smm s + 1) = m := ⟨_, rfl⟩
    have hr := wrap_range (smm s + 1)
    rw [hm] at hr
    obtain ⟨hr1, hr2⟩ := hr
    by_cases hlt : m < wt 60
    · have hsz := num_size m
      have hlt' : m < 4052739537881 := by rw [wt60] at hlt; exact hlt
      have hc : ¬ (60 : Int) < ((num m).size : Int) := by omega
      go_enter Tryd.func41, Tryd.ntmps41
      go_wp2_with (first | (go_at_call 39; refine (implNumeralOk_any _ _ hs').mono ?_; rintro e w1 ⟨rfl, rfl⟩) | (go_at_call 40; refine (implNumberOk_any _ _ (by omega) hn).mono ?_; rintro e w1 ⟨rfl, hb1⟩; have hz1 := hb1.size) | (go_at_call 51; refine (implNumeral_lo _ _ (by omega)).mono ?_; rintro e w4 ⟨rfl, hb4⟩))
      go_ret
      exact ⟨ret_str (by simp [nxt, nx, hn, hm, hlt]), by (repeat (first | with_reducible exact Below.refl _ _ | assumption | with_reducible refine Qdrew ?_ | with_reducible refine QdrewN ?_ | ((with_reducible refine Qset ?_ ?_); exact (by ((try simp only [World.size_alloc, World.size_setCell, World.size_drew, size_drewN]); (try dsimp only); omega))) | ((with_reducible refine Qalloc ?_ ?_); exact (by ((try simp only [World.size_alloc, World.size_setCell, World.size_drew, size_drewN]); (try dsimp only); omega))) | refine Qtrans (by assumption) (by ((try simp only [World.size_alloc, World.size_setCell, World.size_drew, size_drewN]); (try dsimp only); omega)) ?_))⟩
    · have hsz := big_size hlt
      have hnx := Lib.hid (nx_no hlt)
      go_enter Tryd.func41, Tryd.ntmps41
      go_wp2_with (first | (go_at_call 39; refine (implNumeralOk_any _ _ hs').mono ?_; rintro e w1 ⟨rfl, rfl⟩) | (go_at_call 40; refine (implNumberOk_any _ _ (by omega) hn).mono ?_; rintro e w1 ⟨rfl, hb1⟩; have hz1 := hb1.size) | (go_at_call 51; refine (implNumeral_any _ _ (by omega)).mono ?_; rintro e w4 ⟨rfl, hb4⟩))
      go_ret
      exact ⟨ret_str (by simp [nxt, hn, hm, hnx.out]), by (repeat (first | with_reducible exact Below.refl _ _ | assumption | with_reducible refine Qdrew ?_ | with_reducible refine QdrewN ?_ | ((with_reducible refine Qset ?_ ?_); exact (by ((try simp only [World.size_alloc, World.size_setCell, World.size_drew, size_drewN]); (try dsimp only); omega))) | ((with_reducible refine Qalloc ?_ ?_); exact (by ((try simp only [World.size_alloc, World.size_setCell, World.size_drew, size_drewN]); (try dsimp only); omega))) | refine Qtrans (by assumption) (by ((try simp only [World.size_alloc, World.size_setCell, World.size_drew, size_drewN]); (try dsimp only); omega)) ?_))⟩
end Go.Proofs.YtilbhingfnjppaaDoor

namespace Go.Proofs.YtilbhingfnjppaaDoor
open Go.RowKit
def inn (v : Nat) : Nat → List Int → List Int
  | 0, xs => xs
  | x + 1, xs => if v ≤ x + 1 then inn v x (xs.set (x + 1) (wrap64 (xs.getD (x + 1) 0 + xs.getD (x + 1 - v) 0))) else xs
theorem inn_yes {v x : Nat} {xs : List Int} (h : v ≤ x + 1) : inn v (x + 1) xs = inn v x (xs.set (x + 1) (wrap64 (xs.getD (x + 1) 0 + xs.getD (x + 1 - v) 0))) := by simp [inn, h]
theorem inn_no {v x : Nat} {xs : List Int} (h : ¬ v ≤ x) : inn v x xs = xs := by
  cases x with
  | zero => rfl
  | succ x => simp [inn, h]
theorem inn_len (v : Nat) : ∀ (x : Nat) (xs : List Int), (inn v x xs).length = xs.length
  | 0, _ => rfl
  | x + 1, xs => by
    by_cases h : v ≤ x + 1
    · rw [inn_yes h, inn_len v x]; simp
    · rw [inn_no h]
def wn (m : Nat) : Nat := (wt m).toNat
theorem wn_eq (m : Nat) : ((wn m : Nat) : Int) = wt m := by have := (wt_pos m).1; unfold wn; omega
def outer (n : Nat) : Nat → List Int
  | 0 => 1 :: List.replicate n 0
  | m + 1 => inn (wn m) n (outer n m)
theorem outer_len (n : Nat) : ∀ m, (outer n m).length = n + 1
  | 0 => by simp [outer]
  | m + 1 => by rw [outer, inn_len]; exact outer_len n m
theorem outer_more (n m : Nat) (hn : n ≤ 1000) (hm : 16 ≤ m) : outer n (m + 1) = outer n m := by
  have h1 := wt_mono hm
  have h2 : wt 16 = 2584 := by decide +kernel
  have h3 := wn_eq m
  rw [outer, inn_no (by omega)]
theorem outer20 (n : Nat) (hn : n ≤ 1000) : outer n 20 = outer n 16 := by
  rw [outer_more n 19 hn (by omega), outer_more n 18 hn (by omega), outer_more n 17 hn (by omega), outer_more n 16 hn (by omega)]
theorem wtAt_set {w : World} {gw g K o : Nat} {u : Value} (h : WtAt w gw K) (hne : gw ≠ g) : WtAt (w.setCell ⟨g, o, none⟩ u) gw K := fun j hj => (cset hne).trans (h j hj)
theorem wtAt_drew {w : World} {gw K : Nat} (h : WtAt w gw K) : WtAt w.drew gw K := h
theorem init_row (n : Nat) : ((madeCells (Value.int .i64 0).cells ((n + 1) * 1)).toList.set 0 (.int .i64 1)) = iv (outer n 0) := by
  show ((madeCells #[Value.int .i64 0] ((n + 1) * 1)).toList.set 0 (.int .i64 1)) = _
  rw [iv_zeros, iv_set]; rfl
theorem made_at (n : Nat) : (madeCells (Value.int .i64 0).cells ((n + 1) * 1)).toList[0]? = some (.int .i64 0) := by
  show (madeCells #[Value.int .i64 0] ((n + 1) * 1)).toList[0]? = _
  rw [iv_zeros]; rfl
set_option maxRecDepth 20000 in
set_option maxHeartbeats 4000000 in
theorem implWays_ok (n : Nat) (w : World) (hn : n ≤ 1000) (hin : inB (n : Int) 0 1000 = true) :
    Calls Tryd.prog 46 #[.int .i64 n] w fun e w' => e = .returned (.int .i64 ((outer n 20).getD n 0)) ∧ Below w.heap.size w w' := by
  obtain ⟨i0, hi0, hz0, hz1, hz2⟩ := info_parts infoI
  have hn0 : (0 : Int) ≤ (n : Int) := by omega
  have hn1 : (0 : Int) < (n : Int) + 1 := by omega
  have hn2 : (n : Int) < (n : Int) + 1 := by omega
  go_enter Tryd.func46, Tryd.ntmps46
  go_wp2_with (first | (go_at_call 50; refine (within_any _ _ _ _).mono ?_; rintro e w1 ⟨rfl, rfl⟩) | (at_make; refine wpList_make_full _ rfl _ _ 75 rfl w.heap.size 3 i0 _ 1 Tryd.underlying75 hi0 hz0 hz1 .i64 .i64 _ _ (n + 1) (by rfl) (by rfl) (by omega) (by omega) (by rw [hz2]; omega) (by unfold maxLen; omega) (by omega) ?_; intro wM hownM hgM; have hcM := (own_cell hownM 0 (by omega)).trans (made_at n); have hfM := hownM.frozenAt) | (go_at_call 84; refine (implWeights_any 20 _ _ rfl (by omega) (by omega)).mono ?_; rintro e wA ⟨gw, cw, rfl, hgw1, hgw2, hwt, hb1⟩))
  have hzM := (hownM.lt w.heap.size rfl).2
  have hownA := own_below (hownM.stored 0 (.int .i64 1)).1 hb1
  rw [init_row] at hownA
  have hbA : Below w.heap.size w wA := Qtrans hb1 (by simp; omega) (((Below.refl _ w).grown hgM (by omega) (by simp)).setCell (by simp) _)
  have hgA := hownA.lt w.heap.size rfl
  have hne : gw ≠ w.heap.size := by simp at hgw1; omega
  clear hownM hcM hfM hb1 hgM
  go_loopw [17] (fun i wr => ∃ m : Nat, m ≤ 20 ∧ i = .int .i64 m ∧ wr.ownsRow w.heap.size 3 1 (.slice (some ⟨w.heap.size, 0, none⟩) (n + 1) (n + 1)) (n + 1) (iv (outer n m)) ∧ WtAt wr gw 20 ∧ Below w.heap.size w wr) (fun i _ => 20 - (intOf i).toNat)
  case atStart => exact ⟨0, by omega, rfl, hownA, hwt, hbA⟩
  case round =>
    obtain ⟨m, hm, rfl, hown, hwr, hbel⟩ := hrel
    by_cases hlt : m < 20
    · have hcw := hwr m hlt
      rw [← wn_eq] at hcw
      have hv0 : (0 : Int) < ((wn m : Nat) : Int) := by rw [wn_eq]; exact (wt_pos m).1
      have hm0 : (0 : Int) ≤ (m : Int) := by omega
      have hm1 : (m : Int) < 20 := by omega
      go_wp2
      obtain ⟨v, hv⟩ : ∃ v, wn m = v := ⟨_, rfl⟩
      rw [hv] at hv0 hcw ⊢
      have hou : outer n (m + 1) = inn v n (outer n m) := by rw [← hv]; rfl
      have hou' := Lib.hid hou
      have hv' := Lib.hid hv
      have hol := Lib.hid (outer_len n m)
      clear hou hv
      go_loopw [6] (fun x wr => ∃ (q : Nat) (xs : List Int), q ≤ n ∧ x = .int .i64 q ∧ Hid (inn v q xs = outer n (m + 1)) ∧ xs.length = n + 1 ∧ wr.ownsRow w.heap.size 3 1 (.slice (some ⟨w.heap.size, 0, none⟩) (n + 1) (n + 1)) (n + 1) (iv xs) ∧ WtAt wr gw 20 ∧ Below w.heap.size w wr) (fun x _ => (intOf x + 1).toNat)
      case atStart => exact ⟨n, outer n m, by omega, rfl, Lib.hid hou'.out.symm, hol.out, hown, hwr, hbel⟩
      case round =>
        clear hcw hown hwr hbel
        obtain ⟨q, xs, hq, rfl, heq, hlen, hown, hwr, hbel⟩ := hrel
        by_cases hvq : v ≤ q
        · obtain ⟨p, rfl⟩ : ∃ p, q = p + 1 := ⟨q - 1, by omega⟩
          obtain ⟨d, hd⟩ : ∃ d, p + 1 - v = d := ⟨_, rfl⟩
          have hd1 : IntKind.i64.wrap ((p : Int) + 1 - (v : Int)) = (d : Int) := by rw [IntWalk.i64_left, IntWalk.wrap64_in] <;> omega
          have hd2 : d < n + 1 := by omega
          have hd3 : (0 : Int) ≤ (d : Int) := by omega
          have hd4 : (d : Int) < (n : Int) + 1 := by omega
          have hp0 : (0 : Int) ≤ (p : Int) + 1 := by omega
          have hp1 : (p : Int) + 1 < (n : Int) + 1 := by omega
          have hc1 : wr.cell? ⟨w.heap.size, p + 1, none⟩ = some (.int .i64 (xs.getD (p + 1) 0)) := by rw [own_cell hown (p + 1) (by omega), iv_at _ _ (by omega)]
          have hc2 : wr.cell? ⟨w.heap.size, d, none⟩ = some (.int .i64 (xs.getD d 0)) := by rw [own_cell hown d (by omega), iv_at _ _ (by omega)]
          have hfz := hown.frozenAt
          have hs := inn_yes (x := p) (xs := xs) hvq
          rw [hd] at hs
          obtain ⟨y1, hy1⟩ : ∃ y, xs.getD (p + 1) 0 = y := ⟨_, rfl⟩
          obtain ⟨y2, hy2⟩ : ∃ y, xs.getD d 0 = y := ⟨_, rfl⟩
          rw [hy1, hy2] at hs
          rw [hy1] at hc1
          rw [hy2] at hc2
          have hs' := Lib.hid hs
          have hd' := Lib.hid hd
          clear hs hd hy1 hy2
          go_wp2_with fail
          go_region
          go_wp2
          go_roundw
          case rel => exact ⟨p, xs.set (p + 1) (wrap64 (y1 + y2)), by omega, rfl, Lib.hid (by rw [← heq.out, hs'.out]), by simpa using hlen, by rw [← iv_set]; exact ((hown.stored (p + 1) _).1).drew, wtAt_drew (wtAt_set hwr hne), (hbel.setCell (by simp) _).drew⟩
          case measure => (simp [intOf]) <;> omega
        · have hs' := Lib.hid (inn_no (xs := xs) hvq)
          have hvq' : ¬ (v : Int) ≤ (q : Int) := by omega
          go_wp2
          go_roundw
          case rel => exact ⟨m + 1, by omega, by go_num, by rw [← heq.out, hs'.out]; exact hown, hwr, hbel⟩
          case measure => (simp [intOf]) <;> omega
    · obtain rfl : m = 20 := by omega
      have hc1 : wr.cell? ⟨w.heap.size, n, none⟩ = some (.int .i64 ((outer n 20).getD n 0)) := by rw [own_cell hown n (by omega), iv_at _ _ (by rw [outer_len]; omega)]
      obtain ⟨y1, hy1⟩ : ∃ y, (outer n 20).getD n 0 = y := ⟨_, rfl⟩
      rw [hy1] at hc1
      have hy' := Lib.hid hy1
      clear hy1
      go_wp2
      go_ret
      exact ⟨ret_int hy'.out.symm, hbel⟩
def wy (n : Int) : Int := if inB n 0 1000 then (outer n.toNat 16).getD n.toNat 0 else -1
set_option maxRecDepth 20000 in
set_option maxHeartbeats 400000 in
theorem implWays_any (n : Int) (w : World) :
    Calls Tryd.prog 46 #[.int .i64 n] w fun e w' => e = .returned (.int .i64 (wy n)) ∧ Below w.heap.size w w' := by
  cases hin : inB n 0 1000
  · go_enter Tryd.func46, Tryd.ntmps46
    go_wp2_with ((go_at_call 50; refine (within_any _ _ _ _).mono ?_; rintro e w1 ⟨rfl, rfl⟩))
    go_ret
    exact ⟨ret_int (by simp [wy, hin]), by (repeat (first | with_reducible exact Below.refl _ _ | assumption | with_reducible refine Qdrew ?_ | with_reducible refine QdrewN ?_ | ((with_reducible refine Qset ?_ ?_); exact (by ((try simp only [World.size_alloc, World.size_setCell, World.size_drew, size_drewN]); (try dsimp only); omega))) | ((with_reducible refine Qalloc ?_ ?_); exact (by ((try simp only [World.size_alloc, World.size_setCell, World.size_drew, size_drewN]); (try dsimp only); omega))) | refine Qtrans (by assumption) (by ((try simp only [World.size_alloc, World.size_setCell, World.size_drew, size_drewN]); (try dsimp only); omega)) ?_))⟩
  · have hi := inB_true.1 hin
    obtain ⟨k, rfl⟩ : ∃ k : Nat, n = (k : Int) := ⟨n.toNat, by omega⟩
    refine (implWays_ok k w (by omega) hin).mono fun e w' h => ⟨h.1.trans (ret_int ?_), h.2⟩
    simp only [wy, hin, Int.toNat_natCast, if_true]
    rw [outer20 k (by omega)]
end Go.Proofs.YtilbhingfnjppaaDoor

namespace Go.Proofs.YtilbhingfnjppaaDoor
open Go.RowKit
/-- How many zeros end the first m bytes. -/
def tzr (s : ByteArray) : Nat → Nat
  | 0 => 0
  | m + 1 => if bt s m = 48 then tzr s m + 1 else 0
theorem tzr_yes {s : ByteArray} {m : Nat} (h : bt s m = 48) : tzr s (m + 1) = tzr s m + 1 := by simp [tzr, h]
theorem tzr_no {s : ByteArray} {m : Nat} (h : ¬ bt s m = 48) : tzr s (m + 1) = 0 := by simp [tzr, h]
theorem tzr_le (s : ByteArray) : ∀ m, tzr s m ≤ m
  | 0 => by simp [tzr]
  | m + 1 => by
    by_cases h : bt s m = 48
    · rw [tzr_yes h]; have := tzr_le s m; omega
    · rw [tzr_no h]; omega
theorem gr_ne : ∀ (k : Nat) (n : Int), 1 ≤ n → n < wt k → gr k n [] ≠ []
  | 0, n, h, h2 => by rw [wt0] at h2; omega
  | k + 1, n, h, h2 => by
    by_cases hle : wt k ≤ n
    · rw [gr_yes hle]
      intro e
      have := gr_len k (n - wt k) ([] ++ [49]) (by simp)
      rw [e] at this
      simp at this
    · rw [gr_nil hle]
      exact gr_ne k n h (by omega)
/-- A numeral of a number from 1 on: not empty, its first byte is a one. -/
theorem num_first {n : Int} (h1 : 1 ≤ n) (h2 : n < wt 60) : 0 < (num n).size ∧ bt (num n) 0 = 49 := by
  have hne := gr_ne 60 n h1 h2
  have hg := gr_gd 60 n [] gd_nil (by omega) h2 (fun h => absurd rfl h)
  have hp : 0 < (gr 60 n []).length := List.length_pos_iff.2 hne
  refine ⟨by simpa [num, ByteArray.size] using hp, ?_⟩
  rw [num, bt_list _ 0 hp, hg.2.2 hp]
  rfl
noncomputable def en (n : Int) : Int := if inB n 1 1000000000000 then ((tzr (num n) (num n).size : Nat) : Int) else -1
theorem bt_ext {s : ByteArray} {m j : Nat} (hm : m ≤ s.size) (hj : j < m) : bt (s.extract 0 m) j = bt s j := by
  have h1 : j < (s.extract 0 m).size := by simp; omega
  unfold bt
  rw [dif_pos h1, dif_pos (by omega)]
  simp [ByteArray.getElem_extract]
theorem ext_ext {s : ByteArray} {m k : Nat} (h : k ≤ m) : (s.extract 0 m).extract 0 k = s.extract 0 k := by
  apply ByteArray.ext
  simp [ByteArray.data_extract, Array.extract_extract]
  congr 1; omega
set_option maxRecDepth 20000 in
set_option maxHeartbeats 1000000 in
theorem trimByte_any (s : ByteArray) (w : World) (hs : s.size ≤ 1000) :
    Calls Tryd.prog 87 #[.string s, .int .u8 48] w fun e w' => e = .returned (.string (s.extract 0 (s.size - tzr s s.size))) ∧ w = w' := by
  have h0 : s.extract 0 s.size = s := by apply ByteArray.ext; simp
  go_enter Tryd.func87, Tryd.ntmps87
  go_wp2
  go_loopw [0] (fun v wr => ∃ m : Nat, m ≤ s.size ∧ v = .string (s.extract 0 m) ∧ Hid (m - tzr s m = s.size - tzr s s.size) ∧ w = wr) (fun v _ => match v with | .string x => x.size | _ => 0)
  case atStart => exact ⟨s.size, Nat.le_refl _, by rw [h0], Lib.hid rfl, by first | rfl | trivial⟩
  case round =>
    obtain ⟨m, hm, rfl, heq, rfl⟩ := hrel
    have hsz : (s.extract 0 m).size = m := by simp; omega
    have hbe := Lib.hid (fun j (hj : j < m) => bt_ext hm hj)
    have hee := Lib.hid (fun k (hk : k ≤ m) => ext_ext (s := s) hk)
    obtain ⟨v, hv⟩ : ∃ v, s.extract 0 m = v := ⟨_, rfl⟩
    rw [hv] at hsz hbe hee
    have hb : ∀ j (h : j < v.size), ((v[j]'h).toNat : Int) = bt v j := fun j h => bt_eq v j h
    have hv' := Lib.hid hv
    rw [hv]
    clear hv h0
    cases m with
    | zero =>
      have hs0 : ¬ (0 : Int) < (v.size : Int) := by omega
      go_wp2
      go_ret
      exact ⟨by rw [← hv'.out, ← heq.out]; simp, rfl⟩
    | succ q =>
      have hs0 : (0 : Int) < (v.size : Int) := by omega
      have hs1 : (v.size : Int) - 1 = (q : Int) := by omega
      have hq0 : (0 : Int) ≤ (q : Int) := by omega
      have hq1 : (q : Int) < (v.size : Int) := by omega
      have hqv : q < v.size := by omega
      have hqe : q ≤ v.size := by omega
      have hbq := hbe.out q (by omega)
      have i8 : IntKind.i64.wrap (q : Int) = (q : Int) := IntWalk.i64_in _ (by omega)
      by_cases h48 : bt s q = 48
      · rw [h48] at hbq
        go_wp2
        exact ⟨⟨q, by omega, by rw [hee.out q (by omega)], Lib.hid (by rw [← heq.out, tzr_yes h48]; omega), trivial⟩, by simp; omega⟩
      · have h48' : ¬ bt v q = 48 := by rw [hbq]; exact h48
        have hz := Lib.hid (tzr_no h48)
        go_wp2
        go_ret
        exact ⟨by rw [← hv'.out, ← heq.out, hz.out]; rfl, rfl⟩
set_option maxRecDepth 20000 in
theorem trimRight_any (s : ByteArray) (w : World) (hs : s.size ≤ 1000) (h0 : 0 < s.size) :
    Calls Tryd.prog 52 #[.string s, .string ⟨#[48]⟩] w fun e w' => e = .returned (.string (s.extract 0 (s.size - tzr s s.size))) ∧ w = w' := by
  have hl : s.toList ≠ [] := fun e => by
    have : s.size = 0 := by
      have h := congrArg List.length e
      rw [ByteArray.toList_eq] at h; simpa using h
    omega
  have hne : (s.toList == (⟨#[]⟩ : ByteArray).toList) = false := by rw [ByteArray.toList_eq ⟨#[]⟩]; simpa using hl
  have hne2 : (s.toList == []) = false := by simpa using hl
  go_enter Tryd.func52, Tryd.ntmps52
  go_wp2_with (go_at_call 87; refine (trimByte_any s w hs).mono ?_; rintro e w1 ⟨rfl, rfl⟩)
  go_ret
  exact ⟨rfl, rfl⟩
set_option maxRecDepth 20000 in
set_option maxHeartbeats 1000000 in
theorem implEnding_any (n : Int) (w : World) :
    Calls Tryd.prog 8 #[.int .i64 n] w fun e w' => e = .returned (.int .i64 (en n)) ∧ Below w.heap.size w w' := by
  have hI := fun w => within_any n 1 1000000000000 w
  cases hN : inB n 1 1000000000000
  · have he : Hid (en n = -1) := by show _ = _; simp [en, hN]
    rw [hN] at hI
    go_enter Tryd.func8, Tryd.ntmps8
    go_wp2_with (go_at_call 50; refine (hI _).mono ?_; rintro e w1 ⟨rfl, rfl⟩)
    go_ret
    exact ⟨by rw [he.out]; rfl, by (repeat (first | with_reducible exact Below.refl _ _ | assumption | with_reducible refine Qdrew ?_ | with_reducible refine QdrewN ?_ | ((with_reducible refine Qset ?_ ?_); exact (by ((try simp only [World.size_alloc, World.size_setCell, World.size_drew, size_drewN]); (try dsimp only); omega))) | ((with_reducible refine Qalloc ?_ ?_); exact (by ((try simp only [World.size_alloc, World.size_setCell, World.size_drew, size_drewN]); (try dsimp only); omega))) | refine Qtrans (by assumption) (by ((try simp only [World.size_alloc, World.size_setCell, World.size_drew, size_drewN]); (try dsimp only); omega)) ?_))⟩
  · have hb := inB_true.1 hN
    have he : Hid (en n = ((tzr (num n) (num n).size : Nat) : Int)) := by show _ = _; simp [en, hN]
    have h60 : n < wt 60 := by rw [wt60]; omega
    obtain ⟨hp, _⟩ := num_first hb.1 h60
    have hsz := num_size n
    have hM := fun w => implNumeral_lo n w ⟨by omega, by rw [← wt60]; exact h60⟩
    have hT := fun w => trimRight_any (num n) w (by omega) hp
    have htz := tzr_le (num n) (num n).size
    rw [hN] at hI
    obtain ⟨s, hs⟩ : ∃ s, num n = s := ⟨_, rfl⟩
    rw [hs] at hM hT hp hsz he htz
    obtain ⟨z, hz⟩ : ∃ z, tzr s s.size = z := ⟨_, rfl⟩
    rw [hz] at hT he htz
    have hxs : (s.extract 0 (s.size - z)).size = s.size - z := by simp
    have hres : (s.size : Int) - ((s.size - z : Nat) : Int) = (z : Int) := by omega
    have hi : IntKind.i64.wrap (z : Int) = (z : Int) := IntWalk.i64_in _ (by omega)
    clear hs hz
    go_enter Tryd.func8, Tryd.ntmps8
    go_wp2_with (first | (go_at_call 50; refine (hI _).mono ?_; rintro e w1 ⟨rfl, rfl⟩) | (go_at_call 51; refine (hM _).mono ?_; rintro e w1 ⟨rfl, hb1⟩; have hz1 := hb1.size) | (go_at_call 52; refine (hT _).mono ?_; rintro e w1 ⟨rfl, rfl⟩))
    go_ret
    exact ⟨by rw [he.out]; rfl, hb1⟩
set_option maxRecDepth 20000 in
set_option maxHeartbeats 1000000 in
theorem specEnding_any (n : Int) (w : World) :
    Calls Tryd.prog 7 #[.int .i64 n] w fun e w' => e = .returned (.int .i64 (en n)) ∧ Below w.heap.size w w' := by
  have hI := fun w => l01In_any n 1 1000000000000 w
  cases hN : inB n 1 1000000000000
  · have he : Hid (en n = -1) := by show _ = _; simp [en, hN]
    rw [hN] at hI
    go_enter Tryd.func7, Tryd.ntmps7
    go_wp2_with (first | (go_at_call 48; refine (l13Most_any _).mono ?_; rintro e w1 ⟨rfl, rfl⟩) | (go_at_call 47; refine (hI _).mono ?_; rintro e w1 ⟨rfl, rfl⟩))
    go_ret
    exact ⟨by rw [he.out]; rfl, by (repeat (first | with_reducible exact Below.refl _ _ | assumption | with_reducible refine Qdrew ?_ | with_reducible refine QdrewN ?_ | ((with_reducible refine Qset ?_ ?_); exact (by ((try simp only [World.size_alloc, World.size_setCell, World.size_drew, size_drewN]); (try dsimp only); omega))) | ((with_reducible refine Qalloc ?_ ?_); exact (by ((try simp only [World.size_alloc, World.size_setCell, World.size_drew, size_drewN]); (try dsimp only); omega))) | refine Qtrans (by assumption) (by ((try simp only [World.size_alloc, World.size_setCell, World.size_drew, size_drewN]); (try dsimp only); omega)) ?_))⟩
  · have hb := inB_true.1 hN
    have he : Hid (en n = ((tzr (num n) (num n).size : Nat) : Int)) := by show _ = _; simp [en, hN]
    have h60 : n < wt 60 := by rw [wt60]; omega
    obtain ⟨hp, h49⟩ := num_first hb.1 h60
    have hsz := num_size n
    have hM := fun w => specNumeral_n n w (by omega)
    rw [hN] at hI
    obtain ⟨s, hs⟩ : ∃ s, num n = s := ⟨_, rfl⟩
    rw [hs] at hM hp hsz he h49
    have hbb : ∀ j (h : j < s.size), ((s[j]'h).toNat : Int) = bt s j := fun j h => bt_eq s j h
    clear hs
    go_enter Tryd.func7, Tryd.ntmps7
    go_wp2_with (first | (go_at_call 48; refine (l13Most_any _).mono ?_; rintro e w1 ⟨rfl, rfl⟩) | (go_at_call 47; refine (hI _).mono ?_; rintro e w1 ⟨rfl, rfl⟩) | (go_at_call 49; refine (hM _).mono ?_; rintro e w1 ⟨rfl, hb1⟩; have hz1 := hb1.size))
    go_loopw [4] (fun k wr => ∃ j : Nat, j < s.size ∧ k = .int .i64 j ∧ Hid (tzr s s.size = tzr s (s.size - j) + j) ∧ w1 = wr) (fun k _ => s.size - (intOf k).toNat)
    case atStart => exact ⟨0, hp, rfl, Lib.hid rfl, by first | rfl | trivial⟩
    case round =>
      obtain ⟨j, hj, rfl, heq, rfl⟩ := hrel
      obtain ⟨q, hq⟩ : ∃ q, s.size = q + 1 + j := ⟨s.size - 1 - j, by omega⟩
      have e1 : (s.size : Int) - 1 - (j : Int) = (q : Int) := by omega
      have hq0 : (0 : Int) ≤ (q : Int) := by omega
      have hq1 : (q : Int) < (s.size : Int) := by omega
      have hqs : q < s.size := by omega
      have e2 : Hid (s.size - j = q + 1) := by show _ = _; omega
      have hq' := Lib.hid hq
      clear hq
      by_cases h48 : bt s q = 48
      · have hqp : q ≠ 0 := by rintro rfl; omega
        go_wp2
        exact ⟨⟨j + 1, by have := hq'.out; omega, by go_num, Lib.hid (by rw [heq.out, e2.out, tzr_yes h48]; have := hq'.out; rw [show s.size - (j + 1) = q by omega]; omega), trivial⟩, by simp [intOf]; omega⟩
      · have hz := Lib.hid (tzr_no h48)
        go_wp2
        go_ret
        exact ⟨by rw [he.out, heq.out, e2.out, hz.out]; simp, hb1⟩
theorem EndingOf_law (n : Int) (hn : -9223372036854775808 ≤ n ∧ n ≤ 9223372036854775807) (w : World) :
    Calls Tryd.prog 3 #[.int .i64 n] w fun e w' => e = .returned (.bool true) ∧ Below w.heap.size w w' := by
  have h1 := fun w => specEnding_any n w
  have h2 := fun w => implEnding_any n w
  go_enter Tryd.func3, Tryd.ntmps3
  go_wp2_with (first | (go_at_call 7; refine (h1 _).mono ?_; rintro e w1 ⟨rfl, hb1⟩; have hz1 := hb1.size) | (go_at_call 8; refine (h2 _).mono ?_; rintro e w2 ⟨rfl, hb2⟩))
  go_ret
  exact ⟨rfl, Qtrans hb2 hz1 hb1⟩
end Go.Proofs.YtilbhingfnjppaaDoor

namespace Go.Proofs.YtilbhingfnjppaaDoor
open Go.RowKit
/-- The digits of the weights below the k-th, all of them. -/
def D : Nat → Int → List UInt8
  | 0, _ => []
  | k + 1, n => if wt k ≤ n then 49 :: D k (n - wt k) else 48 :: D k n
theorem D_yes {k : Nat} {n : Int} (h : wt k ≤ n) : D (k + 1) n = 49 :: D k (n - wt k) := by simp [D, h]
theorem D_no {k : Nat} {n : Int} (h : ¬ wt k ≤ n) : D (k + 1) n = 48 :: D k n := by simp [D, h]
theorem D_len : ∀ (k : Nat) (n : Int), (D k n).length = k
  | 0, _ => rfl
  | k + 1, n => by
    by_cases h : wt k ≤ n
    · rw [D_yes h, List.length_cons, D_len k]
    · rw [D_no h, List.length_cons, D_len k]
theorem gr_D : ∀ (k : Nat) (n : Int) (acc : List UInt8), acc ≠ [] → gr k n acc = acc ++ D k n
  | 0, _, _, _ => by simp [gr, D]
  | k + 1, n, acc, ha => by
    by_cases h : wt k ≤ n
    · rw [gr_yes h, gr_D k _ _ (by simp), D_yes h]; simp
    · rw [gr_no h ha, gr_D k _ _ (by simp), D_no h]; simp
/-- What the digits sum to. -/
def V : List UInt8 → Int
  | [] => 0
  | b :: l => (if b = 49 then wt l.length else 0) + V l
theorem V_hi (l : List UInt8) : V (49 :: l) = wt l.length + V l := by simp [V]
theorem V_lo (l : List UInt8) : V (48 :: l) = V l := by simp [V]
theorem V_pos : ∀ l, 0 ≤ V l
  | [] => Int.le_refl _
  | b :: l => by
    have h := V_pos l
    have h2 := (wt_pos l.length).1
    unfold V
    by_cases e : b = 49
    · rw [if_pos e]; omega
    · rw [if_neg e]; omega
theorem wt_two (k : Nat) : wt (k + 1) ≤ wt k + wt k := by
  cases k with
  | zero => decide
  | succ k => have e := wtSS k; have h := wt_lt k; rw [show k + 1 + 1 = k + 2 from rfl, e]; omega
theorem V_D : ∀ (k : Nat) (n : Int), 0 ≤ n → n < wt k → V (D k n) = n
  | 0, n, h0, h => by rw [wt0] at h; have : n = 0 := by omega
                      subst this; rfl
  | k + 1, n, h0, h => by
    have h2 := wt_two k
    by_cases hw : wt k ≤ n
    · rw [D_yes hw, V_hi, D_len, V_D k _ (by omega) (by omega)]; omega
    · rw [D_no hw, V_lo, V_D k n h0 (by omega)]
theorem V_gr : ∀ (k : Nat) (n : Int), 0 ≤ n → n < wt k → V (gr k n []) = n
  | 0, n, h0, h => by rw [wt0] at h; have : n = 0 := by omega
                      subst this; rfl
  | k + 1, n, h0, h => by
    have h2 := wt_two k
    by_cases hw : wt k ≤ n
    · rw [gr_yes hw, gr_D k _ _ (by simp)]
      show V (49 :: D k (n - wt k)) = n
      rw [V_hi, D_len, V_D k _ (by omega) (by omega)]; omega
    · rw [gr_nil hw]; exact V_gr k n h0 (by omega)
theorem bt49L (l : List UInt8) (j : Nat) (h : j < l.length) : bt ⟨l.toArray⟩ j = 49 ↔ l[j] = 49 := by
  rw [bt_list l j h, List.getD_eq_getElem?_getD, List.getElem?_eq_getElem h]
  constructor
  · intro e
    have h : ((l[j].toNat : Nat) : Int) = 49 := by simpa using e
    apply UInt8.toNat_inj.1; show (l[j]).toNat = 49; omega
  · intro e; simp [e]
/-- The sum that the program makes is that sum: nothing wraps. -/
theorem sm_V (l : List UInt8) (hV : V l ≤ 9000000000000000000) : ∀ k, k ≤ l.length → sm ⟨l.toArray⟩ k = V l - V (l.drop k)
  | 0, _ => by simp [sm]
  | k + 1, hk => by
    have ih := sm_V l hV k (by omega)
    have hd : l.drop k = l[k] :: l.drop (k + 1) := by rw [List.drop_eq_getElem_cons]
    have hs : (⟨l.toArray⟩ : ByteArray).size = l.length := by simp [ByteArray.size]
    have p1 := V_pos (l.drop (k + 1))
    have p0 := V_pos (l.drop k)
    have hle : ∀ j, V (l.drop j) ≤ V l := by
      intro j
      induction j with
      | zero => simp
      | succ j ih =>
        refine Int.le_trans ?_ ih
        by_cases hj : j < l.length
        · rw [List.drop_eq_getElem_cons hj]
          have := (wt_pos (l.drop (j + 1)).length).1
          show _ ≤ (if l[j] = 49 then _ else _) + _
          split <;> omega
        · rw [List.drop_of_length_le (by omega), List.drop_of_length_le (by omega)]; exact Int.le_refl _
    have q1 := hle (k + 1)
    have hlen : (l.drop (k + 1)).length = l.length - 1 - k := by rw [List.length_drop]; omega
    by_cases e : l[k] = 49
    · rw [sm_yes ((bt49L l k hk).2 e), ih, hs]
      rw [hd, e, V_hi, hlen] at *
      unfold wrap64; omega
    · rw [sm_no (fun h => e ((bt49L l k hk).1 h)), ih, hd]
      show _ - ((if l[k] = 49 then _ else _) + _) = _
      rw [if_neg e]; omega
theorem smm_V (l : List UInt8) (hV : V l ≤ 9000000000000000000) : smm ⟨l.toArray⟩ = V l := by
  have hs : (⟨l.toArray⟩ : ByteArray).size = l.length := by simp [ByteArray.size]
  unfold smm
  rw [hs, sm_V l hV _ (Nat.le_refl _), List.drop_length]
  simp [V]
theorem smm_num {n : Int} (h0 : 0 ≤ n) (h : n ≤ 1000000000000) : smm (num n) = n := by
  have h60 : n < wt 60 := by rw [wt60]; omega
  have e := V_gr 60 n h0 h60
  unfold num
  rw [smm_V _ (by rw [e]; omega), e]
theorem nok_num {n : Int} (h0 : 0 ≤ n) (h : n ≤ 1000000000000) : Nok (num n) :=
  nok_of_gd (gr_gd 60 n [] gd_nil h0 (by rw [wt60]; omega) (fun h => absurd rfl h)) (gr_le 60 n)
theorem nv_num {n : Int} (h0 : 0 ≤ n) (h : n ≤ 1000000000000) : nv (num n) = n := by
  unfold nv; rw [nokB_true (nok_num h0 h), if_pos rfl, smm_num h0 h]
theorem nxt_num {n : Int} (h0 : 0 ≤ n) (h : n ≤ 100000000) : nxt (num n) = num (n + 1) := by
  unfold nxt
  rw [nokB_true (nok_num h0 (by omega)), if_pos rfl, smm_num h0 (by omega), show wrap64 (n + 1) = n + 1 by unfold wrap64; omega, nx_yes (by rw [wt60]; omega)]
/-! ### The shift -/
theorem gr_low : ∀ (k j : Nat) (n : Int), j ≤ k → n < wt j → gr k n [] = gr j n []
  | 0, j, n, h, _ => by rw [show j = 0 by omega]
  | k + 1, j, n, h, hn => by
    by_cases e : j = k + 1
    · rw [e]
    · rw [gr_nil (by have := wt_mono (show j ≤ k by omega); omega)]
      exact gr_low k j n (by omega) hn
def shV (m : Nat) : Int := V (gr 13 m [] ++ [48])
theorem V_small : ∀ (l : List UInt8), l.length ≤ 60 → V l ≤ 9000000000000000000 := by
  have w61 : wt 61 ≤ 10000000000000 := by decide +kernel
  have : ∀ (l : List UInt8), l.length ≤ 60 → V l ≤ l.length * 10000000000000 := by
    intro l
    induction l with
    | nil => intro _; simp [V]
    | cons b l ih =>
      intro h
      rw [List.length_cons] at h
      have h1 := ih (by omega)
      have h2 := wt_mono (show l.length ≤ 61 by omega)
      have h3 := (wt_pos l.length).1
      rw [List.length_cons]
      unfold V
      split <;> push_cast <;> omega
  intro l h
  have h1 := this l h
  have : (l.length : Int) ≤ 60 := by omega
  omega
theorem sh_V (m : Nat) (h : m ≤ 400) : sh (m : Int) = shV m := by
  have w13 : wt 13 = 610 := by decide +kernel
  have hi : inB (m : Int) 0 1000000000 = true := inB_true.2 (by omega)
  unfold sh shV shiftS
  rw [if_pos hi, gr_low 60 13 m (by omega) (by rw [w13]; omega), smm_V _ (V_small _ (by have := gr_le 13 (m : Int); simp; omega))]
theorem sh_step (m : Nat) (h : m < 400) : 1 ≤ sh ((m : Int) + 1) - sh (m : Int) ∧ sh ((m : Int) + 1) - sh (m : Int) ≤ 2 := by
  have hc : ∀ m : Fin 400, 1 ≤ shV (m + 1) - shV m ∧ shV (m + 1) - shV m ≤ 2 := by decide +kernel
  have := hc ⟨m, h⟩
  rw [show (m : Int) + 1 = ((m + 1 : Nat) : Int) by omega, sh_V m (by omega), sh_V (m + 1) (by omega)]
  exact this
theorem sh_num {m : Nat} (h0 : 0 < m) (h : m ≤ 400) : nv (shiftS m) = sh (m : Int) := by
  have hi : inB (m : Int) 0 1000000000 = true := inB_true.2 (by omega)
  have hk : nokB (shiftS (m : Int)) = true := nokB_true (nok_shift (by omega) (by omega))
  unfold nv sh
  rw [if_pos hk, if_pos hi]
/-! ### The ways -/
theorem inn_at (v : Nat) (hv : 1 ≤ v) : ∀ (x : Nat) (xs : List Int), x < xs.length → ∀ i, (inn v x xs).getD i 0 = if v ≤ i ∧ i ≤ x then wrap64 (xs.getD i 0 + xs.getD (i - v) 0) else xs.getD i 0
  | 0, xs, _, i => by rw [if_neg (by omega)]; rfl
  | x + 1, xs, hx, i => by
    by_cases h : v ≤ x + 1
    · rw [inn_yes h, inn_at v hv x _ (by rw [List.length_set]; omega)]
      have gs : ∀ (j : Nat) (z : Int), (xs.set (x + 1) z).getD j 0 = if j = x + 1 then z else xs.getD j 0 := by
        intro j z
        rw [List.getD_eq_getElem?_getD, List.getElem?_set]
        by_cases e : x + 1 = j
        · subst e; rw [if_pos rfl, if_pos hx, if_pos rfl]; rfl
        · rw [if_neg e, if_neg (fun q => e q.symm), List.getD_eq_getElem?_getD]
      rw [gs, gs]
      by_cases e : i = x + 1
      · subst e
        rw [if_neg (by omega), if_pos rfl, if_pos (by omega)]
      · by_cases e2 : v ≤ i ∧ i ≤ x
        · rw [if_pos e2, if_neg e, if_neg (by omega), if_pos (by omega)]
        · rw [if_neg e2, if_neg e, if_neg (by omega)]
    · rw [inn_no h, if_neg (by omega)]
theorem outer_ge (n : Nat) (hn : n ≤ 1000) : ∀ m, m ≤ 16 → ∀ i, i ≤ n → 0 ≤ (outer n m).getD i 0 ∧ (outer n m).getD i 0 ≤ 2 ^ m ∧ ((i : Int) < wt m → 1 ≤ (outer n m).getD i 0)
  | 0, _, i, hi => by
    cases i with
    | zero => simp [outer]
    | succ i =>
      have e : (outer n 0).getD (i + 1) 0 = 0 := by
        simp only [outer, List.getD_eq_getElem?_getD, List.getElem?_cons_succ, List.getElem?_replicate]
        split <;> rfl
      rw [e, wt0]
      exact ⟨by omega, by decide, fun h => by omega⟩
  | m + 1, hm, i, hi => by
    have ih := outer_ge n hn m (by omega)
    have hw := wn_eq m
    have hp := (wt_pos m).1
    have h2 := wt_two m
    have hpw : (2 : Int) ^ m ≤ 2 ^ 16 := by
      have : (2 : Nat) ^ m ≤ 2 ^ 16 := Nat.pow_le_pow_right (by omega) (by omega)
      exact_mod_cast this
    rw [outer, inn_at _ (by omega) _ _ (by rw [outer_len]; omega)]
    obtain ⟨a1, a2, a3⟩ := ih i hi
    have e2 : (2 : Int) ^ (m + 1) = 2 ^ m + 2 ^ m := by rw [Int.pow_succ]; omega
    by_cases e : wn m ≤ i ∧ i ≤ n
    · obtain ⟨b1, b2, b3⟩ := ih (i - wn m) (by omega)
      rw [if_pos e, show wrap64 ((outer n m).getD i 0 + (outer n m).getD (i - wn m) 0) = (outer n m).getD i 0 + (outer n m).getD (i - wn m) 0 by unfold wrap64; omega]
      refine ⟨by omega, by omega, fun h => ?_⟩
      have := b3 (by omega)
      omega
    · rw [if_neg e]
      exact ⟨a1, by omega, fun h => a3 (by omega)⟩
theorem wy_ge (n : Nat) (h : n < 1000) : 1 ≤ wy (n : Int) := by
  have w16 : wt 16 = 2584 := by decide +kernel
  have hi : inB (n : Int) 0 1000 = true := inB_true.2 (by omega)
  unfold wy
  rw [if_pos hi, Int.toNat_natCast]
  exact (outer_ge n (by omega) 16 (by omega) n (Nat.le_refl _)).2.2 (by rw [w16]; omega)
theorem wy_12 : wy 12 = 1 := by
  have : (outer 12 16).getD 12 0 = 1 := by decide +kernel
  have hi : inB 12 0 1000 = true := inB_true.2 (by omega)
  unfold wy
  rw [if_pos hi]; exact this
/-! ### The last digit -/
theorem gr_last : ∀ (k : Nat) (n : Int), 1 ≤ k → ((gr k n []).getLast? = some 49 ↔ (D k n).getLast? = some 49)
  | 0, _, h => by omega
  | k + 1, n, _ => by
    by_cases h : wt k ≤ n
    · rw [gr_yes h, gr_D k _ _ (by simp), D_yes h]; rfl
    · rw [gr_nil h, D_no h]
      cases k with
      | zero => simp [gr, D]
      | succ k =>
        rw [gr_last (k + 1) n (by omega)]
        have : D (k + 1) n ≠ [] := by intro e; have := D_len (k + 1) n; rw [e] at this; simp at this
        rw [List.getLast?_cons_of_ne_nil this]
/-- The golden words: each the last two, one behind the other. -/
def gw : Nat → List UInt8 × List UInt8
  | 0 => ([97], [97, 98])
  | k + 1 => ((gw k).2, (gw k).2 ++ (gw k).1)
def fw (k : Nat) : List UInt8 := (gw k).1
theorem fw0 : fw 0 = [97] := rfl
theorem fw1 : fw 1 = [97, 98] := rfl
theorem fwS (k : Nat) : fw (k + 2) = fw (k + 1) ++ fw k := rfl
theorem fw_len : ∀ k, ((fw k).length : Int) = wt k ∧ ((fw (k + 1)).length : Int) = wt (k + 1)
  | 0 => by decide
  | k + 1 => by
    obtain ⟨h1, h2⟩ := fw_len k
    refine ⟨h2, ?_⟩
    rw [show k + 1 + 1 = k + 2 from rfl, fwS, wtSS, List.length_append]; push_cast; omega
def lastL (k : Nat) (n : Int) : UInt8 := if (D k n).getLast? = some 49 then 98 else 97
theorem lastL_next {k : Nat} (hk : 1 ≤ k) (b : UInt8) (n : Int) : (b :: D k n).getLast? = (D k n).getLast? := by
  have : D k n ≠ [] := by intro e; have := D_len k n; rw [e] at this; simp at this; omega
  rw [List.getLast?_cons_of_ne_nil this]
theorem fw_at : ∀ (k : Nat), (∀ n : Nat, (n : Int) < wt (k + 1) → (fw (k + 1))[n]? = some (lastL (k + 1) n)) ∧ (∀ n : Nat, (n : Int) < wt (k + 2) → (fw (k + 2))[n]? = some (lastL (k + 2) n))
  | 0 => by
    have e1 : wt 1 = 2 := rfl
    have e2 : wt 2 = 3 := rfl
    constructor
    · intro n h
      rw [show (0 : Nat) + 1 = 1 from rfl, e1] at h
      have : n = 0 ∨ n = 1 := by omega
      rcases this with rfl | rfl <;> decide +kernel
    · intro n h
      rw [show (0 : Nat) + 2 = 2 from rfl, e2] at h
      have : n = 0 ∨ n = 1 ∨ n = 2 := by omega
      rcases this with rfl | rfl | rfl <;> decide +kernel
  | k + 1 => by
    obtain ⟨h1, h2⟩ := fw_at k
    refine ⟨h2, fun n h => ?_⟩
    have l2 := (fw_len (k + 1)).2
    have e3 := wtSS (k + 1)
    have e4 := wt_lt (k + 1)
    rw [show k + 1 + 2 = (k + 1) + 2 from rfl] at h ⊢
    rw [fwS]
    rw [e3] at h
    rw [show k + 1 + 1 = k + 2 from rfl] at *
    by_cases hlt : (n : Int) < wt (k + 2)
    · rw [List.getElem?_append_left (by omega), h2 n hlt]
      unfold lastL
      rw [show k + 1 + 2 = (k + 2) + 1 from rfl, D_no (k := k + 2) (n := (n : Int)) (by omega), lastL_next (by omega)]
    · rw [List.getElem?_append_right (by omega)]
      have e5 : n - (fw (k + 2)).length = n - (wt (k + 2)).toNat := by omega
      have hp := (wt_pos (k + 2)).1
      obtain ⟨m, hm⟩ : ∃ m : Nat, n = m + (wt (k + 2)).toNat := ⟨n - (wt (k + 2)).toNat, by omega⟩
      rw [e5, show n - (wt (k + 2)).toNat = m by omega, h1 m (by omega)]
      unfold lastL
      rw [show k + 1 + 2 = (k + 2) + 1 from rfl, D_yes (k := k + 2) (n := (n : Int)) (by omega), lastL_next (by omega), show (n : Int) - wt (k + 2) = (m : Int) by omega]
      rw [show D (k + 2) (m : Int) = 48 :: D (k + 1) (m : Int) from D_no (k := k + 1) (by omega), lastL_next (by omega)]
theorem D_up : ∀ (d k : Nat) (n : Int), 1 ≤ k → n < wt k → (D (k + d) n).getLast? = (D k n).getLast?
  | 0, _, _, _, _ => rfl
  | d + 1, k, n, hk, h => by
    rw [show k + (d + 1) = (k + d) + 1 from rfl, D_no (by have := wt_mono (show k ≤ k + d by omega); omega), lastL_next (by omega), D_up d k n hk h]
/-- The letter of the golden word at a number, told by the number's last digit. -/
theorem golden_at (n : Nat) (h : n ≤ 10000) : (fw 20)[n]? = some (if (gr 60 n []).getLast? = some 49 then 98 else 97) := by
  have w20 : wt 20 = 17711 := by decide +kernel
  have e1 : (D 60 (n : Int)).getLast? = (D 20 (n : Int)).getLast? := D_up 40 20 n (by omega) (by rw [w20]; omega)
  have e2 := gr_last 60 (n : Int) (by omega)
  have e3 : (fw 20)[n]? = some (lastL 20 n) := (fw_at 18).2 n (by show _ < wt 20; rw [w20]; omega)
  rw [e3]
  unfold lastL
  rw [← e1]
  by_cases e : (gr 60 (n : Int) []).getLast? = some 49
  · rw [if_pos e, if_pos (e2.1 e)]
  · rw [if_neg e, if_neg (fun q => e (e2.2 q))]
/-! ### The fixed word of the golden substitution -/
def phi (l : List UInt8) : List UInt8 := l.flatMap (fun b => if b = 97 then [97, 98] else [97])
theorem phi_app (x y : List UInt8) : phi (x ++ y) = phi x ++ phi y := by simp [phi]
theorem phi_fw : ∀ k, phi (fw k) = fw (k + 1) ∧ phi (fw (k + 1)) = fw (k + 2)
  | 0 => by decide
  | k + 1 => by
    obtain ⟨h1, h2⟩ := phi_fw k
    refine ⟨h2, ?_⟩
    show phi (fw (k + 2)) = fw (k + 1 + 2)
    rw [fwS, phi_app, h2, h1]; rfl
theorem phi_take (i : Nat) (hl : (phi ((fw 20).take i)).length ≤ 17711) : phi ((fw 20).take i) = (fw 20).take (phi ((fw 20).take i)).length := by
  have w20 : wt 20 = 17711 := by decide +kernel
  have h20 : (fw 20).length = 17711 := by have := (fw_len 20).1; rw [w20] at this; omega
  have h1 : phi (fw 20) = fw 20 ++ fw 19 := by rw [(phi_fw 20).1]; rfl
  have h2 : phi (fw 20) = phi ((fw 20).take i) ++ phi ((fw 20).drop i) := by rw [← phi_app, List.take_append_drop]
  have h3 := congrArg (List.take (phi ((fw 20).take i)).length) (h2.symm.trans h1)
  rw [List.take_left, List.take_append_of_le_length (by omega)] at h3
  exact h3
end Go.Proofs.YtilbhingfnjppaaDoor
