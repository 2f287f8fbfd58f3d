/- The golden ring's functions at small numbers, with exact values. -/
import Derived.Test.YtieibopegmoanaaGoldN
import Derived.Test.YtieibopegmoanaaGoldB
import Derived.Test.YtieibopegmoanaaGoldF
set_option linter.unusedSimpArgs false
set_option linter.unusedVariables false
namespace Go.Proofs.Ytieibopegmoanaa
open Go.RowKit
/-- Small numbers. -/
def sm (a : Int) : Prop := -600 ≤ a ∧ a ≤ 600
theorem okB_in {a b : Int} (ha : -1000000 ≤ a ∧ a ≤ 1000000) (hb : -1000000 ≤ b ∧ b ≤ 1000000) : okB a b = true := by
  unfold okB; rw [Bool.and_eq_true]; exact ⟨inB_true.2 ha, inB_true.2 hb⟩
theorem sm_prod {p q : Int} (hp : sm p) (hq : sm q) : -360000 ≤ p * q ∧ p * q ≤ 360000 := prod_le p q 600 hp hq
theorem addS (a b c d x y : Int) (hx : a + c = x) (hy : b + d = y) (ha : -1000000 ≤ a ∧ a ≤ 1000000) (hb : -1000000 ≤ b ∧ b ≤ 1000000) (hc : -1000000 ≤ c ∧ c ≤ 1000000) (hd : -1000000 ≤ d ∧ d ≤ 1000000) (hx' : -1000000 ≤ x ∧ x ≤ 1000000) (hy' : -1000000 ≤ y ∧ y ≤ 1000000) (w : World) :
    Calls Try.prog 24 #[.agg #[.int .i64 (a), .int .i64 (b)], .agg #[.int .i64 (c), .int .i64 (d)]] w fun e w' => e = .returned (.tuple #[.agg #[.int .i64 (x), .int .i64 (y)], .bool true]) ∧ Below w.heap.size w w' := by
  refine (implAddGold_any a b c d w).mono fun e w' h => ⟨h.1.trans ?_, h.2⟩
  rw [wrap_in (a + c) (by omega), wrap_in (b + d) (by omega), hx, hy]
  have hk : k3 a b c d x y = true := by unfold k3; rw [okB_in ha hb, okB_in hc hd, okB_in hx' hy']; rfl
  rw [hk, gz_true, gz_true]
theorem subS (a b c d x y : Int) (hx : a - c = x) (hy : b - d = y) (ha : -1000000 ≤ a ∧ a ≤ 1000000) (hb : -1000000 ≤ b ∧ b ≤ 1000000) (hc : -1000000 ≤ c ∧ c ≤ 1000000) (hd : -1000000 ≤ d ∧ d ≤ 1000000) (hx' : -1000000 ≤ x ∧ x ≤ 1000000) (hy' : -1000000 ≤ y ∧ y ≤ 1000000) (w : World) :
    Calls Try.prog 25 #[.agg #[.int .i64 (a), .int .i64 (b)], .agg #[.int .i64 (c), .int .i64 (d)]] w fun e w' => e = .returned (.tuple #[.agg #[.int .i64 (x), .int .i64 (y)], .bool true]) ∧ Below w.heap.size w w' := by
  refine (implSubGold_any a b c d w).mono fun e w' h => ⟨h.1.trans ?_, h.2⟩
  rw [wrap_in (a - c) (by omega), wrap_in (b - d) (by omega), hx, hy]
  have hk : k3 a b c d x y = true := by unfold k3; rw [okB_in ha hb, okB_in hc hd, okB_in hx' hy']; rfl
  rw [hk, gz_true, gz_true]
theorem lim_sm {a : Int} (h : sm a) : lim a := ⟨by have := h.1; omega, by have := h.2; omega⟩
theorem in_sm {a : Int} (h : sm a) : -1000000 ≤ a ∧ a ≤ 1000000 := ⟨by have := h.1; omega, by have := h.2; omega⟩
theorem mulS (a b c d x y : Int) (hx : a * c + b * d = x) (hy : a * d + b * c + b * d = y) (ha : sm a) (hb : sm b) (hc : sm c) (hd : sm d) (hx' : -1000000 ≤ x ∧ x ≤ 1000000) (hy' : -1000000 ≤ y ∧ y ≤ 1000000) (w : World) :
    Calls Try.prog 26 #[.agg #[.int .i64 (a), .int .i64 (b)], .agg #[.int .i64 (c), .int .i64 (d)]] w fun e w' => e = .returned (.tuple #[.agg #[.int .i64 (x), .int .i64 (y)], .bool true]) ∧ Below w.heap.size w w' := by
  refine (implMulGold_any a b c d w).mono fun e w' h => ⟨h.1.trans ?_, h.2⟩
  rw [mulA_in (lim_sm ha) (lim_sm hb) (lim_sm hc) (lim_sm hd), mulB_in (lim_sm ha) (lim_sm hb) (lim_sm hc) (lim_sm hd), hx, hy]
  have hk : k3 a b c d x y = true := by unfold k3; rw [okB_in (in_sm ha) (in_sm hb), okB_in (in_sm hc) (in_sm hd), okB_in hx' hy']; rfl
  rw [hk, gz_true, gz_true]
theorem mateS (a b x y : Int) (hx : a + b = x) (hy : -b = y) (ha : sm a) (hb : sm b) (w : World) :
    Calls Try.prog 28 #[.agg #[.int .i64 (a), .int .i64 (b)]] w fun e w' => e = .returned (.tuple #[.agg #[.int .i64 (x), .int .i64 (y)], .bool true]) ∧ Below w.heap.size w w' := by
  obtain ⟨a1, a2⟩ := ha
  obtain ⟨b1, b2⟩ := hb
  refine (implMateOf_any a b w).mono fun e w' h => ⟨h.1.trans ?_, h.2⟩
  have hk : mateK a b = true := by unfold mateK; rw [wrap_in (a + b) (by omega), wrap_in (-b) (by omega), okB_in (by omega) (by omega), okB_in (by omega) (by omega)]; rfl
  rw [hk, gz_true, gz_true, wrap_in (a + b) (by omega), wrap_in (-b) (by omega), hx, hy]
theorem normS (a b x : Int) (hx : a * a + a * b - b * b = x) (ha : -1000000 ≤ a ∧ a ≤ 1000000) (hb : -1000000 ≤ b ∧ b ≤ 1000000) (w : World) :
    Calls Try.prog 27 #[.agg #[.int .i64 (a), .int .i64 (b)]] w fun e w' => e = .returned (.int .i64 x) ∧ Below w.heap.size w w' := by
  refine (implNormOf_any a b w).mono fun e w' h => ⟨h.1.trans ?_, h.2⟩
  rw [okB_in ha hb, gz_true, normI_in (lim_of ha) (lim_of hb), hx]
theorem signS (a b x : Int) (hx : sgn a b = x) (ha : -1000000 ≤ a ∧ a ≤ 1000000) (hb : -1000000 ≤ b ∧ b ≤ 1000000) (w : World) :
    Calls Try.prog 29 #[.agg #[.int .i64 (a), .int .i64 (b)]] w fun e w' => e = .returned (.int .i64 x) ∧ Below w.heap.size w w' := by
  refine (implSignOf_any a b w).mono fun e w' h => ⟨h.1.trans ?_, h.2⟩
  rw [okB_in ha hb, gz_true, hx]
theorem compareS (a b c d x : Int) (hx : sgn (a - c) (b - d) = x) (ha : -1000000 ≤ a ∧ a ≤ 1000000) (hb : -1000000 ≤ b ∧ b ≤ 1000000) (hc : -1000000 ≤ c ∧ c ≤ 1000000) (hd : -1000000 ≤ d ∧ d ≤ 1000000) (w : World) :
    Calls Try.prog 30 #[.agg #[.int .i64 (a), .int .i64 (b)], .agg #[.int .i64 (c), .int .i64 (d)]] w fun e w' => e = .returned (.int .i64 x) ∧ Below w.heap.size w w' := by
  refine (implCompareGold_any a b c d w).mono fun e w' h => ⟨h.1.trans ?_, h.2⟩
  rw [okB_in ha hb, okB_in hc hd, show (true && true) = true from rfl, gz_true, hx]
theorem floorS (a b x : Int) (hx : flo a b = x) (ha : -1000000 ≤ a ∧ a ≤ 1000000) (hb : -1000000 ≤ b ∧ b ≤ 1000000) (w : World) :
    Calls Try.prog 31 #[.agg #[.int .i64 (a), .int .i64 (b)]] w fun e w' => e = .returned (.int .i64 x) ∧ Below w.heap.size w w' := by
  refine (implFloorOf_any a b w).mono fun e w' h => ⟨h.1.trans ?_, h.2⟩
  rw [okB_in ha hb, gz_true, hx]
theorem powerS (n x y : Int) (hx : (pwN n).1 = x) (hy : (pwN n).2 = y) (hn : -12 ≤ n ∧ n ≤ 12) (w : World) :
    Calls Try.prog 34 #[.int .i64 n] w fun e w' => e = .returned (.tuple #[.agg #[.int .i64 (x), .int .i64 (y)], .bool true]) ∧ Below w.heap.size w w' := by
  refine (implPower_any n w).mono fun e w' h => ⟨h.1.trans ?_, h.2⟩
  have hk : inB n (-25) 25 = true := inB_true.2 (by omega)
  rw [hk, gz_true, gz_true, hx, hy]
theorem divZ (a b : Int) (ha : -1000000 ≤ a ∧ a ≤ 1000000) (hb : -1000000 ≤ b ∧ b ≤ 1000000) (w : World) :
    Calls Try.prog 32 #[.agg #[.int .i64 (a), .int .i64 (b)], .agg #[.int .i64 (0), .int .i64 (0)]] w fun e w' => e = .returned (.tuple #[.agg #[.int .i64 (0), .int .i64 (0)], .bool false]) ∧ Below w.heap.size w w' :=
  implDivide_zero a b w (okB_in ha hb) (okB_in (by omega) (by omega))
/-- A product divided by its second factor. -/
theorem divS (a b c d x y : Int) (hx : a * c + b * d = x) (hy : a * d + b * c + b * d = y) (ha : sm a) (hb : sm b) (hc : sm c) (hd : sm d) (hx' : -1000000 ≤ x ∧ x ≤ 1000000) (hy' : -1000000 ≤ y ∧ y ≤ 1000000) (h0 : ¬ (c = 0 ∧ d = 0)) (w : World) :
    Calls Try.prog 32 #[.agg #[.int .i64 (x), .int .i64 (y)], .agg #[.int .i64 (c), .int .i64 (d)]] w fun e w' => e = .returned (.tuple #[.agg #[.int .i64 (a), .int .i64 (b)], .bool true]) ∧ Below w.heap.size w w' := by
  refine (implDivide_any x y c d w).mono fun e w' h => ⟨h.1.trans ?_, h.2⟩
  obtain ⟨a1, a2⟩ := ha
  obtain ⟨b1, b2⟩ := hb
  obtain ⟨c1, c2⟩ := hc
  obtain ⟨d1, d2⟩ := hd
  have hn := normI_in (a := c) (b := d) ⟨by omega, by omega⟩ ⟨by omega, by omega⟩
  have hz : (normI c d == 0) = false := by
    rw [normI_zero ⟨by omega, by omega⟩ ⟨by omega, by omega⟩]
    cases hq : (decide (c = 0) && decide (d = 0))
    · rfl
    · exfalso; apply h0; simpa using hq
  have hnz : normI c d ≠ 0 := by intro e; rw [e] at hz; simp at hz
  have e1 : dvA x y c d = a * normI c d := by
    unfold dvA; rw [mulA_in ⟨by omega, by omega⟩ ⟨by omega, by omega⟩ ⟨by omega, by omega⟩ ⟨by omega, by omega⟩, hn, ← hx, ← hy]; exact quo1 a b c d
  have e2 : dvB x y c d = b * normI c d := by
    unfold dvB; rw [mulB_in ⟨by omega, by omega⟩ ⟨by omega, by omega⟩ ⟨by omega, by omega⟩ ⟨by omega, by omega⟩, hn, ← hx, ← hy]; exact quo2 a b c d
  have q1 : quA x y c d = a := by unfold quA; rw [e1, Int.mul_tdiv_cancel _ hnz, IntWalk.i64_in _ (by omega)]
  have q2 : quB x y c d = b := by unfold quB; rw [e2, Int.mul_tdiv_cancel _ hnz, IntWalk.i64_in _ (by omega)]
  have hk : dvK x y c d = true := by
    unfold dvK; rw [q1, q2, hz, okB_in hx' hy', okB_in (show -1000000 ≤ c ∧ c ≤ 1000000 by omega) (by omega), okB_in (show -1000000 ≤ a ∧ a ≤ 1000000 by omega) (by omega), e1, e2, Int.mul_tmod_left, Int.mul_tmod_left]; rfl
  rw [hk, gz_true, gz_true, q1, q2]
/-! ### What the law asks of the numbers -/
theorem mul_small {a b c d x y : Int} (hx : a * c + b * d = x) (hy : a * d + b * c + b * d = y) (ha : sm a) (hb : sm b) (hc : sm c) (hd : sm d) : (-720000 ≤ x ∧ x ≤ 720000) ∧ (-1000000 ≤ y → y ≤ 1080000) := by
  have h1 := sm_prod ha hc
  have h2 := sm_prod hb hd
  have h3 := sm_prod ha hd
  have h4 := sm_prod hb hc
  omega
def dr2 (a : Int) : Prop := -40 ≤ a ∧ a ≤ 40
theorem dr2_prod {p q : Int} (hp : dr2 p) (hq : dr2 q) : -1600 ≤ p * q ∧ p * q ≤ 1600 := prod_le p q 40 hp hq
theorem mul_dr {a b c d x y : Int} (hx : a * c + b * d = x) (hy : a * d + b * c + b * d = y) (ha : dr2 a) (hb : dr2 b) (hc : dr2 c) (hd : dr2 d) : (-3200 ≤ x ∧ x ≤ 3200) ∧ (-4800 ≤ y ∧ y ≤ 4800) := by
  have h1 := dr2_prod ha hc
  have h2 := dr2_prod hb hd
  have h3 := dr2_prod ha hd
  have h4 := dr2_prod hb hc
  omega
theorem pow_fin2 : ∀ k : Fin 25, ((-600 ≤ (pwN ((k.val : Int) - 12)).1 ∧ (pwN ((k.val : Int) - 12)).1 ≤ 600) ∧ (-600 ≤ (pwN ((k.val : Int) - 12)).2 ∧ (pwN ((k.val : Int) - 12)).2 ≤ 600)) := by decide +kernel
theorem pow_sm (n : Int) (h : -12 ≤ n ∧ n ≤ 12) : sm (pwN n).1 ∧ sm (pwN n).2 := by
  have := pow_fin2 ⟨(n + 12).toNat, by omega⟩
  simp only at this
  rw [show (((n + 12).toNat : Nat) : Int) - 12 = n by omega] at this
  exact this
end Go.Proofs.Ytieibopegmoanaa
