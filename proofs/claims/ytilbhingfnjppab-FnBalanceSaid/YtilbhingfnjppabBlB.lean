/- The slopes that fit a word: plain, and the walk. -/
import Derived.Test.YtilbhingfnjppabMFre
set_option linter.unusedSimpArgs false
set_option linter.unusedVariables false
namespace Go.Proofs.Ytilbhingfnjppab
open Go.RowKit
/-- What the first k - 1 lengths leave of the lower slope. -/
structure UpI (s : ByteArray) (k : Nat) (a b : Int) : Prop where
  b1 : 1 ≤ b
  b6 : b ≤ 60
  a2 : -2 ≤ a
  a6 : a ≤ 60
  up : ∀ n : Nat, 1 ≤ n → n < k → ((hiS s n : Int) - 1) * b ≤ a * n
  au : k = 1 ∧ a = -2 ∧ b = 1 ∨ ∃ n : Nat, 1 ≤ n ∧ n < k ∧ a = (hiS s n : Int) - 1 ∧ b = n
structure DnI (s : ByteArray) (k : Nat) (c d : Int) : Prop where
  d1 : 1 ≤ d
  d6 : d ≤ 60
  c0 : 0 ≤ c
  c6 : c ≤ 61
  dn : ∀ n : Nat, 1 ≤ n → n < k → c * n ≤ ((loS s n : Int) + 1) * d
  cd : k = 1 ∧ c = 3 ∧ d = 1 ∨ ∃ n : Nat, 1 ≤ n ∧ n < k ∧ c = (loS s n : Int) + 1 ∧ d = n
theorem UpI.start (s : ByteArray) : UpI s 1 (-2) 1 := ⟨by omega, by omega, by omega, by omega, fun n h1 h2 => by omega, .inl ⟨rfl, rfl, rfl⟩⟩
theorem DnI.start (s : ByteArray) : DnI s 1 3 1 := ⟨by omega, by omega, by omega, by omega, fun n h1 h2 => by omega, .inl ⟨rfl, rfl, rfl⟩⟩
theorem cross_le {x n a b y m : Int} (hb : 0 < b) (hn : 0 < n) (hm : 0 < m) (h1 : x * b ≤ a * n) (h2 : a * m < y * b) : x * m ≤ y * n := by
  have e1 : x * b * m ≤ a * n * m := Int.mul_le_mul_of_nonneg_right h1 (by omega)
  have e2 : a * m * n ≤ y * b * n := Int.mul_le_mul_of_nonneg_right (by omega) (by omega)
  have e3 : a * n * m = a * m * n := by rw [Int.mul_assoc, Int.mul_comm n m, ← Int.mul_assoc]
  have e4 : x * b * m = x * m * b := by rw [Int.mul_assoc, Int.mul_comm b m, ← Int.mul_assoc]
  have e5 : y * b * n = y * n * b := by rw [Int.mul_assoc, Int.mul_comm b n, ← Int.mul_assoc]
  have e6 : x * m * b ≤ y * n * b := by omega
  exact Int.le_of_mul_le_mul_right e6 hb
theorem cross_ge {x n c d y m : Int} (hd : 0 < d) (hn : 0 < n) (hm : 0 < m) (h1 : c * n ≤ x * d) (h2 : y * d < c * m) : y * n ≤ x * m := by
  have e1 : c * n * m ≤ x * d * m := Int.mul_le_mul_of_nonneg_right h1 (by omega)
  have e2 : y * d * n ≤ c * m * n := Int.mul_le_mul_of_nonneg_right (by omega) (by omega)
  have e3 : c * n * m = c * m * n := by rw [Int.mul_assoc, Int.mul_comm n m, ← Int.mul_assoc]
  have e4 : x * d * m = x * m * d := by rw [Int.mul_assoc, Int.mul_comm d m, ← Int.mul_assoc]
  have e5 : y * d * n = y * n * d := by rw [Int.mul_assoc, Int.mul_comm d n, ← Int.mul_assoc]
  have e6 : y * n * d ≤ x * m * d := by omega
  exact Int.le_of_mul_le_mul_right e6 hd
theorem UpI.yes {s : ByteArray} {k : Nat} {a b : Int} (h : UpI s k a b) (hk : 1 ≤ k) (hk6 : k ≤ 60) (hks : k ≤ s.size) (hlt : a * k < ((hiS s k : Int) - 1) * b) : UpI s (k + 1) ((hiS s k : Int) - 1) k := by
  have hh := hiS_le s k hks
  refine ⟨by omega, by omega, by omega, by omega, fun n h1 h2 => ?_, .inr ⟨k, hk, by omega, rfl, rfl⟩⟩
  by_cases e : n = k
  · subst e; exact Int.le_refl _
  · exact cross_le (by have := h.b1; omega) (by omega) (by omega) (h.up n h1 (by omega)) hlt
theorem UpI.no {s : ByteArray} {k : Nat} {a b : Int} (h : UpI s k a b) (hk : 1 ≤ k) (hlt : ¬ a * k < ((hiS s k : Int) - 1) * b) : UpI s (k + 1) a b := by
  refine ⟨h.b1, h.b6, h.a2, h.a6, fun n h1 h2 => ?_, ?_⟩
  · by_cases e : n = k
    · subst e; omega
    · exact h.up n h1 (by omega)
  · rcases h.au with ⟨rfl, rfl, rfl⟩ | ⟨n, h1, h2, h3, h4⟩
    · exfalso; apply hlt
      have : (0 : Int) ≤ (hiS s 1 : Int) := by omega
      omega
    · exact .inr ⟨n, h1, by omega, h3, h4⟩
theorem DnI.yes {s : ByteArray} {k : Nat} {c d : Int} (h : DnI s k c d) (hk : 1 ≤ k) (hk6 : k ≤ 60) (hlt : ((loS s k : Int) + 1) * d < c * k) : DnI s (k + 1) ((loS s k : Int) + 1) k := by
  have hh := loS_le s k
  refine ⟨by omega, by omega, by omega, by omega, fun n h1 h2 => ?_, .inr ⟨k, hk, by omega, rfl, rfl⟩⟩
  by_cases e : n = k
  · subst e; exact Int.le_refl _
  · exact cross_ge (by have := h.d1; omega) (by omega) (by omega) (h.dn n h1 (by omega)) hlt
theorem DnI.no {s : ByteArray} {k : Nat} {c d : Int} (h : DnI s k c d) (hk : 1 ≤ k) (hlt : ¬ ((loS s k : Int) + 1) * d < c * k) : DnI s (k + 1) c d := by
  refine ⟨h.d1, h.d6, h.c0, h.c6, fun n h1 h2 => ?_, ?_⟩
  · by_cases e : n = k
    · subst e; omega
    · exact h.dn n h1 (by omega)
  · rcases h.cd with ⟨rfl, rfl, rfl⟩ | ⟨n, h1, h2, h3, h4⟩
    · exfalso; apply hlt
      have := loS_le s 1
      omega
    · exact .inr ⟨n, h1, by omega, h3, h4⟩
theorem slopes_iff {s : ByteArray} {a b c d : Int} (h0 : 1 ≤ s.size) (hU : UpI s (s.size + 1) a b) (hD : DnI s (s.size + 1) c d) : a * d < c * b ↔ balP s := by
  constructor
  · intro hlt
    apply Classical.byContradiction
    intro hb
    obtain ⟨n, h1, h2, h3⟩ := not_bal hb
    have u := hU.up n h1 (by omega)
    have v := hD.dn n h1 (by omega)
    have hb1 := hU.b1
    have hd1 := hD.d1
    have w1 : ((loS s n : Int) + 1) * d ≤ ((hiS s n : Int) - 1) * d := Int.mul_le_mul_of_nonneg_right (by omega) (by omega)
    have w2 : c * n ≤ ((hiS s n : Int) - 1) * d := by omega
    have w3 : c * n * b ≤ ((hiS s n : Int) - 1) * d * b := Int.mul_le_mul_of_nonneg_right w2 (by omega)
    have w4 : ((hiS s n : Int) - 1) * b * d ≤ a * n * d := Int.mul_le_mul_of_nonneg_right u (by omega)
    have e1 : ((hiS s n : Int) - 1) * d * b = ((hiS s n : Int) - 1) * b * d := by rw [Int.mul_assoc, Int.mul_comm d b, ← Int.mul_assoc]
    have e2 : c * n * b = c * b * n := by rw [Int.mul_assoc, Int.mul_comm (n : Int) b, ← Int.mul_assoc]
    have e3 : a * n * d = a * d * n := by rw [Int.mul_assoc, Int.mul_comm (n : Int) d, ← Int.mul_assoc]
    have w5 : c * b * n ≤ a * d * n := by omega
    have := Int.le_of_mul_le_mul_right w5 (by omega)
    omega
  · intro hb
    rcases hU.au with ⟨h1, _⟩ | ⟨n, h1, h2, rfl, rfl⟩
    · omega
    rcases hD.cd with ⟨h3, _⟩ | ⟨m, h3, h4, rfl, rfl⟩
    · omega
    have := slope_bal hb n m h1 (by omega) h3 (by omega)
    have h5 : ((hiS s n * m : Nat) : Int) < ((loS s m * n + n + m : Nat) : Int) := by omega
    rw [Int.natCast_mul, Int.natCast_add, Int.natCast_add, Int.natCast_mul] at h5
    rw [Int.sub_mul, Int.add_mul, Int.one_mul, Int.one_mul]
    omega
/-- A fraction reduced. -/
theorem reduced (a : Int) (b : Nat) (hb : 1 ≤ b) : ∃ A B : Int, a = A * (Nat.gcd a.natAbs b : Nat) ∧ (b : Int) = B * (Nat.gcd a.natAbs b : Nat) ∧ 1 ≤ B := by
  have hg : 1 ≤ Nat.gcd a.natAbs b := Nat.gcd_pos_of_pos_right _ (by omega)
  have h1 : ((Nat.gcd a.natAbs b : Nat) : Int) ∣ a := Int.ofNat_dvd_left.2 (Nat.gcd_dvd_left _ _)
  have h2 : ((Nat.gcd a.natAbs b : Nat) : Int) ∣ (b : Int) := Int.natCast_dvd_natCast.2 (Nat.gcd_dvd_right _ _)
  obtain ⟨A, hA⟩ := h1
  obtain ⟨B, hB⟩ := h2
  refine ⟨A, B, by rw [Int.mul_comm]; exact hA, by rw [Int.mul_comm]; exact hB, ?_⟩
  apply Classical.byContradiction
  intro q
  have : ((Nat.gcd a.natAbs b : Nat) : Int) * B ≤ 0 := Int.mul_nonpos_of_nonneg_of_nonpos (by omega) (by omega)
  omega
theorem small_mul {A : Int} {g : Nat} {m : Int} (hg : 1 ≤ g) (h1 : -m ≤ A * g) (h2 : A * g ≤ m) (hm : 0 ≤ m) : -m ≤ A ∧ A ≤ m := by
  constructor
  · apply Classical.byContradiction
    intro q
    have : A * g ≤ A * 1 := Int.mul_le_mul_of_nonpos_left (by omega) (by omega)
    omega
  · apply Classical.byContradiction
    intro q
    have : A * 1 ≤ A * g := Int.mul_le_mul_of_nonneg_left (by omega) (by omega)
    omega
theorem reduced_lt {A B C D : Int} {g h : Nat} (hg : 1 ≤ g) (hh : 1 ≤ h) : (A * g) * (D * h) < (C * h) * (B * g) ↔ A * D < C * B := by
  have e1 : (A * g) * (D * h) = A * D * ((g : Int) * h) := by
    rw [Int.mul_assoc, ← Int.mul_assoc (g : Int) D, Int.mul_comm (g : Int) D, Int.mul_assoc, Int.mul_assoc]
  have e2 : (C * h) * (B * g) = C * B * ((g : Int) * h) := by
    rw [Int.mul_assoc, ← Int.mul_assoc (h : Int) B, Int.mul_comm (h : Int) B, Int.mul_assoc, Int.mul_assoc, Int.mul_comm (h : Int) g]
  have hp : (0 : Int) < (g : Int) * h := Int.mul_pos (by omega) (by omega)
  rw [e1, e2]
  exact ⟨fun q => Int.lt_of_mul_lt_mul_right q (Int.le_of_lt hp), fun q => Int.mul_lt_mul_of_pos_right q hp⟩
theorem mul_bound {A D : Int} {m : Nat} (h1 : -(m : Int) ≤ A ∧ A ≤ m) (h2 : -(m : Int) ≤ D ∧ D ≤ m) : -((m * m : Nat) : Int) ≤ A * D ∧ A * D ≤ ((m * m : Nat) : Int) := by
  have h3 : A.natAbs * D.natAbs ≤ m * m := Nat.mul_le_mul (by omega) (by omega)
  rw [← Int.natAbs_mul] at h3
  omega
set_option maxRecDepth 20000 in
set_option maxHeartbeats 1000000 in
theorem isShort_any (s : ByteArray) (w : World) (hB : binB s = true) :
    Calls Try.prog 90 #[.string s] w fun e w' => e = .returned (.bool (decide (s.size ≤ 60))) ∧ w = w' := by
  have h400 := bin_400 hB
  have hW : isWB s = true := ((Bool.and_eq_true _ _).mp hB).1
  have hI := fun w => isWord_any s w (by omega)
  rw [hW] at hI
  by_cases h : s.size ≤ 60
  · have h1 : (s.size : Int) ≤ 60 := by omega
    have h2 : decide (s.size ≤ 60) = true := decide_eq_true h
    rw [h2]
    clear hB hW h h2
    go_enter Try.func90, Try.ntmps90
    go_wp2_with (go_at_call 62; (with_reducible refine (hI _).mono ?_); rintro e w1 ⟨rfl, rfl⟩)
    go_ret
    exact ⟨rfl, rfl⟩
  · have h1 : ¬ (s.size : Int) ≤ 60 := by omega
    have h2 : decide (s.size ≤ 60) = false := decide_eq_false h
    have h3 := Lib.hid (decide_eq_false h1)
    rw [h2]
    clear hB hW h h2
    go_enter Try.func90, Try.ntmps90
    go_wp2_with (go_at_call 62; (with_reducible refine (hI _).mono ?_); rintro e w1 ⟨rfl, rfl⟩)
    go_ret
    exact ⟨congrArg (fun b => Ending.returned (.bool b)) h3.out, rfl⟩
theorem empty_of0 {s : ByteArray} (h : s.size = 0) : s = ⟨#[]⟩ := by
  cases s with
  | mk d => congr 1; exact Array.eq_empty_of_size_eq_zero h
set_option maxRecDepth 20000 in
set_option maxHeartbeats 4000000 in
theorem SlopesOf_any (s : ByteArray) (w : World) (hB : binB s = true) :
    Calls Try.prog 49 #[.string s] w fun e w' => ∃ A B C D : Int, e = .returned (.tuple #[.int .i64 A, .int .i64 B, .int .i64 C, .int .i64 D]) ∧ (-61 ≤ A ∧ A ≤ 61) ∧ (-61 ≤ B ∧ B ≤ 61) ∧ (-61 ≤ C ∧ C ≤ 61) ∧ (-61 ≤ D ∧ D ≤ 61) ∧ (1 ≤ s.size → s.size ≤ 60 → 1 ≤ B ∧ 1 ≤ D ∧ (A * D < C * B ↔ balP s)) ∧ Below w.heap.size w w' := by
  have h400 := bin_400 hB
  have hBin := fun w => implBin_any s w (by omega)
  rw [hB] at hBin
  have hSh := fun w => isShort_any s w hB
  by_cases h60 : s.size ≤ 60
  · rw [decide_eq_true h60] at hSh
    by_cases h0 : s.size = 0
    · have he := empty_of0 h0
      subst he
      clear hB h60 h0 h400
      go_enter Try.func49, Try.ntmps49
      go_wp2_with (first | (go_at_call 57; refine (hBin _).mono ?_; rintro e w1 ⟨rfl, hb1⟩; have hz1 := hb1.size) | (go_at_call 90; (with_reducible refine (hSh _).mono ?_); rintro e w1 ⟨rfl, rfl⟩))
      refine bodyPost_ret (v := .tuple #[.int .i64 0, .int .i64 0, .int .i64 0, .int .i64 0]) (by simp [results, Try.results49, go_sem, *]) rfl ⟨0, 0, 0, 0, rfl, by omega, by omega, by omega, by omega, fun h => absurd h (by decide), by (repeat (first | with_reducible exact Below.refl _ _ | assumption | with_reducible refine Qdrew ?_ | with_reducible refine QdrewN ?_ | ((with_reducible refine Qset ?_ ?_); exact (by ((try simp only [World.size_alloc, World.size_setCell, World.size_drew, size_drewN]); (try dsimp only); omega))) | ((with_reducible refine Qalloc ?_ ?_); exact (by ((try simp only [World.size_alloc, World.size_setCell, World.size_drew, size_drewN]); (try dsimp only); omega))) | refine Qtrans (by assumption) (by ((try simp only [World.size_alloc, World.size_setCell, World.size_drew, size_drewN]); (try dsimp only); omega)) ?_))⟩
    · have hne : (s.toList == (⟨#[]⟩ : ByteArray).toList) = false := by
        rw [beq_eq_false_iff_ne, ByteArray.toList_eq, ByteArray.toList_eq]
        intro q
        have h5 : s.data.toList.length = s.size := by simp
        rw [q] at h5
        have h6 : (⟨#[]⟩ : ByteArray).data.toList.length = 0 := rfl
        omega
      have hne2 : (s.toList == []) = false := by
        rw [beq_eq_false_iff_ne, ByteArray.toList_eq]
        intro q
        have h5 : s.data.toList.length = s.size := by simp
        rw [q, List.length_nil] at h5
        omega
      have h1 : 1 ≤ s.size := by omega
      clear hB h0
      go_enter Try.func49, Try.ntmps49
      go_wp2_with (first | (go_at_call 57; refine (hBin _).mono ?_; rintro e w1 ⟨rfl, hb1⟩; have hz1 := hb1.size) | (go_at_call 90; (with_reducible refine (hSh _).mono ?_); rintro e w1 ⟨rfl, rfl⟩))
      clear hBin hSh hne hne2
      go_loopw [6, 7, 8, 9, 10] (fun av bv' cv dv i wr => ∃ (a b c d : Int) (k : Nat), 1 ≤ k ∧ k ≤ s.size + 1 ∧ i = .int .i64 k ∧ av = .int .i64 a ∧ bv' = .int .i64 b ∧ cv = .int .i64 c ∧ dv = .int .i64 d ∧ Hid (UpI s k a b) ∧ Hid (DnI s k c d) ∧ Below w.heap.size w wr) (fun _ _ _ _ i _ => s.size + 1 - (intOf i).toNat)
      case atStart => exact ⟨-2, 1, 3, 1, 1, by omega, by omega, rfl, rfl, rfl, rfl, rfl, Lib.hid (UpI.start s), Lib.hid (DnI.start s), by (repeat (first | with_reducible exact Below.refl _ _ | assumption | with_reducible refine Qdrew ?_ | with_reducible refine QdrewN ?_ | ((with_reducible refine Qset ?_ ?_); exact (by ((try simp only [World.size_alloc, World.size_setCell, World.size_drew, size_drewN]); (try dsimp only); omega))) | ((with_reducible refine Qalloc ?_ ?_); exact (by ((try simp only [World.size_alloc, World.size_setCell, World.size_drew, size_drewN]); (try dsimp only); omega))) | refine Qtrans (by assumption) (by ((try simp only [World.size_alloc, World.size_setCell, World.size_drew, size_drewN]); (try dsimp only); omega)) ?_))⟩
      case round =>
        obtain ⟨a, b, c, d, k, hk1, hk2, rfl, rfl, rfl, rfl, rfl, hU, hD, hbel⟩ := hrel
        obtain ⟨u1, u2, u3, u4, _, _⟩ := hU.out
        obtain ⟨v1, v2, v3, v4, _, _⟩ := hD.out
        by_cases hlt : k ≤ s.size
        · have hS := fun w => spread_any s k h400 hk1 hlt w
          have hle := hiS_le s k hlt
          have hlo := loS_le s k
          have yU := Lib.hid (fun q => hU.out.yes hk1 (by omega) hlt q)
          have nU := Lib.hid (fun q => hU.out.no hk1 q)
          have yD := Lib.hid (fun q => hD.out.yes hk1 (by omega) q)
          have nD := Lib.hid (fun q => hD.out.no hk1 q)
          generalize hiS s k = hi at *
          generalize loS s k = lo at *
          have j1 : (k : Int) ≤ (s.size : Int) := by omega
          have e1 : IntKind.i64.wrap ((hi : Int) - 1) = (hi : Int) - 1 := IntWalk.i64_in _ (by omega)
          have e2 : IntKind.i64.wrap ((lo : Int) + 1) = (lo : Int) + 1 := IntWalk.i64_in _ (by omega)
          have p1 := mul_bound (A := (hi : Int) - 1) (D := b) (m := 61) (by omega) (by omega)
          have p2 := mul_bound (A := a) (D := (k : Int)) (m := 61) (by omega) (by omega)
          have p3 := mul_bound (A := (lo : Int) + 1) (D := d) (m := 61) (by omega) (by omega)
          have p4 := mul_bound (A := c) (D := (k : Int)) (m := 61) (by omega) (by omega)
          have f1 : IntKind.i64.wrap (((hi : Int) - 1) * b) = ((hi : Int) - 1) * b := IntWalk.i64_in _ (by omega)
          have f2 : IntKind.i64.wrap (a * (k : Int)) = a * (k : Int) := IntWalk.i64_in _ (by omega)
          have f3 : IntKind.i64.wrap (((lo : Int) + 1) * d) = ((lo : Int) + 1) * d := IntWalk.i64_in _ (by omega)
          have f4 : IntKind.i64.wrap (c * (k : Int)) = c * (k : Int) := IntWalk.i64_in _ (by omega)
          have f5 : IntKind.i64.wrap ((k : Int) + 1) = (k : Int) + 1 := IntWalk.i64_in _ (by omega)
          clear p1 p2 p3 p4
          by_cases g1 : a * (k : Int) < ((hi : Int) - 1) * b
          · have U' := Lib.hid (yU.out g1)
            by_cases g2 : ((lo : Int) + 1) * d < c * (k : Int)
            · have D' := Lib.hid (yD.out g2)
              clear yU nU yD nD
              go_wp2_with (go_at_call 82; (with_reducible refine (hS _).mono ?_); rintro e w2 ⟨rfl, rfl⟩)
              exact ⟨⟨_, _, _, _, k + 1, by omega, by omega, by go_num, rfl, rfl, rfl, rfl, U', D', hbel⟩, by simp [intOf]; omega⟩
            · have D' := Lib.hid (nD.out g2)
              clear yU nU yD nD
              go_wp2_with (go_at_call 82; (with_reducible refine (hS _).mono ?_); rintro e w2 ⟨rfl, rfl⟩)
              exact ⟨⟨_, _, _, _, k + 1, by omega, by omega, by go_num, rfl, rfl, rfl, rfl, U', D', hbel⟩, by simp [intOf]; omega⟩
          · have U' := Lib.hid (nU.out g1)
            by_cases g2 : ((lo : Int) + 1) * d < c * (k : Int)
            · have D' := Lib.hid (yD.out g2)
              clear yU nU yD nD
              go_wp2_with (go_at_call 82; (with_reducible refine (hS _).mono ?_); rintro e w2 ⟨rfl, rfl⟩)
              exact ⟨⟨_, _, _, _, k + 1, by omega, by omega, by go_num, rfl, rfl, rfl, rfl, U', D', hbel⟩, by simp [intOf]; omega⟩
            · have D' := Lib.hid (nD.out g2)
              clear yU nU yD nD
              go_wp2_with (go_at_call 82; (with_reducible refine (hS _).mono ?_); rintro e w2 ⟨rfl, rfl⟩)
              exact ⟨⟨_, _, _, _, k + 1, by omega, by omega, by go_num, rfl, rfl, rfl, rfl, U', D', hbel⟩, by simp [intOf]; omega⟩
        · obtain rfl : k = s.size + 1 := by omega
          have j1 : ¬ ((s.size + 1 : Nat) : Int) ≤ (s.size : Int) := by omega
          have hiff := slopes_iff h1 hU.out hD.out
          obtain ⟨b', rfl⟩ : ∃ b' : Nat, b = (b' : Int) := ⟨b.toNat, by omega⟩
          obtain ⟨c', rfl⟩ : ∃ c' : Nat, c = (c' : Int) := ⟨c.toNat, by omega⟩
          obtain ⟨d', rfl⟩ : ∃ d' : Nat, d = (d' : Int) := ⟨d.toNat, by omega⟩
          obtain ⟨A, B, hA, hB', hB1⟩ := reduced a b' (by omega)
          obtain ⟨C, D, hC, hD', hD1⟩ := reduced (c' : Int) d' (by omega)
          rw [Int.natAbs_natCast] at hC hD'
          have g1 : 1 ≤ Nat.gcd a.natAbs b' := Nat.gcd_pos_of_pos_right _ (by omega)
          have g2 : 1 ≤ Nat.gcd c' d' := Nat.gcd_pos_of_pos_right _ (by omega)
          have m1 : max a (-a) = (a.natAbs : Int) := by omega
          have c1 := fun w => divisor_any a.natAbs b' w (by omega) (by omega)
          have c2 := fun w => divisor_any c' d' w (by omega) (by omega)
          generalize Nat.gcd a.natAbs b' = g at *
          generalize Nat.gcd c' d' = h at *
          have t1 : a.tdiv (g : Int) = A := by rw [hA]; exact Int.mul_tdiv_cancel _ (by omega)
          have t2 : (b' : Int).tdiv (g : Int) = B := by rw [hB']; exact Int.mul_tdiv_cancel _ (by omega)
          have t3 : (c' : Int).tdiv (h : Int) = C := by rw [hC]; exact Int.mul_tdiv_cancel _ (by omega)
          have t4 : (d' : Int).tdiv (h : Int) = D := by rw [hD']; exact Int.mul_tdiv_cancel _ (by omega)
          have s1 := small_mul (A := A) (g := g) (m := 61) g1 (by omega) (by omega) (by omega)
          have s2 := small_mul (A := B) (g := g) (m := 61) g1 (by omega) (by omega) (by omega)
          have s3 := small_mul (A := C) (g := h) (m := 61) g2 (by omega) (by omega) (by omega)
          have s4 := small_mul (A := D) (g := h) (m := 61) g2 (by omega) (by omega) (by omega)
          have w1 : IntKind.i64.wrap A = A := IntWalk.i64_in _ (by omega)
          have w2 : IntKind.i64.wrap B = B := IntWalk.i64_in _ (by omega)
          have w3 : IntKind.i64.wrap C = C := IntWalk.i64_in _ (by omega)
          have w4 : IntKind.i64.wrap D = D := IntWalk.i64_in _ (by omega)
          have n1 : IntKind.i64.wrap (-a) = -a := IntWalk.i64_in _ (by omega)
          have z1 : ¬ (g : Int) = 0 := by omega
          have z2 : ¬ (h : Int) = 0 := by omega
          have z3 : ((g : Int) == 0) = false := by simpa using z1
          have z4 : ((h : Int) == 0) = false := by simpa using z2
          have hfin : Hid (A * D < C * B ↔ balP s) := by
            show _ ↔ _
            rw [← hiff, hA, hB', hC, hD']
            exact (reduced_lt g1 g2).symm
          have hz := hbel.size
          clear hiff hA hB' hC hD' hU hD u1 u2 u3 u4 v1 v2 v3 v4
          go_wp2_with (first | (go_at_call 86; (with_reducible refine (c1 _).mono ?_); rintro e w5 ⟨rfl, hb5⟩; have hz5 := hb5.size) | (go_at_call 86; (with_reducible refine (c2 _).mono ?_); rintro e w6 ⟨rfl, hb6⟩))
          go_region
          all_goals
            go_wp2_with fail
            refine bodyPost_ret (v := .tuple #[.int .i64 A, .int .i64 B, .int .i64 C, .int .i64 D]) (by simp [results, Try.results49, go_sem, *]) rfl ⟨A, B, C, D, rfl, s1, s2, s3, s4, fun _ _ => ⟨hB1, hD1, hfin.out⟩, Below.drew (Qtrans hb6 (by omega) (Qtrans hb5 hz hbel))⟩
  · rw [decide_eq_false h60] at hSh
    clear hB
    go_enter Try.func49, Try.ntmps49
    go_wp2_with (first | (go_at_call 57; refine (hBin _).mono ?_; rintro e w1 ⟨rfl, hb1⟩; have hz1 := hb1.size) | (go_at_call 90; (with_reducible refine (hSh _).mono ?_); rintro e w1 ⟨rfl, rfl⟩))
    refine bodyPost_ret (v := .tuple #[.int .i64 0, .int .i64 0, .int .i64 0, .int .i64 0]) (by simp [results, Try.results49, go_sem, *]) rfl ⟨0, 0, 0, 0, rfl, by omega, by omega, by omega, by omega, fun _ h => absurd h h60, by (repeat (first | with_reducible exact Below.refl _ _ | assumption | with_reducible refine Qdrew ?_ | with_reducible refine QdrewN ?_ | ((with_reducible refine Qset ?_ ?_); exact (by ((try simp only [World.size_alloc, World.size_setCell, World.size_drew, size_drewN]); (try dsimp only); omega))) | ((with_reducible refine Qalloc ?_ ?_); exact (by ((try simp only [World.size_alloc, World.size_setCell, World.size_drew, size_drewN]); (try dsimp only); omega))) | refine Qtrans (by assumption) (by ((try simp only [World.size_alloc, World.size_setCell, World.size_drew, size_drewN]); (try dsimp only); omega)) ?_))⟩
end Go.Proofs.Ytilbhingfnjppab
