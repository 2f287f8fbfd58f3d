/- Spread and balance: the walks. -/
import Derived.Test.YtilbhingfnjppabFrE
set_option linter.unusedSimpArgs false
set_option linter.unusedVariables false
namespace Go.Proofs.Ytilbhingfnjppab
open Go.RowKit
set_option maxRecDepth 20000 in
set_option maxHeartbeats 2000000 in
theorem spread_any (s : ByteArray) (n : Nat) (hs : s.size ≤ 400) (hn1 : 1 ≤ n) (hn : n ≤ s.size) (w : World) :
    Calls Try.prog 82 #[.string s, .int .i64 n] w fun e w' => e = .returned (.tuple #[.int .i64 (loS s n), .int .i64 (hiS s n)]) ∧ w = w' := by
  go_enter Try.func82, Try.ntmps82
  go_wp2_with fail
  go_loopw [6, 7, 8] (fun a b i wr => ∃ k lo hi : Nat, k + n ≤ s.size + 1 ∧ i = .int .i64 k ∧ a = .int .i64 lo ∧ b = .int .i64 hi ∧ Hid (loF s n k = lo) ∧ Hid (hiF s n k = hi) ∧ w = wr) (fun _ _ i _ => s.size + 1 - (intOf i).toNat)
  case atStart => exact ⟨0, n, 0, by omega, rfl, rfl, rfl, Lib.hid rfl, Lib.hid rfl, by first | rfl | trivial⟩
  case round =>
    obtain ⟨k, lo, hi, hkn, rfl, rfl, rfl, hlo, hhi, rfl⟩ := hrel
    by_cases hlt : k + n ≤ s.size
    · have hwc := win_count s n k
      have hl1 : Hid (loF s n (k + 1) = min lo (win s n k)) := by show _ = _; rw [loF, hlo.out]
      have hl2 : Hid (hiF s n (k + 1) = max hi (win s n k)) := by show _ = _; rw [hiF, hhi.out]
      have hle := win_le s n k hlt
      obtain ⟨z, hz⟩ : ∃ z, win s n k = z := ⟨_, rfl⟩
      rw [hz] at hwc hl1 hl2 hle
      have hwc' : Lib.countByte (s.extract k (k + n)).data.toList 98 = z := hwc
      have e1 : IntKind.i64.wrap ((k : Int) + (n : Int)) = ((k + n : Nat) : Int) := by rw [IntWalk.i64_in _ (by omega)]; omega
      have e2 : ((k + n : Nat) : Int) ≤ (s.size : Int) := by omega
      have e3 : ((k + n : Nat) : Int).toNat = k + n := by omega
      clear hwc hz
      go_wp2_with (go_at_call 81; refine (Try.strings_Count_one _ 98 _).mono ?_; rintro e w1 ⟨rfl, rfl⟩; rw [hwc'])
      exact ⟨⟨k + 1, min lo z, max hi z, by omega, by go_num, by (first | (congr 1; omega) | (simp only [Value.int.injEq, true_and]; omega) | (apply vi64; omega)), by (first | (congr 1; omega) | (simp only [Value.int.injEq, true_and]; omega) | (apply vi64; omega)), hl1, hl2, by first | rfl | trivial⟩, by simp [intOf]; omega⟩
    · obtain rfl : k = s.size + 1 - n := by omega
      have e1 : IntKind.i64.wrap (((s.size + 1 - n : Nat) : Int) + (n : Int)) = ((s.size + 1 : Nat) : Int) := by rw [IntWalk.i64_in _ (by omega)]; omega
      go_wp2_with fail
      refine bodyPost_ret (v := .tuple #[.int .i64 (loS s n), .int .i64 (hiS s n)]) (by rw [show loS s n = lo from hlo.out, show hiS s n = hi from hhi.out]; simp [results, Try.results82, go_sem, *]) rfl ⟨rfl, rfl⟩
open Classical in
noncomputable def balB (s : ByteArray) : Bool := binB s && decide (balP s)
theorem balB_no {s : ByteArray} {n : Nat} (h1 : 1 ≤ n) (h2 : n ≤ s.size) (h : ¬ hiS s n ≤ loS s n + 1) : balB s = false := by
  have : ¬ balP s := fun q => h (q n h1 h2)
  simp [balB, this]
theorem balB_yes {s : ByteArray} (hb : binB s = true) (h : balP s) : balB s = true := by simp [balB, hb, h]
set_option maxRecDepth 20000 in
set_option maxHeartbeats 2000000 in
theorem IsBalanced_any (s : ByteArray) (w : World) (hs : s.size ≤ 9223372036854775807) :
    Calls Try.prog 41 #[.string s] w fun e w' => e = .returned (.bool (balB s)) ∧ Below w.heap.size w w' := by
  cases hB : binB s
  · have hf : Hid (balB s = false) := by show _ = _; simp [balB, hB]
    go_enter Try.func41, Try.ntmps41
    go_wp2_with ((go_at_call 57; refine (implBin_any s _ hs).mono ?_; rintro e w1 ⟨rfl, hb1⟩; have hz1 := hb1.size))
    go_ret
    exact ⟨by rw [hf.out]; rfl, by (repeat (first | with_reducible exact Below.refl _ _ | assumption | with_reducible refine Qdrew ?_ | with_reducible refine QdrewN ?_ | ((with_reducible refine Qset ?_ ?_); exact (by ((try simp only [World.size_alloc, World.size_setCell, World.size_drew, size_drewN]); (try dsimp only); omega))) | ((with_reducible refine Qalloc ?_ ?_); exact (by ((try simp only [World.size_alloc, World.size_setCell, World.size_drew, size_drewN]); (try dsimp only); omega))) | refine Qtrans (by assumption) (by ((try simp only [World.size_alloc, World.size_setCell, World.size_drew, size_drewN]); (try dsimp only); omega)) ?_))⟩
  have h400 : s.size ≤ 400 := by
    have : isWB s = true := ((Bool.and_eq_true _ _).mp hB).1
    exact (isW_of this).1
  go_enter Try.func41, Try.ntmps41
  go_wp2_with ((go_at_call 57; refine (implBin_any s _ hs).mono ?_; rintro e w1 ⟨rfl, hb1⟩; have hz1 := hb1.size))
  go_loopw [3] (fun i wr => ∃ n : Nat, 1 ≤ n ∧ n ≤ s.size + 1 ∧ i = .int .i64 n ∧ Hid (∀ m, 1 ≤ m → m < n → hiS s m ≤ loS s m + 1) ∧ Below w.heap.size w wr) (fun i _ => s.size + 1 - (intOf i).toNat)
  case atStart => exact ⟨1, by omega, by omega, rfl, Lib.hid (fun _ h1 h2 => absurd h2 (by omega)), by (repeat (first | with_reducible exact Below.refl _ _ | assumption | with_reducible refine Qdrew ?_ | with_reducible refine QdrewN ?_ | ((with_reducible refine Qset ?_ ?_); exact (by ((try simp only [World.size_alloc, World.size_setCell, World.size_drew, size_drewN]); (try dsimp only); omega))) | ((with_reducible refine Qalloc ?_ ?_); exact (by ((try simp only [World.size_alloc, World.size_setCell, World.size_drew, size_drewN]); (try dsimp only); omega))) | refine Qtrans (by assumption) (by ((try simp only [World.size_alloc, World.size_setCell, World.size_drew, size_drewN]); (try dsimp only); omega)) ?_))⟩
  case round =>
    obtain ⟨n, hn1, hn2, rfl, hall, hbel⟩ := hrel
    by_cases hlt : n ≤ s.size
    · have hS := fun w => spread_any s n h400 hn1 hlt w
      have hlh := lo_hi s n hlt
      have hle := hiS_le s n hlt
      have hnx := Lib.hid (fun (hq : hiS s n ≤ loS s n + 1) => (fun m (h1 : 1 ≤ m) (h2 : m < n + 1) => by
        by_cases e : m = n
        · subst e; exact hq
        · exact hall.out m h1 (by omega) : ∀ m, 1 ≤ m → m < n + 1 → hiS s m ≤ loS s m + 1))
      have hno := Lib.hid (balB_no (s := s) hn1 hlt)
      generalize hiS s n = hi at *
      generalize loS s n = lo at *
      have hlt' : (n : Int) ≤ (s.size : Int) := by omega
      have e1 : IntKind.i64.wrap ((hi : Int) - (lo : Int)) = ((hi - lo : Nat) : Int) := by rw [IntWalk.i64_in _ (by omega)]; omega
      by_cases hd : hi ≤ lo + 1
      · have hall' := Lib.hid (hnx.out hd)
        have e2 : ¬ (1 : Int) < ((hi - lo : Nat) : Int) := by omega
        clear hnx hno
        go_wp2_with (go_at_call 82; refine (hS _).mono ?_; rintro e w1 ⟨rfl, rfl⟩)
        exact ⟨⟨n + 1, by omega, by omega, by go_num, hall', hbel⟩, by simp [intOf]; omega⟩
      · have hf := Lib.hid (hno.out hd)
        have e2 : (1 : Int) < ((hi - lo : Nat) : Int) := by omega
        clear hnx hno
        go_wp2_with (go_at_call 82; refine (hS _).mono ?_; rintro e w1 ⟨rfl, rfl⟩)
        go_ret
        exact ⟨by rw [hf.out]; rfl, by (repeat (first | with_reducible exact Below.refl _ _ | assumption | with_reducible refine Qdrew ?_ | with_reducible refine QdrewN ?_ | ((with_reducible refine Qset ?_ ?_); exact (by ((try simp only [World.size_alloc, World.size_setCell, World.size_drew, size_drewN]); (try dsimp only); omega))) | ((with_reducible refine Qalloc ?_ ?_); exact (by ((try simp only [World.size_alloc, World.size_setCell, World.size_drew, size_drewN]); (try dsimp only); omega))) | refine Qtrans (by assumption) (by ((try simp only [World.size_alloc, World.size_setCell, World.size_drew, size_drewN]); (try dsimp only); omega)) ?_))⟩
    · have hf := Lib.hid (balB_yes (s := s) hB (fun m h1 h2 => hall.out m h1 (by omega)))
      have hlt' : ¬ (n : Int) ≤ (s.size : Int) := by omega
      go_wp2_with fail
      go_ret
      exact ⟨by rw [hf.out]; rfl, hbel⟩
end Go.Proofs.Ytilbhingfnjppab
