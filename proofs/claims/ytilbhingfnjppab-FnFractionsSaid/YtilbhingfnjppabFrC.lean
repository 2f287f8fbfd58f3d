/- The path to a fraction: the walk. -/
import Derived.Test.YtilbhingfnjppabFrB
import Derived.Test.YtilbhingfnjppabGcd
set_option linter.unusedSimpArgs false
set_option linter.unusedVariables false
namespace Go.Proofs.Ytilbhingfnjppab
open Go.RowKit
set_option maxRecDepth 20000 in
set_option maxHeartbeats 4000000 in
theorem Path_any (p q : Nat) (hp1 : 1 ≤ p) (hp : p ≤ 60) (hq1 : 1 ≤ q) (hq : q ≤ 60) (hg : Nat.gcd p q = 1) (w : World) :
    Calls Try.prog 43 #[.int .i64 p, .int .i64 q] w fun e w' => e = .returned (.string ⟨(sb p q).toArray⟩) ∧ Below w.heap.size w w' := by
  obtain ⟨i0, hi0, hz0, hz1, hz2⟩ := info_parts infoB
  have hI1 : ∀ w, Calls Try.prog 65 #[.int .i64 p, .int .i64 1, .int .i64 400] w fun e w' => e = .returned (.bool true) ∧ w = w' := fun w => by
    have := within_any (p : Int) 1 400 w
    rwa [inB_true.2 (by omega)] at this
  have hI2 : ∀ w, Calls Try.prog 65 #[.int .i64 q, .int .i64 1, .int .i64 400] w fun e w' => e = .returned (.bool true) ∧ w = w' := fun w => by
    have := within_any (q : Int) 1 400 w
    rwa [inB_true.2 (by omega)] at this
  have hD : ∀ w, Calls Try.prog 86 #[.int .i64 p, .int .i64 q] w fun e w' => e = .returned (.int .i64 1) ∧ Below w.heap.size w w' := fun w => by
    have := divisor_any p q w (by omega) (by omega)
    rw [hg] at this
    exact this
  go_enter Try.func43, Try.ntmps43
  go_upto_region 3 with (first | (go_at_call 65; (with_reducible refine (hI1 _).mono ?_); rintro e w1 ⟨rfl, rfl⟩) | (go_at_call 65; (with_reducible refine (hI2 _).mono ?_); rintro e w1 ⟨rfl, rfl⟩) | (go_at_call 86; (with_reducible refine (hD _).mono ?_); rintro e w2 ⟨rfl, hb2⟩))
  have hzb := hb2.size
  have hown0 := World.ownsRow_lit (base := w.heap.size) (e := 5) (size := 1) w2 #[] 0 hzb (by decide) rfl
  go_wp2_with fail
  go_loopw [5, 6, 7, 8, 9] (fun o av bv' cv dv wr => ∃ (a b c d u v g cp : Nat) (acc : List UInt8), o = .slice (some ⟨g, 0, none⟩) acc.length cp ∧ av = .int .i64 a ∧ bv' = .int .i64 b ∧ cv = .int .i64 c ∧ dv = .int .i64 d ∧ Hid (Sb p q a b c d u v) ∧ acc.length + u + v ≤ p + q ∧ Hid (acc ++ sb u v = sb p q) ∧ wr.ownsRow w.heap.size 5 1 (.slice (some ⟨g, 0, none⟩) acc.length cp) acc.length (bv acc) ∧ w.heap.size ≤ wr.heap.size ∧ Below w.heap.size w wr) (fun o _ _ _ _ _ => p + q - (match o with | .slice _ n _ => n | _ => 0))
  case atStart => exact ⟨0, 1, 1, 0, p, q, w2.heap.size, 0, [], rfl, rfl, rfl, rfl, rfl, Lib.hid (Sb.start hp1 hq1), by simp, Lib.hid rfl, hown0, by simp; omega, hb2.alloc hzb _⟩
  case round =>
    clear hown0
    obtain ⟨a, b, c, d, u, v, g, cp, acc, rfl, rfl, rfl, rfl, rfl, hs, hal, heq, hown, hz, hbel⟩ := hrel
    have hu1 := hs.out.u1
    have hv1 := hs.out.v1
    obtain ⟨l1, l2⟩ := hs.out.le
    have hcm := hs.out.cmp
    have hL := Lib.hid (fun h => hs.out.left (h : u < v))
    have hR := Lib.hid (fun h => hs.out.right (h : v < u))
    have m1 : p * (b + d) ≤ 60 * 60 := Nat.mul_le_mul hp (by omega)
    have m2 : (a + c) * q ≤ 60 * 60 := Nat.mul_le_mul (by omega) hq
    have i1 : IntKind.i64.wrap ((a : Int) + (c : Int)) = ((a + c : Nat) : Int) := by rw [IntWalk.i64_in _ (by omega)]; omega
    have i2 : IntKind.i64.wrap ((b : Int) + (d : Int)) = ((b + d : Nat) : Int) := by rw [IntWalk.i64_in _ (by omega)]; omega
    obtain ⟨m, hm⟩ : ∃ m, a + c = m := ⟨_, rfl⟩
    obtain ⟨n, hn⟩ : ∃ n, b + d = n := ⟨_, rfl⟩
    rw [hm] at i1 m2 hcm hL hR l1
    rw [hn] at i2 m1 hcm hL hR l2
    obtain ⟨P, hP⟩ : ∃ P, p * n = P := ⟨_, rfl⟩
    obtain ⟨M, hM⟩ : ∃ M, m * q = M := ⟨_, rfl⟩
    have i3 : IntKind.i64.wrap ((p : Int) * (n : Int)) = (P : Int) := by rw [← hP, ← Int.natCast_mul, IntWalk.i64_in _ (by rw [hP] at m1 ⊢; omega)]
    have i4 : IntKind.i64.wrap ((m : Int) * (q : Int)) = (M : Int) := by rw [← hM, ← Int.natCast_mul, IntWalk.i64_in _ (by rw [hM] at m2 ⊢; omega)]
    rw [hP, hM] at hcm
    clear hm hn hP hM hs
    by_cases h1 : u < v
    · have j1 : (P : Int) < (M : Int) := by omega
      have hh : Hid ((acc ++ [76]) ++ sb u (v - u) = sb p q) := by show _ = _; rw [← heq.out, sb_left hu1 h1, List.append_assoc]; rfl
      have hS' := Lib.hid (hL.out h1)
      clear heq hL hR
      go_wp2_with (at_builtin; refine wpList_append_lies _ rfl _ _ _ rfl (w.heap.size) 5 i0 _ 1 1 Try.underlying22 hi0 hz0 hz1 hz2 rfl (by decide) (_) (acc.length) (bv acc) (by rfl) (hown.alloc _) ⟨(wr).heap.size, 0, none⟩ 1 1 [.int .u8 76] (by rfl) (by rfl) (World.news_of_block (cs := #[.int .u8 76]) (t := 5) (fr := (0, 0)) (heap_alloc_new (wr) _)) (by simp [Value.oneCell']) (by omega) (by unfold maxLen; omega) (by omega) (by simp; omega) ((wr).heap.size + 1) (by simp) ?_; intro gg cap w1 hown1 hgrow hatg hltg)
      refine ⟨⟨a, b, m, n, u, v - u, gg, cap, acc ++ [76], by rw [List.length_append]; rfl, rfl, rfl, rfl, rfl, hS', by rw [List.length_append]; simp; omega, hh, ?_, by have := size_app hgrow; omega, below_app hbel hz hown hgrow⟩, by simp only; omega⟩
      rw [List.length_append]
      simpa [bv] using hown1
    · by_cases h2 : v < u
      · have j1 : ¬ (P : Int) < (M : Int) := by omega
        have j2 : (M : Int) < (P : Int) := by omega
        have hh : Hid ((acc ++ [82]) ++ sb (u - v) v = sb p q) := by show _ = _; rw [← heq.out, sb_right hv1 h2, List.append_assoc]; rfl
        have hS' := Lib.hid (hR.out h2)
        clear heq hL hR
        go_wp2_with (at_builtin; refine wpList_append_lies _ rfl _ _ _ rfl (w.heap.size) 5 i0 _ 1 1 Try.underlying22 hi0 hz0 hz1 hz2 rfl (by decide) (_) (acc.length) (bv acc) (by rfl) (hown.alloc _) ⟨(wr).heap.size, 0, none⟩ 1 1 [.int .u8 82] (by rfl) (by rfl) (World.news_of_block (cs := #[.int .u8 82]) (t := 5) (fr := (0, 0)) (heap_alloc_new (wr) _)) (by simp [Value.oneCell']) (by omega) (by unfold maxLen; omega) (by omega) (by simp; omega) ((wr).heap.size + 1) (by simp) ?_; intro gg cap w1 hown1 hgrow hatg hltg)
        refine ⟨⟨m, n, c, d, u - v, v, gg, cap, acc ++ [82], by rw [List.length_append]; rfl, rfl, rfl, rfl, rfl, hS', by rw [List.length_append]; simp; omega, hh, ?_, by have := size_app hgrow; omega, below_app hbel hz hown hgrow⟩, by simp only; omega⟩
        rw [List.length_append]
        simpa [bv] using hown1
      · have j1 : ¬ (P : Int) < (M : Int) := by omega
        have j2 : ¬ (M : Int) < (P : Int) := by omega
        have hE : Hid (acc = sb p q) := by have := heq.out; rw [sb_end hu1 (by omega), List.append_nil] at this; exact this
        have hcv := own_string hown
        clear heq hL hR
        go_wp2_with fail
        go_ret
        exact ⟨by rw [← hE.out]; rfl, hbel⟩
theorem bt_listF (l : List UInt8) (j : Nat) (h : j < l.length) : bt ⟨l.toArray⟩ j = ((l.getD j 0).toNat : Int) := by
  have : j < (⟨l.toArray⟩ : ByteArray).size := by simpa [ByteArray.size] using h
  simp [bt, this, ByteArray.getElem_eq_getElem_data, List.getD_eq_getElem?_getD, h]
theorem Sb.one {p q a b c d u : Nat} (h : Sb p q a b c d u u) (hg : Nat.gcd p q = 1) : u = 1 := by
  have h1 : u ∣ p := ⟨a + c, by rw [← h.e1, Nat.mul_add, Nat.mul_comm a, Nat.mul_comm c]⟩
  have h2 : u ∣ q := ⟨b + d, by rw [← h.e2, Nat.mul_add, Nat.mul_comm b, Nat.mul_comm d]⟩
  have := Nat.dvd_gcd h1 h2
  rw [hg] at this
  exact Nat.dvd_one.1 this
set_option maxRecDepth 20000 in
set_option maxHeartbeats 4000000 in
theorem FracAt_any (p q : Nat) (hp1 : 1 ≤ p) (hp : p ≤ 60) (hq1 : 1 ≤ q) (hq : q ≤ 60) (hg : Nat.gcd p q = 1) (w : World) :
    Calls Try.prog 44 #[.string ⟨(sb p q).toArray⟩] w fun e w' => e = .returned (.tuple #[.int .i64 p, .int .i64 q, .bool true]) ∧ Below w.heap.size w w' := by
  have hlen := sb_len (p + q) p q (Nat.le_refl _) hp1 hq1
  have hbl := Lib.hid (bt_listF (sb p q))
  have hsz : (⟨(sb p q).toArray⟩ : ByteArray).size = (sb p q).length := by simp [ByteArray.size]
  obtain ⟨N, hN⟩ : ∃ N, (sb p q).length = N := ⟨_, rfl⟩
  rw [hN] at hlen hsz
  have hNH := Lib.hid hN
  obtain ⟨s, hs⟩ : ∃ s, (⟨(sb p q).toArray⟩ : ByteArray) = s := ⟨_, rfl⟩
  rw [hs] at hsz hbl ⊢
  have hb : ∀ j (h : j < s.size), ((s[j]'h).toNat : Int) = bt s j := fun j h => bt_eq s j h
  have h400 : ¬ (400 : Int) < (s.size : Int) := by omega
  clear hN hs
  go_enter Try.func44, Try.ntmps44
  go_wp2_with fail
  go_loopw [5, 6, 7, 8, 15] (fun av bv' cv dv i wr => ∃ (a b c d u v k : Nat) (pre : List UInt8), av = .int .i64 a ∧ bv' = .int .i64 b ∧ cv = .int .i64 c ∧ dv = .int .i64 d ∧ i = .int .i64 k ∧ k ≤ s.size ∧ pre.length = k ∧ Hid (Sb p q a b c d u v) ∧ Hid (pre ++ sb u v = sb p q) ∧ w = wr) (fun _ _ _ _ i _ => s.size - (intOf i).toNat)
  case atStart => exact ⟨0, 1, 1, 0, p, q, 0, [], rfl, rfl, rfl, rfl, rfl, by omega, rfl, Lib.hid (Sb.start hp1 hq1), Lib.hid rfl, by first | rfl | trivial⟩
  case round =>
    obtain ⟨a, b, c, d, u, v, k, pre, rfl, rfl, rfl, rfl, rfl, hk, hpl, hS, heq, hw⟩ := hrel
    subst hw
    have hu1 := hS.out.u1
    have hv1 := hS.out.v1
    obtain ⟨l1, l2⟩ := hS.out.le
    have hlt0 : k + (sb u v).length = s.size := by
      have := congrArg List.length heq.out
      rw [List.length_append, hNH.out] at this; omega
    have i1 : IntKind.i64.wrap ((a : Int) + (c : Int)) = ((a + c : Nat) : Int) := by rw [IntWalk.i64_in _ (by omega)]; omega
    have i2 : IntKind.i64.wrap ((b : Int) + (d : Int)) = ((b + d : Nat) : Int) := by rw [IntWalk.i64_in _ (by omega)]; omega
    by_cases huv : u = v
    · subst huv
      have h1 := hS.out.one hg
      subst h1
      obtain ⟨f1, f2⟩ := hS.out.fin
      rw [f1] at i1
      rw [f2] at i2
      have hend := sb_end hu1 (rfl : 1 = 1)
      rw [hend] at hlt0
      have hk2 : ¬ (k : Int) < (s.size : Int) := by simp at hlt0; omega
      clear heq hS hend f1 f2
      go_wp2_with fail
      refine bodyPost_ret (v := .tuple #[.int .i64 p, .int .i64 q, .bool true]) (by simp [results, Try.results44, go_sem, *]) rfl ⟨rfl, Below.refl _ _⟩
    · by_cases h1 : u < v
      · have hsb := sb_left hu1 h1
        have hS' := hS.out.left h1
        obtain ⟨z1, z2⟩ := hS'.le
        have hbt : bt s k = 76 := by
          have hk2 : k < (sb p q).length := by rw [hNH.out, ← hsz, ← hlt0, hsb, List.length_cons]; omega
          rw [hbl.out k hk2, ← heq.out, hsb, List.getD_eq_getElem?_getD, List.getElem?_append_right (by omega), hpl, Nat.sub_self]; rfl
        have hh : Hid ((pre ++ [76]) ++ sb u (v - u) = sb p q) := by show _ = _; rw [← heq.out, hsb, List.append_assoc]; rfl
        have hks : k < s.size := by rw [hsb, List.length_cons] at hlt0; omega
        have hS'H := Lib.hid hS'
        have j0 : (0 : Int) ≤ (k : Int) := by omega
        have j1 : (k : Int) < (s.size : Int) := by omega
        have j2 : IntKind.i64.wrap ((k : Int) + 1) = (k : Int) + 1 := IntWalk.i64_in _ (by omega)
        obtain ⟨m, hm⟩ : ∃ m, a + c = m := ⟨_, rfl⟩
        obtain ⟨n, hn⟩ : ∃ n, b + d = n := ⟨_, rfl⟩
        rw [hm] at i1 hS'H z1
        rw [hn] at i2 hS'H z2
        have k1 : ¬ (1000000000 : Int) < ((a : Int) + (m : Int)) := by omega
        have k2 : ¬ (1000000000 : Int) < ((b : Int) + (n : Int)) := by omega
        have k3 : IntKind.i64.wrap ((a : Int) + (m : Int)) = (a : Int) + (m : Int) := IntWalk.i64_in _ (by omega)
        have k4 : IntKind.i64.wrap ((b : Int) + (n : Int)) = (b : Int) + (n : Int) := IntWalk.i64_in _ (by omega)
        clear hsb hm hn heq hS hS' hlt0 huv
        go_wp2_with fail
        exact ⟨⟨a, b, m, n, u, v - u, k + 1, pre ++ [76], rfl, rfl, rfl, rfl, by go_num, by omega, by simp [hpl], hS'H, hh, by first | rfl | trivial⟩, by simp [intOf]; omega⟩
      · have h2 : v < u := by omega
        have hsb := sb_right hv1 h2
        have hS' := hS.out.right h2
        obtain ⟨z1, z2⟩ := hS'.le
        have hbt : bt s k = 82 := by
          have hk2 : k < (sb p q).length := by rw [hNH.out, ← hsz, ← hlt0, hsb, List.length_cons]; omega
          rw [hbl.out k hk2, ← heq.out, hsb, List.getD_eq_getElem?_getD, List.getElem?_append_right (by omega), hpl, Nat.sub_self]; rfl
        have hh : Hid ((pre ++ [82]) ++ sb (u - v) v = sb p q) := by show _ = _; rw [← heq.out, hsb, List.append_assoc]; rfl
        have hks : k < s.size := by rw [hsb, List.length_cons] at hlt0; omega
        have hS'H := Lib.hid hS'
        have j0 : (0 : Int) ≤ (k : Int) := by omega
        have j1 : (k : Int) < (s.size : Int) := by omega
        have j2 : IntKind.i64.wrap ((k : Int) + 1) = (k : Int) + 1 := IntWalk.i64_in _ (by omega)
        obtain ⟨m, hm⟩ : ∃ m, a + c = m := ⟨_, rfl⟩
        obtain ⟨n, hn⟩ : ∃ n, b + d = n := ⟨_, rfl⟩
        rw [hm] at i1 hS'H z1
        rw [hn] at i2 hS'H z2
        have k1 : ¬ (1000000000 : Int) < ((m : Int) + (c : Int)) := by omega
        have k2 : ¬ (1000000000 : Int) < ((n : Int) + (d : Int)) := by omega
        have k3 : IntKind.i64.wrap ((m : Int) + (c : Int)) = (m : Int) + (c : Int) := IntWalk.i64_in _ (by omega)
        have k4 : IntKind.i64.wrap ((n : Int) + (d : Int)) = (n : Int) + (d : Int) := IntWalk.i64_in _ (by omega)
        clear hsb hm hn heq hS hS' hlt0 huv h1
        go_wp2_with fail
        exact ⟨⟨m, n, c, d, u - v, v, k + 1, pre ++ [82], rfl, rfl, rfl, rfl, by go_num, by omega, by simp [hpl], hS'H, hh, by first | rfl | trivial⟩, by simp [intOf]; omega⟩
end Go.Proofs.Ytilbhingfnjppab
