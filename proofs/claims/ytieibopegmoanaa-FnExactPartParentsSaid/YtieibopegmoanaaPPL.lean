/- Parts of parents: every argument, and the law. -/
import Derived.Test.YtieibopegmoanaaPPC
set_option linter.unusedSimpArgs false
set_option linter.unusedVariables false
namespace Go.Proofs.Ytieibopegmoanaa
open Go.RowKit
theorem pvS_size (zs : List ByteArray) (s : ByteArray) : (pvS zs s).size ≤ s.size := by
  have h := pv_eq zs s
  unfold paV at h
  split at h
  · have e : (⟨#[]⟩ : ByteArray) = pvS zs s := by injection h with h; have := congrArg Array.toList h; simp at this; exact this.1
    rw [← e]; exact Nat.zero_le _
  · have e : (⟨(par s zs).toArray⟩ : ByteArray) = pvS zs s := by injection h with h; have := congrArg Array.toList h; simp at this; exact this.1
    rw [← e]
    show (par s zs).toArray.size ≤ _
    rw [List.size_toArray]
    unfold par
    exact its_len s zs _ _
theorem prs_mem {zs : List ByteArray} {s : ByteArray} {most : Nat} : ∀ {k : Nat}, ∀ l ∈ prs zs s most k, ∀ z ∈ l, z.size ≤ s.size
  | 0, l, hl, _, _ => by simp [prs] at hl
  | k + 1, l, hl, z, hz => by
    rw [prs, List.mem_append] at hl
    rcases hl with hl | hl
    · exact prs_mem l hl z hz
    · obtain ⟨_, r, rfl⟩ := (ppk_len zs s most k).2 l hl
      simp only [prow, List.mem_cons, List.not_mem_nil, or_false] at hz
      rcases hz with rfl | rfl | rfl
      · simp [ByteArray.size_extract]; omega
      · have := pvS_size zs (midS s k r); unfold midS at *; rw [ByteArray.size_extract] at this; omega
      · simp [ByteArray.size_extract]
noncomputable def ppL (zs : List ByteArray) (s : ByteArray) : List (List ByteArray) := if (sB zs && isWB s) = true then ppr zs s else []
theorem ppL_size (zs : List ByteArray) (s : ByteArray) (hs : s.size ≤ maxLen) (j : Nat) : ∀ z ∈ (ppL zs s).getD j [], z.size ≤ maxLen := by
  intro z hz
  by_cases hj : j < (ppL zs s).length
  · have hm : (ppL zs s).getD j [] ∈ ppL zs s := by rw [List.getD_eq_getElem?_getD, List.getElem?_eq_getElem hj]; exact List.getElem_mem _
    unfold ppL at hm hz
    split at hm
    · rename_i hk
      rw [if_pos hk] at hz
      have := prs_mem _ hm z hz
      omega
    · simp at hm
  · rw [List.getD_eq_getElem?_getD, List.getElem?_eq_none (by omega)] at hz
    simp at hz
theorem ppL_len (zs : List ByteArray) (s : ByteArray) : (ppL zs s).length ≤ 401 := by
  unfold ppL
  split
  · rename_i hk
    have h1 := prs_len zs s (mx zs) (pM zs s)
    have h2 := (isW_of ((Bool.and_eq_true _ _).mp hk).2).1
    unfold ppr pM at *
    omega
  · simp
/-- Nothing, or rows of rows that nobody else holds. -/
def ORS (w : World) (B : Nat) (x : Option Addr) (n cap : Nat) (L : List (List ByteArray)) : Prop := (x = none ∧ n = 0 ∧ L = []) ∨ ∃ g, x = some ⟨g, 0, none⟩ ∧ OSS w B g n cap L
theorem ors_below {w w' : World} {B n cap : Nat} {x : Option Addr} {L : List (List ByteArray)} (h : ORS w B x n cap L) (hb : Below w.heap.size w w') : ORS w' B x n cap L := by
  rcases h with h | ⟨g, e, h⟩
  · exact .inl h
  · exact .inr ⟨g, e, oss_below h hb⟩
theorem ors_kept {w w' : World} {B n cap g' : Nat} {x : Option Addr} {L : List (List ByteArray)} (h : ORS w B x n cap L) (hg : w.grownBy w' (some g')) (hB : g' < B) : ORS w' B x n cap L := by
  rcases h with h | ⟨g, e, V, f, h1, h2, h3, h4⟩
  · exact .inl h
  · have := (h2.lt g rfl).1
    exact .inr ⟨g, e, V, f, h1, h2.kept hg (.inr (by simp [Value.ownBlock]; omega)), fun j hj => by obtain ⟨q1, q2, q3, q4⟩ := h3 j hj; exact ⟨q1, q2, q3.kept hg (.inr (by have := (q3.lt (f j) rfl).1; simp [Value.ownBlock]; omega)), q4⟩, h4⟩
theorem isSS_ors {w : World} {B n cap : Nat} {x : Option Addr} {L : List (List ByteArray)} (h : ORS w B x n cap L) (hn : n ≤ 9223372036854775807) (hz : ∀ j, ∀ z ∈ L.getD j [], z.size ≤ maxLen) : IsSS w.heap.size w x n L := by
  rcases h with ⟨rfl, rfl, rfl⟩ | ⟨g, rfl, h⟩
  · exact ⟨by omega, fun _ => none, fun _ => 0, .inl rfl, fun r hr => absurd hr (by omega)⟩
  · exact isSS_of h hn hz
set_option maxHeartbeats 1000000 in
theorem markNil (cap k : Nat) (w : World) (hk : k ≤ 1000000) :
    Calls Try.prog 17 #[.slice none 0 cap, .int .i64 k] w fun e w' => e = .returned (.int .i64 k) ∧ w = w' := by
  have hk' : (k : Int) ≤ 1000000 := by omega
  go_enter Try.func17, Try.ntmps17
  go_wp2_with fail
  go_loopw [1, 5] (fun kv iv wr => iv = .int .i64 0 ∧ kv = .int .i64 k ∧ w = wr) (fun _ iv _ => 0)
  case atStart => exact ⟨rfl, rfl, by first | rfl | trivial⟩
  case round =>
    obtain ⟨rfl, rfl, rfl⟩ := hrel
    go_wp2
    go_ret
    exact ⟨rfl, rfl⟩
theorem markORS_any (x : Option Addr) (n cap k B : Nat) (L : List (List ByteArray)) (w : World) (h : ORS w B x n cap L) (hB : B ≤ w.heap.size) (hk : k + 3 * n ≤ 1000000) :
    Calls Try.prog 17 #[.slice x n cap, .int .i64 k] w fun e w' => e = .returned (.int .i64 ((k : Int) + 3 * n)) ∧ ORS w' B x n cap (mkk k n) ∧ Below B w w' := by
  rcases h with ⟨rfl, rfl, rfl⟩ | ⟨g, rfl, h⟩
  · refine (markNil cap k w (by omega)).mono fun e w' q => ⟨by rw [q.1]; simp, .inl ⟨rfl, rfl, rfl⟩, by rw [q.2]; exact Below.refl _ _⟩
  · exact (markStringSS_any g n cap k B L w h hB hk).mono fun e w' q => ⟨q.1, .inr ⟨g, rfl, q.2.1⟩, q.2.2⟩
theorem mk_size (k n : Nat) (hk : k + 3 * n ≤ 1000000) (j : Nat) : ∀ z ∈ (mkk k n).getD j [], z.size ≤ maxLen := by
  intro z hz
  by_cases hj : j < n
  · rw [mkk_at k n j hj] at hz
    exact mk_small _ _ (by omega) z hz
  · rw [List.getD_eq_getElem?_getD, List.getElem?_eq_none (by rw [mkk_len]; omega)] at hz
    simp at hz
set_option maxHeartbeats 2000000 in
theorem specPP_any (x : Option Addr) (n cap : Nat) (zs : List ByteArray) (s : ByteArray) (w : World) (h : IsStrs w x n cap zs) (hn : n ≤ 1048576) (hs : s.size ≤ 9223372036854775807) :
    Calls Try.prog 13 #[.agg #[.slice x n cap], .string s] w fun e w' => ∃ y c, e = .returned (.slice y (ppL zs s).length c) ∧ ORS w' w.heap.size y (ppL zs s).length c (ppL zs s) ∧ Below w.heap.size w w' := by
  have hb0 : Below w.heap.size w (w.alloc (.cells #[.slice x n cap] 27)) := (Below.refl _ w).alloc (Nat.le_refl _) _
  have h' := isStrs_below h (Nat.le_refl _) hb0
  cases hk : sB zs && isWB s
  · have hL : Hid (ppL zs s = []) := by show _ = _; simp [ppL, hk]
    cases hS : sB zs
    · go_enter Try.func13, Try.ntmps13
      go_wp2_with (go_at_call 52; refine (l17Ok_any _ _ _ _ _ _ h' hn hs).mono ?_; rintro e w1 ⟨rfl, hb1⟩; obtain ⟨hc1, hf1⟩ := bcell hb1)
      go_ret
      exact ⟨none, 0, by rw [hL.out]; rfl, .inl ⟨rfl, by rw [hL.out]; rfl, hL.out⟩, by (repeat (first | with_reducible exact Below.refl _ _ | assumption | with_reducible refine Qdrew ?_ | with_reducible refine QdrewN ?_ | ((with_reducible refine Qset ?_ ?_); exact (by ((try simp only [World.size_alloc, World.size_setCell, World.size_drew, size_drewN]); (try dsimp only); omega))) | ((with_reducible refine Qalloc ?_ ?_); exact (by ((try simp only [World.size_alloc, World.size_setCell, World.size_drew, size_drewN]); (try dsimp only); omega))) | refine Qtrans (by assumption) (by ((try simp only [World.size_alloc, World.size_setCell, World.size_drew, size_drewN]); (try dsimp only); omega)) ?_))⟩
    · rw [hS, Bool.true_and] at hk
      go_enter Try.func13, Try.ntmps13
      go_wp2_with (go_at_call 52; refine (l17Ok_any _ _ _ _ _ _ h' hn hs).mono ?_; rintro e w1 ⟨rfl, hb1⟩; obtain ⟨hc1, hf1⟩ := bcell hb1)
      go_ret
      exact ⟨none, 0, by rw [hL.out]; rfl, .inl ⟨rfl, by rw [hL.out]; rfl, hL.out⟩, by (repeat (first | with_reducible exact Below.refl _ _ | assumption | with_reducible refine Qdrew ?_ | with_reducible refine QdrewN ?_ | ((with_reducible refine Qset ?_ ?_); exact (by ((try simp only [World.size_alloc, World.size_setCell, World.size_drew, size_drewN]); (try dsimp only); omega))) | ((with_reducible refine Qalloc ?_ ?_); exact (by ((try simp only [World.size_alloc, World.size_setCell, World.size_drew, size_drewN]); (try dsimp only); omega))) | refine Qtrans (by assumption) (by ((try simp only [World.size_alloc, World.size_setCell, World.size_drew, size_drewN]); (try dsimp only); omega)) ?_))⟩
  · have hk2 := hk
    rw [Bool.and_eq_true] at hk2
    have hL : ppL zs s = ppr zs s := by simp [ppL, hk]
    rw [hL]
    exact (specPart_any x n cap zs s w h hn hk2.1 hk2.2).mono fun e w' q => by obtain ⟨g, c, q1, q2, q3⟩ := q; exact ⟨_, c, q1, .inr ⟨g, rfl, q2⟩, q3⟩
set_option maxHeartbeats 2000000 in
theorem implPP_any (x : Option Addr) (n cap : Nat) (zs : List ByteArray) (s : ByteArray) (w : World) (h : IsStrs w x n cap zs) (hn : n ≤ 1048576) (hs : s.size ≤ 9223372036854775807) :
    Calls Try.prog 14 #[.agg #[.slice x n cap], .string s] w fun e w' => ∃ y c, e = .returned (.slice y (ppL zs s).length c) ∧ ORS w' w.heap.size y (ppL zs s).length c (ppL zs s) ∧ Below w.heap.size w w' := by
  have hb0 : Below w.heap.size w (w.alloc (.cells #[.slice x n cap] 27)) := (Below.refl _ w).alloc (Nat.le_refl _) _
  have h' := isStrs_below h (Nat.le_refl _) hb0
  cases hk : sB zs && isWB s
  · have hL : Hid (ppL zs s = []) := by show _ = _; simp [ppL, hk]
    cases hS : sB zs
    · go_enter Try.func14, Try.ntmps14
      go_wp2_with (first | (go_at_call 50; refine (implSubstOk_any _ _ _ _ _ h' hn).mono ?_; rintro e w1 ⟨rfl, hb1⟩; obtain ⟨hc1, hf1⟩ := bcell hb1) | (go_at_call 54; refine (isWord_any _ _ hs).mono ?_; rintro e w1 ⟨rfl, rfl⟩))
      go_ret
      exact ⟨none, 0, by rw [hL.out]; rfl, .inl ⟨rfl, by rw [hL.out]; rfl, hL.out⟩, by (repeat (first | with_reducible exact Below.refl _ _ | assumption | with_reducible refine Qdrew ?_ | with_reducible refine QdrewN ?_ | ((with_reducible refine Qset ?_ ?_); exact (by ((try simp only [World.size_alloc, World.size_setCell, World.size_drew, size_drewN]); (try dsimp only); omega))) | ((with_reducible refine Qalloc ?_ ?_); exact (by ((try simp only [World.size_alloc, World.size_setCell, World.size_drew, size_drewN]); (try dsimp only); omega))) | refine Qtrans (by assumption) (by ((try simp only [World.size_alloc, World.size_setCell, World.size_drew, size_drewN]); (try dsimp only); omega)) ?_))⟩
    · rw [hS, Bool.true_and] at hk
      go_enter Try.func14, Try.ntmps14
      go_wp2_with (first | (go_at_call 50; refine (implSubstOk_any _ _ _ _ _ h' hn).mono ?_; rintro e w1 ⟨rfl, hb1⟩; obtain ⟨hc1, hf1⟩ := bcell hb1) | (go_at_call 54; refine (isWord_any _ _ hs).mono ?_; rintro e w1 ⟨rfl, rfl⟩))
      go_ret
      exact ⟨none, 0, by rw [hL.out]; rfl, .inl ⟨rfl, by rw [hL.out]; rfl, hL.out⟩, by (repeat (first | with_reducible exact Below.refl _ _ | assumption | with_reducible refine Qdrew ?_ | with_reducible refine QdrewN ?_ | ((with_reducible refine Qset ?_ ?_); exact (by ((try simp only [World.size_alloc, World.size_setCell, World.size_drew, size_drewN]); (try dsimp only); omega))) | ((with_reducible refine Qalloc ?_ ?_); exact (by ((try simp only [World.size_alloc, World.size_setCell, World.size_drew, size_drewN]); (try dsimp only); omega))) | refine Qtrans (by assumption) (by ((try simp only [World.size_alloc, World.size_setCell, World.size_drew, size_drewN]); (try dsimp only); omega)) ?_))⟩
  · have hk2 := hk
    rw [Bool.and_eq_true] at hk2
    have hL : ppL zs s = ppr zs s := by simp [ppL, hk]
    rw [hL]
    exact (implPart_any x n cap zs s w h hn hk2.1 hk2.2).mono fun e w' q => by obtain ⟨g, c, q1, q2, q3⟩ := q; exact ⟨_, c, q1, .inr ⟨g, rfl, q2⟩, q3⟩
set_option maxHeartbeats 8000000 in
theorem PartParents_law (w : World) (x : Option Addr) (n cap : Nat) (zs : List ByteArray) (h : IsStrs w x n cap zs) (s : ByteArray) (hs0 : s.size ≤ maxLen) :
    Calls Try.prog 4 #[.agg #[.slice x n cap], .string s] w fun e w' => e = .returned (.bool true) ∧ Below w.heap.size w w' := by
  have hs : s.size ≤ 9223372036854775807 := hs0
  clear hs0
  by_cases hbig : (1048576 : Int) < (s.size : Int)
  · go_enter Try.func4, Try.ntmps4
    go_wp2
    go_ret
    exact ⟨rfl, by (repeat (first | with_reducible exact Below.refl _ _ | assumption | with_reducible refine Qdrew ?_ | with_reducible refine QdrewN ?_ | ((with_reducible refine Qset ?_ ?_); exact (by ((try simp only [World.size_alloc, World.size_setCell, World.size_drew, size_drewN]); (try dsimp only); omega))) | ((with_reducible refine Qalloc ?_ ?_); exact (by ((try simp only [World.size_alloc, World.size_setCell, World.size_drew, size_drewN]); (try dsimp only); omega))) | refine Qtrans (by assumption) (by ((try simp only [World.size_alloc, World.size_setCell, World.size_drew, size_drewN]); (try dsimp only); omega)) ?_))⟩
  have hz := h.2.2.2.1
  have hspec := fun (y : Option Addr) (n cap : Nat) (w : World) (q : IsStrs w y n cap zs) (hn : n ≤ 1048576) => specPP_any y n cap zs s w q hn hs
  have himpl := fun (y : Option Addr) (n cap : Nat) (w : World) (q : IsStrs w y n cap zs) (hn : n ≤ 1048576) => implPP_any y n cap zs s w q hn hs
  have hLl := ppL_len zs s
  have hLz := ppL_size zs s hs
  obtain ⟨L, hL⟩ : ∃ L, ppL zs s = L := ⟨_, rfl⟩
  rw [hL] at hspec himpl hLl hLz
  obtain ⟨m, hm⟩ : ∃ m, L.length = m := ⟨_, rfl⟩
  rw [hm] at hspec himpl hLl
  clear hL hm
  have hb0 : Below w.heap.size w (w.alloc (.cells #[.slice x n cap] 24)) := (Below.refl _ w).alloc (Nat.le_refl _) _
  have h0 := isStrs_below h (Nat.le_refl _) hb0
  go_enter Try.func4, Try.ntmps4
  go_wp2_with (go_at_call 8; refine (szSubst_any _ _ _ _ _ _ h0 (by omega)).mono ?_; rintro e w1 ⟨r, rfl, hr, hb1⟩; obtain ⟨hc1, hf1⟩ := bcell hb1; have hl1 := ltW hb1)
  · go_ret
    exact ⟨rfl, by (repeat (first | with_reducible exact Below.refl _ _ | assumption | with_reducible refine Qdrew ?_ | with_reducible refine QdrewN ?_ | ((with_reducible refine Qset ?_ ?_); exact (by ((try simp only [World.size_alloc, World.size_setCell, World.size_drew, size_drewN]); (try dsimp only); omega))) | ((with_reducible refine Qalloc ?_ ?_); exact (by ((try simp only [World.size_alloc, World.size_setCell, World.size_drew, size_drewN]); (try dsimp only); omega))) | refine Qtrans (by assumption) (by ((try simp only [World.size_alloc, World.size_setCell, World.size_drew, size_drewN]); (try dsimp only); omega)) ?_))⟩
  have hn : n ≤ 1048576 := by rcases hr with hr | hr <;> omega
  have z1 := hb1.size
  simp only [World.size_alloc] at z1
  have s1 : w.heap.size < w1.heap.size := by omega
  have h1 := isStrs_below h0 (Nat.le_refl _) hb1
  have t1 : w1.cell? ⟨w.heap.size, 0, none⟩ = some (.slice x n cap) := by rw [hc1 _ _ (by simp)]; simp [go_sem]
  go_wp2_with (go_at_call 10; refine (toSubst_any _ _ _ _ _ h1 hn).mono ?_; rintro e w2 ⟨g2, rfl, hg2, hown2, hb2⟩)
  have z2 := hb2.size
  have k2 := isStrs_own hown2 hz
  have h2 := isStrs_below h1 (Nat.le_refl _) hb2
  have t2 : w2.cell? ⟨w.heap.size, 0, none⟩ = some (.slice x n cap) := (hb2.cell (by exact s1)).trans t1
  have s2 : w.heap.size < w2.heap.size := by omega
  go_wp2_with (go_at_call 13; refine (hspec _ _ _ _ k2 hn).mono ?_; rintro e w3 ⟨x3, c3, rfl, o3, hb3⟩; have t3 := (hb3.cell (p := ⟨w.heap.size, 0, none⟩) s2).trans t2)
  have z3 := hb3.size
  have s3 : w.heap.size < w3.heap.size := by omega
  have h3 := isStrs_below h2 (Nat.le_refl _) hb3
  have r3 := isSS_ors o3 (by omega) hLz
  go_wp2_with (go_at_call 10; refine (toSubst_any _ _ _ _ _ h3 hn).mono ?_; rintro e w4 ⟨g4, rfl, hg4, hown4, hb4⟩; obtain ⟨hc4, hf4⟩ := bcell hb4; have hl4 := ltW hb4)
  have z4 := hb4.size
  have s4 : w.heap.size < w4.heap.size := by omega
  have hg4l := (hown4.lt g4 rfl).2
  have B4 : Below w4.heap.size w4 (w4.alloc (.cells #[.slice (some ⟨g4, 0, none⟩) n n] 27)) := (Below.refl _ w4).alloc (Nat.le_refl _) _
  have k4 := isStrs_below (isStrs_own hown4 hz) (Nat.le_refl _) B4
  have h4 := isStrs_below (isStrs_below h3 (Nat.le_refl _) hb4) (Nat.le_refl _) B4
  have r4 := isSS_keep (isSS_keep r3 hb4) (B4.mono (by omega))
  have o4 := own_below hown4 B4
  have t4 : w4.cell? ⟨w.heap.size, 0, none⟩ = some (.slice x n cap) := (hb4.cell (by exact s3)).trans t3
  have t4' : (w4.alloc (.cells #[.slice (some ⟨g4, 0, none⟩) n n] 27)).cell? ⟨w.heap.size, 0, none⟩ = some (.slice x n cap) := (calloc s4).trans t4
  go_wp2_with (go_at_call 14; refine (himpl _ _ _ _ k4 hn).mono ?_; rintro e w5 ⟨x5, c5, rfl, o5, hb5⟩)
  have z5 := hb5.size
  simp only [World.size_alloc] at z5
  have s5 : w.heap.size < w5.heap.size := by omega
  have s45 : w4.heap.size < w5.heap.size := by omega
  have h5 := isStrs_below h4 (Nat.le_refl _) hb5
  have k5 := isStrs_below k4 (Nat.le_refl _) hb5
  have r5 := isSS_keep r4 (hb5.mono (by simp; omega))
  have q5 := isSS_ors o5 (by omega) hLz
  have o45 := own_below o4 hb5
  have t5 : w5.cell? ⟨w.heap.size, 0, none⟩ = some (.slice x n cap) := (hb5.cell (by simp; omega)).trans t4'
  have u5 : w5.cell? ⟨w4.heap.size, 0, none⟩ = some (.slice (some ⟨g4, 0, none⟩) n n) := (hb5.cell (by simp)).trans (by simp [go_sem])
  go_wp2_with (go_at_call 15; refine (eqStringSS_same _ _ _ _ _ _ _ _ _ q5 r5).mono ?_; rintro e w6 ⟨rfl, hb6⟩)
  have z6 := hb6.size
  have s6 : w.heap.size < w6.heap.size := by omega
  have s46 : w4.heap.size < w6.heap.size := by omega
  have h6a := isStrs_below h5 (Nat.le_refl _) hb6
  have k6a := isStrs_below k5 (Nat.le_refl _) hb6
  have h6 : IsStrs w6.drew x n cap zs := h6a
  have k6 : IsStrs w6.drew (some ⟨g4, 0, none⟩) n n zs := k6a
  have t6 : w6.cell? ⟨w.heap.size, 0, none⟩ = some (.slice x n cap) := (hb6.cell (by exact s5)).trans t5
  have u6 : w6.cell? ⟨w4.heap.size, 0, none⟩ = some (.slice (some ⟨g4, 0, none⟩) n n) := (hb6.cell (by exact s45)).trans u5
  go_region_held3 (fun wx => (∀ bk ofs, bk < w6.heap.size → wx.cell? ⟨bk, ofs, none⟩ = (w6).cell? ⟨bk, ofs, none⟩) ∧ Below (w6.heap.size) (w6) wx) ((refine stays ?_; ((repeat (first | with_reducible exact Below.refl _ _ | assumption | with_reducible refine Qdrew ?_ | with_reducible refine QdrewN ?_ | ((with_reducible refine Qset ?_ ?_); exact (by ((try simp only [World.size_alloc, World.size_setCell, World.size_drew, size_drewN]); (try dsimp only); omega))) | ((with_reducible refine Qalloc ?_ ?_); exact (by ((try simp only [World.size_alloc, World.size_setCell, World.size_drew, size_drewN]); (try dsimp only); omega))) | refine Qtrans (by assumption) (by ((try simp only [World.size_alloc, World.size_setCell, World.size_drew, size_drewN]); (try dsimp only); omega)) ?_)) <;> (go_split_ands; assumption)))) (first | (go_at_call 10; refine (toSubst_any x n cap zs w6.drew h6 hn).mono ?_; rintro e w7 ⟨g7, rfl, hg7, hown7, hb7⟩; obtain ⟨hc7, hf7⟩ := bcell hb7; have hl7 := ltW hb7; have z7 := hb7.size; (try simp only [World.size_drew] at z7); have k7 := isStrs_own hown7 hz; have k7' := isStrs_below k6 (Nat.le_refl _) hb7) | (go_at_call 12; refine (eqSubst_same _ _ _ _ _ _ _ k7' k7).mono ?_; rintro e w8 ⟨rfl, hb8⟩; obtain ⟨hc8, hf8⟩ := bcell hb8; have hl8 := ltW hb8; have z8 := hb8.size))
  have hb67 : Below w6.heap.size w6 w7 := Qtrans hb7 (Nat.le_refl _) (Qdrew (Below.refl _ _))
  have hb68 : Below w6.heap.size w6 w8 := Qtrans hb8 z7 hb67
  have z68 := hb68.size
  have s8 : w.heap.size < w8.heap.size := by omega
  have s48 : w4.heap.size < w8.heap.size := by omega
  have t8 : w8.cell? ⟨w.heap.size, 0, none⟩ = some (.slice x n cap) := (hb68.cell (by exact s6)).trans t6
  have u8 : w8.cell? ⟨w4.heap.size, 0, none⟩ = some (.slice (some ⟨g4, 0, none⟩) n n) := (hb68.cell (by exact s46)).trans u6
  have r8 := isSS_keep (isSS_keep r5 (hb6.mono (by omega))) (hb68.mono (by omega))
  have o48 := own_below (own_below o45 hb6) hb68
  have o58 := ors_below (ors_below o5 hb6) hb68
  have d4 : Below w.heap.size w w4 := Qtrans hb4 (by omega) (Qtrans hb3 (by omega) (Qtrans hb2 (by omega) (Qtrans hb1 (by simp) hb0)))
  have d8 : Below w.heap.size w w8 := Qtrans hb68 (by omega) (Qtrans hb6 (by omega) (Qtrans hb5 (by simp; omega) (Qtrans B4 (by omega) d4)))
  clear hc7 hc8 hl7 hl8 hf7 hf8
  go_wp2_with fail
  go_at_call 16
  refine (markSubst_any _ _ _ 1 _ _ _ o48 (by omega)).mono ?_
  rintro e w9 ⟨rfl, o49, hg9⟩
  have z9 := hg9.size
  have s9 : w.heap.size < w9.heap.size := by omega
  have t9 : w9.cell? ⟨w.heap.size, 0, none⟩ = some (.slice x n cap) := (hg9.cell_far ⟨w.heap.size, 0, none⟩ s8 (by simp [Value.ownBlock]; omega)).trans t8
  have b9 : Below w3.heap.size w8 w9 := (Below.refl _ _).grown hg9 (by omega) (fun k hk => by cases hk; show w3.heap.size ≤ g4; omega)
  have r9 := isSS_keep r8 b9
  have o59 : ORS w9 _ x5 m c5 L := ors_kept o58 hg9 (by simp; omega)
  have q9 := isSS_ors o59 (by omega) hLz
  have d9 : Below w.heap.size w w9 := d8.grown hg9 (by omega) (fun k hk => by cases hk; show w.heap.size ≤ g4; omega)
  go_wp2_with (go_at_call 15; refine (eqStringSS_same _ _ _ _ _ _ _ _ _ q9 r9).mono ?_; rintro e w10 ⟨rfl, hb10⟩)
  have z10 := hb10.size
  have s10 : w.heap.size < w10.heap.size := by omega
  have t10 : w10.cell? ⟨w.heap.size, 0, none⟩ = some (.slice x n cap) := (hb10.cell (by exact s9)).trans t9
  have r10 := isSS_keep r9 (hb10.mono (by omega))
  have o510 := ors_below o59 hb10
  have d10 : Below w.heap.size w w10 := Qtrans hb10 (by omega) d9
  go_at_call 17
  refine (markORS_any _ _ _ 1 _ _ _ o510 (by simp; omega) (by omega)).mono ?_
  rintro e w11 ⟨rfl, o511, hb11⟩
  have z11 := hb11.size
  have s11 : w.heap.size < w11.heap.size := by omega
  have t11 : w11.cell? ⟨w.heap.size, 0, none⟩ = some (.slice x n cap) := (hb11.cell (by simp; omega)).trans t10
  have r11 := isSS_keep r10 (hb11.mono (by simp; omega))
  have q11 := isSS_ors o511 (by omega) (mk_size 1 m (by omega))
  have d11 : Below w.heap.size w w11 := Qtrans hb11 (by simp; omega) d10
  have h11 := isStrs_below h (Nat.le_refl _) d11
  have hpos : ¬ (1 : Int) + 3 * (m : Int) < 0 := by omega
  go_wp2_with (go_at_call 18; refine (heldStringSS_any _ _ _ 1 _ _ q11 (by omega)).mono ?_; rintro e wh ⟨rfl, hbh⟩; have th := (hbh.cell (p := ⟨w.heap.size, 0, none⟩) s11).trans t11; have zh := hbh.size; have hh := isStrs_below h11 (Nat.le_refl _) (Qtrans hbh (by omega) (Below.refl _ _)))
  go_at_call 10
  refine (toSubst_any _ _ _ _ _ hh hn).mono ?_
  rintro e w12 ⟨g12, rfl, hg12, hown12, hb12⟩
  have z12 := hb12.size
  have k12 := isStrs_own hown12 hz
  have r12 := isSS_keep (isSS_keep r11 (hbh.mono (by omega))) (hb12.mono (by omega))
  have q12 := isSS_keep (isSS_keep q11 hbh) (hb12.mono (by omega))
  go_wp2_with (go_at_call 14; refine (himpl _ _ _ _ k12 hn).mono ?_; rintro e w13 ⟨x13, c13, rfl, o13, hb13⟩)
  have z13 := hb13.size
  have r13 := isSS_keep r12 (hb13.mono (by omega))
  have q13 := isSS_keep q12 (hb13.mono (by omega))
  have p13 := isSS_ors o13 (by omega) hLz
  go_wp2_with (go_at_call 15; refine (eqStringSS_same _ _ _ _ _ _ _ _ _ p13 r13).mono ?_; rintro e w14 ⟨rfl, hb14⟩)
  have z14 := hb14.size
  have q14 := isSS_keep q13 (hb14.mono (by omega))
  go_wp2_with (go_at_call 18; refine (heldStringSS_any _ _ _ 1 _ _ q14 (by omega)).mono ?_; rintro e w15 ⟨rfl, hb15⟩)
  go_ret
  exact ⟨rfl, Qtrans hb15 (by omega) (Qtrans hb14 (by omega) (Qtrans hb13 (by omega) (Qtrans hb12 (by omega) (Qtrans hbh (by omega) d11))))⟩
end Go.Proofs.Ytieibopegmoanaa
