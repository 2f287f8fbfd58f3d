/- What parts an unbalanced word: the walk. -/
import Derived.Test.YtilbhingfnjppabMFre
import Derived.Test.YtilbhingfnjppabFacW
import Derived.Test.YtilbhingfnjppabConS
set_option linter.unusedSimpArgs false
set_option linter.unusedVariables false
namespace Go.Proofs.Ytilbhingfnjppab
open Go.RowKit
theorem mem_facs {s : ByteArray} {n : Nat} {z : ByteArray} : z ∈ facs s n ↔ ∃ i, i < s.size + 1 - n ∧ z = s.extract i (i + n) := by
  have h := (fold_asc (fkn s n (s.size + 1 - n)) [] List.Pairwise.nil).2 z
  unfold facs FF
  rw [h]
  constructor
  · rintro (h | h)
    · cases h
    · unfold fkn at h
      obtain ⟨i, hi, rfl⟩ := List.mem_map.1 h
      exact ⟨i, List.mem_range.1 hi, rfl⟩
  · rintro ⟨i, hi, rfl⟩
    exact .inr (List.mem_map.2 ⟨i, List.mem_range.2 hi, rfl⟩)
theorem facs_sizeB {s : ByteArray} {n : Nat} {z : ByteArray} (hn : n ≤ s.size) (h : z ∈ facs s n) : z.size = n := by
  obtain ⟨i, hi, rfl⟩ := mem_facs.1 h
  rw [ByteArray.size_extract]; omega
/-- b, a word, b. -/
def bub (u : ByteArray) : ByteArray := (⟨#[98]⟩ : ByteArray) ++ u ++ (⟨#[98]⟩ : ByteArray)
def sus (u : ByteArray) : ByteArray := (⟨#[42]⟩ : ByteArray) ++ u ++ (⟨#[42]⟩ : ByteArray)
theorem bub_size (u : ByteArray) : (bub u).size = u.size + 2 := by
  unfold bub
  rw [ByteArray.size_append, ByteArray.size_append]
  have : (⟨#[98]⟩ : ByteArray).size = 1 := rfl
  omega
/-- A factor that parts the word: aua where bub is one too, u a palindrome. -/
structure CondF (s : ByteArray) (n : Nat) (f : ByteArray) : Prop where
  a0 : bt f 0 = 97
  a1 : bt f (n + 1) = 97
  pal : palB (f.extract 1 (n + 1)) = true
  con : Lib.contains s.data.toList (bub (f.extract 1 (n + 1))).data.toList = true
set_option maxRecDepth 20000 in
set_option maxHeartbeats 4000000 in
theorem FirstUnb_any (s : ByteArray) (hB : binB s = true) (gm : Int) (w : World) (hgm : w.cell? ⟨0, 0, none⟩ = some (.int .i64 gm)) :
    Calls Try.prog 48 #[.string s] w fun e w' => ∃ r, e = .returned (.string r) ∧ ((r = ⟨#[]⟩ ∧ ∀ n f, n + 2 ≤ s.size → f ∈ facs s (n + 2) → ¬ CondF s n f) ∨ ∃ n f, n + 2 ≤ s.size ∧ f ∈ facs s (n + 2) ∧ CondF s n f ∧ r = sus (f.extract 1 (n + 1))) ∧ Below w.heap.size w w' := by
  have hg0 : 0 < w.heap.size := World.block_lt_of_cell? w _ hgm
  have h400 := bin_400 hB
  have hBin := fun w => implBin_any s w (by omega)
  rw [hB] at hBin
  have hgmH := Lib.hid hgm
  clear hgm hB
  go_enter Try.func48, Try.ntmps48
  go_wp2_with (go_at_call 57; refine (hBin _).mono ?_; rintro e w1 ⟨rfl, hb1⟩; have hz1 := hb1.size)
  clear hBin
  go_loopw [3] (fun i wr => ∃ n : Nat, n ≤ s.size ∧ i = .int .i64 n ∧ Hid (∀ n' f, n' < n → n' + 2 ≤ s.size → f ∈ facs s (n' + 2) → ¬ CondF s n' f) ∧ Below w.heap.size w wr) (fun i _ => s.size + 1 - (intOf i).toNat)
  case atStart => exact ⟨0, by omega, rfl, Lib.hid (fun n' f h => by omega), by (repeat (first | with_reducible exact Below.refl _ _ | assumption | with_reducible refine Qdrew ?_ | with_reducible refine QdrewN ?_ | ((with_reducible refine Qset ?_ ?_); exact (by ((try simp only [World.size_alloc, World.size_setCell, World.size_drew, size_drewN]); (try dsimp only); omega))) | ((with_reducible refine Qalloc ?_ ?_); exact (by ((try simp only [World.size_alloc, World.size_setCell, World.size_drew, size_drewN]); (try dsimp only); omega))) | refine Qtrans (by assumption) (by ((try simp only [World.size_alloc, World.size_setCell, World.size_drew, size_drewN]); (try dsimp only); omega)) ?_))⟩
  case round =>
    obtain ⟨n, hns, rfl, hall, hbel⟩ := hrel
    have hz := hbel.size
    by_cases hlt : n + 2 ≤ s.size
    · have j1 : (n : Int) + 2 ≤ (s.size : Int) := by omega
      have j2 : IntKind.i64.wrap ((n : Int) + 2) = ((n + 2 : Nat) : Int) := by rw [IntWalk.i64_in _ (by omega)]; omega
      have j3 : ((n + 2 : Nat) : Int) ≤ (s.size : Int) := by omega
      have j4 : IntKind.i64.wrap ((n : Int) + 1) = (n : Int) + 1 := IntWalk.i64_in _ (by omega)
      have cF := fun w => factorsOf_any s (n + 2) w h400 (by omega)
      have hsz := Lib.hid (fun z (h : z ∈ facs s (n + 2)) => facs_sizeB hlt h)
      have hllen := FF_len s (n + 2) (s.size + 1 - (n + 2))
      change (facs s (n + 2)).length ≤ _ at hllen
      go_wp2_with (go_at_call 76; refine (cF _).mono ?_; rintro e w1 ⟨g, c, rfl, hown, hb1⟩)
      have hnx : Hid ((∀ f, f ∈ facs s (n + 2) → ¬ CondF s n f) → ∀ n' f, n' < n + 1 → n' + 2 ≤ s.size → f ∈ facs s (n' + 2) → ¬ CondF s n' f) := fun q n' f h1 h2 h3 => by
        by_cases e : n' = n
        · subst e; exact q f h3
        · exact hall.out n' f (by omega) h2 h3
      have hyes0 : ∀ L, facs s (n + 2) = L → ∀ f, f ∈ L → CondF s n f → ∃ n' f', n' + 2 ≤ s.size ∧ f' ∈ facs s (n' + 2) ∧ CondF s n' f' ∧ sus (f.extract 1 (n + 1)) = sus (f'.extract 1 (n' + 1)) := fun L e f h q => ⟨n, f, hlt, by rw [e]; exact h, q, rfl⟩
      obtain ⟨L, hL⟩ : ∃ L, facs s (n + 2) = L := ⟨_, rfl⟩
      have hyes := Lib.hid (hyes0 L hL)
      have hnx0 : (∀ f, f ∈ L → ¬ CondF s n f) → ∀ n' f, n' < n + 1 → n' + 2 ≤ s.size → f ∈ facs s (n' + 2) → ¬ CondF s n' f := by rw [← hL]; exact hnx.out
      clear hnx hyes0
      have hnx := Lib.hid hnx0
      clear hnx0
      rw [hL] at hown hsz hllen ⊢
      obtain ⟨M, hM⟩ : ∃ M, L.length = M := ⟨_, rfl⟩
      rw [hM] at hown hllen ⊢
      have hMH := Lib.hid hM
      have hb1w : Below w.heap.size w w1 := Qtrans hb1 hz hbel
      have hz1 := hb1w.size
      have hgl := (hown.lt g rfl).2
      clear hL hM cF hb1 hbel hall
      go_wp2_with fail
      go_loopw [22] (fun i wr => ∃ k : Nat, k ≤ M ∧ i = .int .i64 k ∧ Hid (∀ j, j < k → ¬ CondF s n (L.getD j ByteArray.empty)) ∧ Below w1.heap.size w1 wr) (fun i _ => M + 1 - (intOf i).toNat)
      case atStart => exact ⟨0, by omega, rfl, Lib.hid (fun j h => by omega), Below.refl _ _⟩
      case round =>
        obtain ⟨k, hk, rfl, hno, hbr⟩ := hrel
        have hzr := hbr.size
        by_cases hlt2 : k < M
        · have j5 : (k : Int) < (M : Int) := by omega
          have j6 : (0 : Int) ≤ (k : Int) := by omega
          have hck := (hbr.cell (p := ⟨g, k, none⟩) hgl).trans (own_cell hown k hlt2)
          rw [sv_at _ _ (by rw [hMH.out]; exact hlt2)] at hck
          have hmem : L.getD k ByteArray.empty ∈ L := by
            rw [List.getD_eq_getElem?_getD, List.getElem?_eq_getElem (by rw [hMH.out]; exact hlt2)]; exact List.getElem_mem _
          have hfs := hsz.out _ hmem
          have hy := Lib.hid (hyes.out _ hmem)
          have hstep : Hid (¬ CondF s n (L.getD k ByteArray.empty) → ∀ j, j < k + 1 → ¬ CondF s n (L.getD j ByteArray.empty)) := fun q j hj => by
            by_cases e : j = k
            · subst e; exact q
            · exact hno.out j (by omega)
          obtain ⟨f, hf⟩ : ∃ f, L.getD k ByteArray.empty = f := ⟨_, rfl⟩
          rw [hf] at hck hfs hy hstep
          have hgr : wr.cell? ⟨0, 0, none⟩ = some (.int .i64 gm) := (hbr.cell (p := ⟨0, 0, none⟩) (by show 0 < w1.heap.size; omega)).trans ((hb1w.cell (p := ⟨0, 0, none⟩) hg0).trans hgmH.out)
          clear hf hmem hno
          have hbf : ∀ j (h : j < f.size), ((f[j]'h).toNat : Int) = bt f j := fun j h => bt_eq f j h
          have hus : (f.extract 1 (n + 1)).size = n := by rw [ByteArray.size_extract]; omega
          have c0 : ∀ q : bt f 0 ≠ 97, ¬ CondF s n f := fun q h => q h.a0
          have c1 : ∀ q : bt f (n + 1) ≠ 97, ¬ CondF s n f := fun q h => q h.a1
          have c2 : palB (f.extract 1 (n + 1)) = false → ¬ CondF s n f := fun q h => by rw [h.pal] at q; cases q
          have c3 : Lib.contains s.data.toList (bub (f.extract 1 (n + 1))).data.toList = false → ¬ CondF s n f := fun q h => by rw [h.con] at q; cases q
          have c4 := fun q1 q2 q3 q4 => (⟨q1, q2, q3, q4⟩ : CondF s n f)
          have d1 : (0 : Int) < (f.size : Int) := by omega
          have d2 : (n : Int) + 1 < (f.size : Int) := by omega
          have d3 : (n : Int) + 1 ≤ (f.size : Int) := by omega
          have d4 : (1 : Int) ≤ (n : Int) + 1 := by omega
          have d5 : ((n : Int) + 1).toNat = n + 1 := by omega
          have d6 : (0 : Int) ≤ (n : Int) + 1 := by omega
          have d7 : n + 1 < f.size := by omega
          have d8 : 0 < f.size := by omega
          have hcT := fun w => isTurned_any (f.extract 1 (n + 1)) w (by omega)
          have hcC : ∀ w, w.cell? ⟨0, 0, none⟩ = some (.int .i64 gm) → Calls Try.prog 74 #[.string s, .string ((⟨#[98]⟩ : ByteArray) ++ f.extract 1 (n + 1) ++ (⟨#[98]⟩ : ByteArray))] w fun e w' => e = .returned (.bool (Lib.contains s.data.toList (bub (f.extract 1 (n + 1))).data.toList)) ∧ w' = w := fun w hm => Try.strings_Contains s (bub (f.extract 1 (n + 1))) gm w (by omega) hm
          have hret : Hid ((⟨#[42]⟩ : ByteArray) ++ f.extract 1 (n + 1) ++ (⟨#[42]⟩ : ByteArray) = sus (f.extract 1 (n + 1))) := Lib.hid rfl
          obtain ⟨K3, hK3⟩ : ∃ K, palB (f.extract 1 (n + 1)) = K := ⟨_, rfl⟩
          obtain ⟨K4, hK4⟩ : ∃ K, Lib.contains s.data.toList (bub (f.extract 1 (n + 1))).data.toList = K := ⟨_, rfl⟩
          rw [hK3] at c2 hcT c4
          rw [hK4] at c3 hcC c4
          obtain ⟨x0, hx0⟩ : ∃ x, bt f 0 = x := ⟨_, rfl⟩
          obtain ⟨x1, hx1⟩ : ∃ x, bt f (n + 1) = x := ⟨_, rfl⟩
          have hb0 := hbf 0 d8
          have hb9 := hbf (n + 1) d7
          rw [hx0] at c0 c4 hb0
          rw [hx1] at c1 c4 hb9
          clear hK3 hK4 hx0 hx1 hbf hfs
          by_cases e0 : x0 = 97
          · by_cases e1 : x1 = 97
            · cases K3
              · have hst := Lib.hid (hstep.out (c2 rfl))
                clear c0 c1 c2 c3 c4 hstep hy hcC
                go_wp2_with (go_at_call 83; refine (hcT _).mono ?_; rintro e w5 ⟨rfl, hb5⟩)
                exact ⟨⟨k + 1, by omega, by go_num, hst, Qtrans hb5 hzr hbr⟩, by simp [intOf]; omega⟩
              · cases K4
                · have hst := Lib.hid (hstep.out (c3 rfl))
                  clear c0 c1 c2 c3 c4 hstep hy
                  go_wp2_with (first | (go_at_call 83; refine (hcT _).mono ?_; rintro e w5 ⟨rfl, hb5⟩; have hg5 := (hb5.cell (p := ⟨0, 0, none⟩) (show 0 < wr.heap.size by omega)).trans hgr) | (go_at_call 74; refine (hcC _ hg5).mono ?_; rintro e w6 ⟨rfl, hw6⟩; subst hw6))
                  exact ⟨⟨k + 1, by omega, by go_num, hst, Qtrans hb5 hzr hbr⟩, by simp [intOf]; omega⟩
                · have hyy := Lib.hid (hy.out (c4 e0 e1 rfl rfl))
                  clear c0 c1 c2 c3 c4 hstep hy
                  go_wp2_with (first | (go_at_call 83; refine (hcT _).mono ?_; rintro e w5 ⟨rfl, hb5⟩; have hg5 := (hb5.cell (p := ⟨0, 0, none⟩) (show 0 < wr.heap.size by omega)).trans hgr) | (go_at_call 74; refine (hcC _ hg5).mono ?_; rintro e w6 ⟨rfl, hw6⟩; subst hw6))
                  go_ret
                  exact ⟨_, rfl, .inr hyy.out, Qtrans (Qtrans hb5 hzr hbr) hz1 hb1w⟩
            · have hst := Lib.hid (hstep.out (c1 e1))
              clear c0 c1 c2 c3 c4 hstep hy hcC hcT
              go_wp2_with fail
              exact ⟨⟨k + 1, by omega, by go_num, hst, hbr⟩, by simp [intOf]; omega⟩
          · have hst := Lib.hid (hstep.out (c0 e0))
            clear c0 c1 c2 c3 c4 hstep hy hcC hcT
            go_wp2_with fail
            exact ⟨⟨k + 1, by omega, by go_num, hst, hbr⟩, by simp [intOf]; omega⟩
        · obtain rfl : k = M := by omega
          have j5 : ¬ (k : Int) < (k : Int) := by omega
          have hall' := Lib.hid (hnx.out (fun f hf => by
            obtain ⟨j, hj1, hj2⟩ := mem_getD hf
            rw [← hj2]
            exact hno.out j (by rw [hMH.out] at hj1; exact hj1)))
          clear hnx hno hyes hsz
          go_wp2_with fail
          exact ⟨⟨n + 1, by omega, by go_num, hall', Qtrans hbr hz1 hb1w⟩, by simp [intOf]; omega⟩
    · have j1 : ¬ (n : Int) + 2 ≤ (s.size : Int) := by omega
      have j2 : IntKind.i64.wrap ((n : Int) + 2) = (n : Int) + 2 := IntWalk.i64_in _ (by omega)
      go_wp2_with fail
      go_ret
      exact ⟨⟨#[]⟩, rfl, .inl ⟨rfl, fun n' f h1 h2 => hall.out n' f (by omega) h1 h2⟩, hbel⟩
end Go.Proofs.Ytilbhingfnjppab
