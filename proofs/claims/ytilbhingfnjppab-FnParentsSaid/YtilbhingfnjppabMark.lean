/- Marked substitutions: the last letters of the images. -/
import Derived.Test.YtilbhingfnjppabSubst
import Derived.Deep.WholeRow
set_option linter.unusedSimpArgs false
set_option linter.unusedVariables false
namespace Go.Proofs.Ytilbhingfnjppab
open Go.RowKit
def hitL (w f : ByteArray) (i : Nat) : Bool := (w.extract i (i + f.size)).toList == f.toList
def hasB (s f : ByteArray) : Bool := (List.range (s.size + 1 - f.size)).any (hitL s f)
/-- The last letter of a word, as a byte. -/
def lzb (v : ByteArray) : UInt8 := UInt8.ofNat (bt v (v.size - 1)).toNat
theorem lzb_bt (v : ByteArray) : ((lzb v).toNat : Int) = bt v (v.size - 1) := by
  have := bt_range v (v.size - 1)
  unfold lzb
  rw [UInt8.toNat_ofNat_of_lt' (by show _ < 256; omega)]; omega
theorem lzb_at {v : ByteArray} (h : 0 < v.size) : lzb v = v[v.size - 1]'(by omega) := by
  have h1 := lzb_bt v
  rw [← bt_eq v _ (by omega)] at h1
  exact UInt8.toNat_inj.1 (by omega)
theorem lzb_extract {v : ByteArray} (h : 0 < v.size) : v.extract (v.size - 1) v.size = ⟨#[lzb v]⟩ := by
  have h' : 0 < v.data.size := h
  apply ByteArray.ext
  rw [ByteArray.data_extract, lzb_at h]
  have hs : v.size = v.data.size := rfl
  apply Array.ext
  · simp; omega
  · intro i h1 h2
    simp at h2
    subst h2
    simp [Array.getElem_extract]
    rfl
/-- The last letters of the first k images. -/
def lzs (zs : List ByteArray) (k : Nat) : List UInt8 := (zs.take k).map lzb
theorem lzs_next (zs : List ByteArray) (k : Nat) (h : k < zs.length) : lzs zs (k + 1) = lzs zs k ++ [lzb (zs.getD k ByteArray.empty)] := by
  unfold lzs; rw [take_next zs k ByteArray.empty h]; simp
theorem lzs_len (zs : List ByteArray) (k : Nat) : (lzs zs k).length ≤ k := by simp [lzs]; omega
noncomputable def mkd (zs : List ByteArray) : Bool := (List.range zs.length).all (fun k => !(lzs zs k).contains (lzb (zs.getD k ByteArray.empty)))
theorem mkd_no {zs : List ByteArray} {k : Nat} (hk : k < zs.length) (h : (lzs zs k).contains (lzb (zs.getD k ByteArray.empty)) = true) : mkd zs = false := by
  unfold mkd
  rw [List.all_eq_false]
  exact ⟨k, List.mem_range.2 hk, by rw [h]; decide⟩
theorem mkd_yes {zs : List ByteArray} (h : ∀ k, k < zs.length → (lzs zs k).contains (lzb (zs.getD k ByteArray.empty)) = false) : mkd zs = true := by
  unfold mkd
  rw [List.all_eq_true]
  intro k hk
  rw [h k (List.mem_range.1 hk)]; decide
noncomputable def mB (zs : List ByteArray) : Bool := sB zs && mkd zs
theorem hitL_one (L : List UInt8) (c : UInt8) (i : Nat) (h : i < L.length) : hitL ⟨L.toArray⟩ ⟨#[c]⟩ i = (L.getD i 0 == c) := by
  have e : (⟨L.toArray⟩ : ByteArray).extract i (i + (⟨#[c]⟩ : ByteArray).size) = ⟨#[L.getD i 0]⟩ := by
    apply ByteArray.ext
    rw [ByteArray.data_extract]
    apply Array.ext
    · simp [ByteArray.size]; omega
    · intro j h1 h2
      simp at h2
      subst h2
      simp [Array.getElem_extract, List.getD_eq_getElem?_getD, h]
  unfold hitL
  rw [e, Lib.toList_data, Lib.toList_data]
  simp
theorem hasB_one (L : List UInt8) (c : UInt8) : hasB ⟨L.toArray⟩ ⟨#[c]⟩ = L.contains c := by
  have e1 : (⟨L.toArray⟩ : ByteArray).size + 1 - (⟨#[c]⟩ : ByteArray).size = L.length := by simp [ByteArray.size]
  unfold hasB
  rw [e1, Bool.eq_iff_iff, List.any_eq_true, List.contains_iff_mem]
  constructor
  · rintro ⟨i, hi, h⟩
    have hi' := List.mem_range.1 hi
    rw [hitL_one L c i hi', beq_iff_eq] at h
    rw [← h, List.getD_eq_getElem?_getD, List.getElem?_eq_getElem hi']
    exact List.getElem_mem hi'
  · intro h
    obtain ⟨i, hi, e⟩ := List.getElem_of_mem h
    refine ⟨i, List.mem_range.2 hi, ?_⟩
    rw [hitL_one L c i hi, beq_iff_eq, List.getD_eq_getElem?_getD, List.getElem?_eq_getElem hi]
    exact e
theorem push_run (l : List UInt8) (c : UInt8) (hl : l.length ≤ 1000) (w : World) : (Op.stringOp .add ⟨l.toArray⟩ ⟨#[c]⟩).run Try.prog w = .ok (.string ⟨(l ++ [c]).toArray⟩) w := by
  have e : (⟨l.toArray⟩ : ByteArray).size = l.length := by simp [ByteArray.size]
  have e2 : (⟨#[c]⟩ : ByteArray).size = 1 := rfl
  have e3 : (⟨l.toArray⟩ : ByteArray) ++ ⟨#[c]⟩ = ⟨(l ++ [c]).toArray⟩ := by apply ByteArray.ext; simp
  rw [run_string_add_sum w _ _ (by rw [e, e2]; omega), e3]
theorem img_pos {zs : List ByteArray} (h : sB zs = true) {k : Nat} (hk : k < zs.length) : 0 < (zs.getD k ByteArray.empty).size ∧ (zs.getD k ByteArray.empty).size ≤ 8 := by
  have := ((s_of h).2 k hk).1; omega
theorem zeros_eq : Try.zeroCells83 = Array.replicate 256 (.bool false) := by kernel_rfl
theorem zeros_info : (Try.prog.info? 83).map (·.size) = some (Try.zeroCells83).size := by kernel_rfl
theorem zeros_one : (Try.zeroCells83).all (·.oneCell') = true := by rw [zeros_eq]; decide +kernel
theorem zeros_at (z : Nat) (h : z < 256) : (Try.zeroCells83)[z]? = some (.bool false) := by
  rw [zeros_eq, Array.getElem?_replicate, if_pos h]
theorem sn_snoc (l : List UInt8) (c d : UInt8) : (l ++ [c]).contains d = (l.contains d || (d == c)) := by
  rw [List.contains_eq_any_beq, List.any_append, ← List.contains_eq_any_beq]; simp
theorem sn_set {wr : World} {ga : Nat} {l : List UInt8} {c : UInt8} (hc : ∀ d : UInt8, wr.cell? ⟨ga, d.toNat, none⟩ = some (.bool (l.contains d))) :
    ∀ d : UInt8, (wr.setCell ⟨ga, c.toNat, none⟩ (.bool true)).cell? ⟨ga, d.toNat, none⟩ = some (.bool ((l ++ [c]).contains d)) := by
  intro d
  rw [sn_snoc]
  by_cases e : d = c
  · subst e
    rw [csame, hc d]; simp
  · have hne : d.toNat ≠ c.toNat := fun q => e (UInt8.toNat_inj.1 q)
    have : (d == c) = false := by simpa using e
    rw [this, Bool.or_false, ← hc d]
    exact World.cell?_setCell_other wr ⟨ga, c.toNat, none⟩ ⟨ga, d.toNat, none⟩ _ (by intro q; injection q with q1 q2 q3; exact hne q2.symm)
set_option maxRecDepth 20000 in
set_option maxHeartbeats 2000000 in
theorem implMarked_any (x : Option Addr) (n cap : Nat) (zs : List ByteArray) (w : World) (h : IsStrs w x n cap zs) (hn : n ≤ 1048576) :
    Calls Try.prog 12 #[.agg #[.slice x n cap]] w fun e w' => e = .returned (.bool (mB zs)) ∧ Below w.heap.size w w' := by
  have hb0 : Below w.heap.size w (w.alloc (.cells #[.slice x n cap] 25)) := (Below.refl _ w).alloc (Nat.le_refl _) _
  have h0 := isStrs_below h (Nat.le_refl _) hb0
  have hlen := h.1
  cases hS : sB zs
  · have hf : Hid (mB zs = false) := Lib.hid (by simp [mB, hS])
    go_enter Try.func12, Try.ntmps12
    go_wp2_with (go_at_call 32; refine (implSubstOk_any _ _ _ _ _ h0 hn).mono ?_; rintro e w1 ⟨rfl, hb1⟩; obtain ⟨hc1, hf1⟩ := bcell hb1; have hl1 := ltW hb1)
    go_ret
    exact ⟨by rw [hf.out]; rfl, by (repeat (first | with_reducible exact Below.refl _ _ | assumption | with_reducible refine Qdrew ?_ | with_reducible refine QdrewN ?_ | ((with_reducible refine Qset ?_ ?_); exact (by ((try simp only [World.size_alloc, World.size_setCell, World.size_drew, size_drewN]); (try dsimp only); omega))) | ((with_reducible refine Qalloc ?_ ?_); exact (by ((try simp only [World.size_alloc, World.size_setCell, World.size_drew, size_drewN]); (try dsimp only); omega))) | refine Qtrans (by assumption) (by ((try simp only [World.size_alloc, World.size_setCell, World.size_drew, size_drewN]); (try dsimp only); omega)) ?_))⟩
  · have hM : Hid (mB zs = mkd zs) := Lib.hid (by simp [mB, hS])
    have hn4 : n ≤ 4 := by have := (s_of hS).1; omega
    have hpos := Lib.hid (fun k (hk : k < n) => img_pos hS (by rw [hlen]; exact hk))
    have hsc := fun (W : World) => run_storeCells_new (P := Try.prog) W 83 Try.zeroCells83 Try.zeroCells83 zeros_info rfl zeros_one
    go_enter Try.func12, Try.ntmps12
    go_wp2_with (go_at_call 32; refine (implSubstOk_any _ _ _ _ _ h0 hn).mono ?_; rintro e w1 ⟨rfl, hb1⟩; obtain ⟨hc1, hf1⟩ := bcell hb1; have hl1 := ltW hb1)
    have h1 := isStrs_below h0 (Nat.le_refl _) hb1
    have hzz := hb1.size
    simp only [World.size_alloc] at hzz
    clear hsc
    go_loopw [14] (fun i wr => ∃ k : Nat, k ≤ n ∧ i = .int .i64 k ∧ Hid (∀ j, j < k → (lzs zs j).contains (lzb (zs.getD j ByteArray.empty)) = false) ∧ Hid (∀ d : UInt8, wr.cell? ⟨w1.heap.size, d.toNat, none⟩ = some (.bool ((lzs zs k).contains d))) ∧ Hid (∀ o, wr.frozen? ⟨w1.heap.size, o, none⟩ = false) ∧ w1.heap.size < wr.heap.size ∧ Below w1.heap.size w1 wr) (fun i _ => n - (intOf i).toNat)
    case atStart =>
      refine ⟨0, by omega, rfl, Lib.hid (fun _ h => absurd h (by omega)), Lib.hid (fun d => ?_), Lib.hid (fun o => by simp [go_sem]), by simp, by (repeat (first | with_reducible exact Below.refl _ _ | assumption | with_reducible refine Qdrew ?_ | with_reducible refine QdrewN ?_ | ((with_reducible refine Qset ?_ ?_); exact (by ((try simp only [World.size_alloc, World.size_setCell, World.size_drew, size_drewN]); (try dsimp only); omega))) | ((with_reducible refine Qalloc ?_ ?_); exact (by ((try simp only [World.size_alloc, World.size_setCell, World.size_drew, size_drewN]); (try dsimp only); omega))) | refine Qtrans (by assumption) (by ((try simp only [World.size_alloc, World.size_setCell, World.size_drew, size_drewN]); (try dsimp only); omega)) ?_))⟩
      have hd : d.toNat < 256 := d.toNat_lt
      have := World.cell?_alloc_mark w1 Try.zeroCells83 83 (0, 0) d.toNat
      rw [zeros_at _ hd] at this
      exact this
    case round =>
      obtain ⟨k, hk, rfl, hno, hcl, hfz, hsz, hbel⟩ := hrel
      by_cases hlt : k < n
      · obtain ⟨b, off, rfl, hb, hc⟩ := isStrs_cell h1 (by omega)
        have hck := (hbel.cell (p := ⟨b, off + k, none⟩) (by exact hb)).trans (hc k hlt)
        obtain ⟨hp1, hp8⟩ := hpos.out k hlt
        have hnx := Lib.hid (lzs_next zs k (by rw [hlen]; exact hlt))
        have hbad := Lib.hid (mkd_no (zs := zs) (k := k) (by rw [hlen]; exact hlt))
        have hgo := Lib.hid (fun (q : (lzs zs k).contains (lzb (zs.getD k ByteArray.empty)) = false) => (fun j (hj : j < k + 1) => by
          by_cases e : j = k
          · subst e; exact q
          · exact hno.out j (by omega) : ∀ j, j < k + 1 → (lzs zs j).contains (lzb (zs.getD j ByteArray.empty)) = false))
        obtain ⟨v, hv⟩ : ∃ v, zs.getD k ByteArray.empty = v := ⟨_, rfl⟩
        rw [hv] at hck hp1 hp8 hnx hbad hgo
        have hbt := (lzb_bt v).symm
        have hby : ∀ j (h : j < v.size), ((v[j]'h).toNat : Int) = bt v j := fun j h => bt_eq v j h
        have hct := hcl.out (lzb v)
        have hst := sn_set (c := lzb v) hcl.out
        obtain ⟨c, hcc⟩ : ∃ c, lzb v = c := ⟨_, rfl⟩
        rw [hcc] at hbt hct hst hnx hbad hgo
        obtain ⟨l, hl⟩ : ∃ l, lzs zs k = l := ⟨_, rfl⟩
        rw [hl] at hnx hbad hgo hct hst
        have hst' := Lib.hid hst
        have hk0 : (0 : Int) ≤ (k : Int) := by omega
        have hk1 : (k : Int) < (n : Int) := by omega
        have hv0 : (0 : Int) ≤ (v.size : Int) - 1 := by omega
        have hv1 : (v.size : Int) - 1 < (v.size : Int) := by omega
        have hv8 : (v.size : Int) ≤ 8 := by omega
        have hc256 : (c.toNat : Int) < 256 := by have := c.toNat_lt; omega
        have hc0 : (0 : Int) ≤ (c.toNat : Int) := by omega
        have hfc := hfz.out c.toNat
        obtain ⟨t, ht⟩ : ∃ t, l.contains c = t := ⟨_, rfl⟩
        simp only [ht] at hct
        clear hcc hl hv hc hno hst hcl
        cases t
        · have hgo' := Lib.hid (hgo.out ht)
          clear hgo hbad ht
          go_wp2_with fail
          go_roundw
          case rel => exact ⟨k + 1, by omega, by go_num, hgo', Lib.hid (by rw [hnx.out]; exact hst'.out), Lib.hid (fun o => by rw [World.frozen?_setCell]; exact hfz.out o), by simpa using hsz, by (repeat (first | with_reducible exact Below.refl _ _ | assumption | with_reducible refine Qdrew ?_ | with_reducible refine QdrewN ?_ | ((with_reducible refine Qset ?_ ?_); exact (by ((try simp only [World.size_alloc, World.size_setCell, World.size_drew, size_drewN]); (try dsimp only); omega))) | ((with_reducible refine Qalloc ?_ ?_); exact (by ((try simp only [World.size_alloc, World.size_setCell, World.size_drew, size_drewN]); (try dsimp only); omega))) | refine Qtrans (by assumption) (by ((try simp only [World.size_alloc, World.size_setCell, World.size_drew, size_drewN]); (try dsimp only); omega)) ?_))⟩
          case measure => (simp [intOf]) <;> omega
        · have hf := Lib.hid (hbad.out ht)
          clear hgo hbad ht
          go_wp2_with fail
          go_ret
          exact ⟨by rw [hM.out, hf.out]; rfl, by (repeat (first | with_reducible exact Below.refl _ _ | assumption | with_reducible refine Qdrew ?_ | with_reducible refine QdrewN ?_ | ((with_reducible refine Qset ?_ ?_); exact (by ((try simp only [World.size_alloc, World.size_setCell, World.size_drew, size_drewN]); (try dsimp only); omega))) | ((with_reducible refine Qalloc ?_ ?_); exact (by ((try simp only [World.size_alloc, World.size_setCell, World.size_drew, size_drewN]); (try dsimp only); omega))) | refine Qtrans (by assumption) (by ((try simp only [World.size_alloc, World.size_setCell, World.size_drew, size_drewN]); (try dsimp only); omega)) ?_))⟩
      · obtain rfl : k = n := by omega
        have hf := Lib.hid (mkd_yes (zs := zs) (by rw [hlen]; exact hno.out))
        clear hcl hfz hno
        go_wp2
        go_ret
        exact ⟨by rw [hM.out, hf.out]; rfl, by (repeat (first | with_reducible exact Below.refl _ _ | assumption | with_reducible refine Qdrew ?_ | with_reducible refine QdrewN ?_ | ((with_reducible refine Qset ?_ ?_); exact (by ((try simp only [World.size_alloc, World.size_setCell, World.size_drew, size_drewN]); (try dsimp only); omega))) | ((with_reducible refine Qalloc ?_ ?_); exact (by ((try simp only [World.size_alloc, World.size_setCell, World.size_drew, size_drewN]); (try dsimp only); omega))) | refine Qtrans (by assumption) (by ((try simp only [World.size_alloc, World.size_setCell, World.size_drew, size_drewN]); (try dsimp only); omega)) ?_))⟩
end Go.Proofs.Ytilbhingfnjppab
