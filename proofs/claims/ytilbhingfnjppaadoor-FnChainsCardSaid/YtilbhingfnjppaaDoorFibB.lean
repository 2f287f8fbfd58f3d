/- The golden substitution by its name, its fixed word and its letters: the walks. -/
import Derived.Test.YtilbhingfnjppaaDoorFib
import Derived.Test.YtilbhingfnjppaaDoorSplS
set_option linter.unusedSimpArgs false
set_option linter.unusedVariables false
namespace Go.Proofs.YtilbhingfnjppaaDoor
open Go.RowKit
theorem wd_one {a : ByteArray} (h1 : a.size = 1) (h2 : bt a 0 = 97) : isWB a = true :=
  isWB_true ⟨by omega, fun j hj => by have : j = 0 := by omega
                                      subst this; unfold inL; omega⟩
theorem sOk_FZ : sB FZ = true := sB_yes ⟨by decide, by
  have e0 : FZ.getD 0 ByteArray.empty = ⟨#[97, 98]⟩ := rfl
  have e1 : FZ.getD 1 ByteArray.empty = ⟨#[97]⟩ := rfl
  intro j hj
  have hl : FZ.length = 2 := rfl
  rw [hl] at hj ⊢
  have : j = 0 ∨ j = 1 := by omega
  rcases this with rfl | rfl
  · rw [e0]
    refine ⟨by decide, ⟨by decide, ?_⟩, ?_⟩
    · intro i hi
      have : i = 0 ∨ i = 1 := by have : (⟨#[97, 98]⟩ : ByteArray).size = 2 := rfl
                                 omega
      rcases this with rfl | rfl <;> (unfold inL; decide)
    · intro i hi
      have : i = 0 ∨ i = 1 := by have : (⟨#[97, 98]⟩ : ByteArray).size = 2 := rfl
                                 omega
      rcases this with rfl | rfl <;> decide
  · rw [e1]
    refine ⟨by decide, ⟨by decide, ?_⟩, ?_⟩
    · intro i hi
      have : i = 0 := by have : (⟨#[97]⟩ : ByteArray).size = 1 := rfl
                         omega
      subst this; unfold inL; decide
    · intro i hi
      have : i = 0 := by have : (⟨#[97]⟩ : ByteArray).size = 1 := rfl
                         omega
      subst this; decide⟩
theorem isLetter_any (a : ByteArray) (ha1 : a.size = 1) (ha2 : bt a 0 = 97) (w : World) :
    Calls Tryd.prog 126 #[.string a] w fun e w' => e = .returned (.bool true) ∧ w = w' := by
  have hw := wd_one ha1 ha2
  have hI := fun w => isWord_any a w (by omega)
  rw [hw] at hI
  have h1 : (a.size : Int) = 1 := by omega
  go_enter Tryd.func126, Tryd.ntmps126
  go_wp2_with (go_at_call 63; refine (hI _).mono ?_; rintro e w1 ⟨rfl, rfl⟩)
  go_ret
  exact ⟨rfl, rfl⟩
set_option maxRecDepth 20000 in
set_option maxHeartbeats 1000000 in
theorem hasImage_any (a : ByteArray) (ha1 : a.size = 1) (ha2 : bt a 0 = 97) (x : Option Addr) (cap : Nat) (w : World) :
    Calls Tryd.prog 105 #[.agg #[.slice x 2 cap], .string a] w fun e w' => e = .returned (.bool true) ∧ Below w.heap.size w w' := by
  have hH := fun w => hasImages_any x 2 cap a w (by omega) (by omega)
  have hh : hiB 2 a = true := hiB_yes ⟨fun j hj => by have : j = 0 := by omega
                                                      subst this; omega, isW_of (wd_one ha1 ha2)⟩
  rw [hh] at hH
  have hL := fun w => isLetter_any a ha1 ha2 w
  go_enter Tryd.func105, Tryd.ntmps105
  go_wp2_with (first | (go_at_call 126; refine (hL _).mono ?_; rintro e w1 ⟨rfl, rfl⟩) | (go_at_call 62; refine (hH _).mono ?_; rintro e w2 ⟨rfl, hb2⟩))
  go_ret
  exact ⟨rfl, Qtrans hb2 (by simp) ((Below.refl _ w).alloc (Nat.le_refl _) _)⟩
set_option maxRecDepth 20000 in
set_option maxHeartbeats 1000000 in
theorem isGrowing_any (a : ByteArray) (ha1 : a.size = 1) (ha2 : bt a 0 = 97) (x : Option Addr) (cap : Nat) (w : World) (h : IsStrs w x 2 cap FZ) :
    Calls Tryd.prog 81 #[.agg #[.slice x 2 cap], .string a] w fun e w' => e = .returned (.bool true) ∧ Below w.heap.size w w' := by
  have hb : ∀ (h : 0 < a.size), ((a[0]'h).toNat : Int) = 97 := fun h => by rw [bt_eq a 0 h]; exact ha2
  have hH := fun w => hasImage_any a ha1 ha2 x cap w
  have hb0 : Below w.heap.size w (w.alloc (.cells #[.slice x 2 cap] 27)) := (Below.refl _ w).alloc (Nat.le_refl _) _
  have h' := isStrs_below h (Nat.le_refl _) hb0
  obtain ⟨W, hW⟩ : ∃ W, w.alloc (.cells #[.slice x 2 cap] 27) = W := ⟨_, rfl⟩
  have kW : W.cell? ⟨w.heap.size, 0, none⟩ = some (.slice x 2 cap) := by rw [← hW]; simp [go_sem]
  have zW : W.heap.size = w.heap.size + 1 := by rw [← hW]; simp
  rw [hW] at h' hb0
  obtain ⟨z0, hz0e⟩ : ∃ z, FZ.getD 0 ByteArray.empty = z := ⟨_, rfl⟩
  have hz0s : (z0.size : Int) = 2 := by rw [← hz0e]; rfl
  have hz0n : 0 < z0.size := by rw [← hz0e]; decide
  have hz0b : ∀ (h : 0 < z0.size), ((z0[0]'h).toNat : Int) = 97 := fun h => by rw [bt_eq z0 0 h, ← hz0e]; rfl
  have hS := Lib.hid h'
  have hzE := Lib.hid hz0e
  clear h hz0e h'
  go_enter Tryd.func81, Tryd.ntmps81
  go_upto_region 3 with (go_at_call 105; refine (hH _).mono ?_; rintro e w2 ⟨rfl, hb2⟩)
  have hz2 := hb2.size
  have k2 : w2.cell? ⟨w.heap.size, 0, none⟩ = some (.slice x 2 cap) := (hb2.cell (p := ⟨w.heap.size, 0, none⟩) (by show w.heap.size < _; omega)).trans kW
  have hC := image_any x 2 cap 0 FZ w2.drew (show IsStrs w2 x 2 cap FZ from isStrs_below hS.out (Nat.le_refl _) hb2) (by omega) (by omega)
  rw [hzE.out, show (((0 : Nat) : Int) + 97) = 97 by omega] at hC
  have hbB := Qtrans hb2 (by omega) hb0
  have hbw2 : w.heap.size < w2.heap.size := by omega
  clear hH hS hb2 hW
  go_region_held3 (fun wx => (∀ bk ofs, bk < w2.heap.size → wx.cell? ⟨bk, ofs, none⟩ = (w2).cell? ⟨bk, ofs, none⟩) ∧ Below (w2.heap.size) (w2) wx) ((refine stays ?_; ((repeat (first | with_reducible exact Below.refl _ _ | assumption | with_reducible refine Qdrew ?_ | with_reducible refine QdrewN ?_ | ((with_reducible refine Qset ?_ ?_); exact (by ((try simp only [World.size_alloc, World.size_setCell, World.size_drew, size_drewN]); (try dsimp only); omega))) | ((with_reducible refine Qalloc ?_ ?_); exact (by ((try simp only [World.size_alloc, World.size_setCell, World.size_drew, size_drewN]); (try dsimp only); omega))) | refine Qtrans (by assumption) (by ((try simp only [World.size_alloc, World.size_setCell, World.size_drew, size_drewN]); (try dsimp only); omega)) ?_)) <;> (go_split_ands; assumption)))) (first | (go_at_call 99; with_reducible refine hC.mono ?_; rintro e w6 ⟨rfl, hb6⟩; obtain ⟨hc6, hf6⟩ := bcell hb6; have hl6 := ltW hb6; have hz6 := hb6.size; (try simp only [World.size_drew] at hz6)))
  go_wp2_with fail
  go_region
  all_goals
    go_wp2_with fail
    go_ret
    exact ⟨rfl, by (repeat (first | with_reducible exact Below.refl _ _ | assumption | with_reducible refine Qdrew ?_ | with_reducible refine QdrewN ?_ | ((with_reducible refine Qset ?_ ?_); exact (by ((try simp only [World.size_alloc, World.size_setCell, World.size_drew, size_drewN]); (try dsimp only); omega))) | ((with_reducible refine Qalloc ?_ ?_); exact (by ((try simp only [World.size_alloc, World.size_setCell, World.size_drew, size_drewN]); (try dsimp only); omega))) | refine Qtrans (by assumption) (by ((try simp only [World.size_alloc, World.size_setCell, World.size_drew, size_drewN]); (try dsimp only); omega)) ?_))⟩
theorem mrow_one {w : World} {B g n cap k c' : Nat} {l : List UInt8} {b : UInt8} (h : Mrow w B g n cap l) (hk : k < n) (hb : l[k]? = some b) :
    (convert 24 9 (.slice (some ⟨g, k, none⟩) 1 c')).run Tryd.prog w = .ok (.string ⟨#[b]⟩) w := by
  have := run_convert_bytes_back w 24 9 5 ⟨g, k, none⟩ c' [b] Tryd.underlying24 Tryd.underlying5 Tryd.underlying9 (fun j hj => by
    have : j = 0 := by simp at hj; omega
    subst this
    rw [Addr.add_lit, Nat.add_zero, h.2.2.2.2.2.1 k hk]
    unfold bv
    rw [List.getElem?_map, hb]; rfl)
  exact this
set_option maxRecDepth 20000 in
set_option maxHeartbeats 1000000 in
theorem LetterAt_any (a : ByteArray) (ha1 : a.size = 1) (ha2 : bt a 0 = 97) (x : Option Addr) (cap k : Nat) (hk : k ≤ 10000) (w : World) (h : IsStrs w x 2 cap FZ) :
    Calls Tryd.prog 44 #[.agg #[.slice x 2 cap], .string a, .int .i64 k] w fun e w' => ∃ b, (fw 20)[k]? = some b ∧ e = .returned (.tuple #[.string ⟨#[b]⟩, .bool true]) ∧ Below w.heap.size w w' := by
  have hb0 : Below w.heap.size w (w.alloc (.cells #[.slice x 2 cap] 27)) := (Below.refl _ w).alloc (Nat.le_refl _) _
  have hS := Lib.hid (isStrs_below h (Nat.le_refl _) hb0)
  have hI : ∀ w, Calls Tryd.prog 50 #[.int .i64 k, .int .i64 0, .int .i64 10000] w fun e w' => e = .returned (.bool true) ∧ w = w' := fun w => by
    have := within_any (k : Int) 0 10000 w
    rwa [inB_true.2 (by omega)] at this
  have hl := fw20_len
  obtain ⟨b, hb⟩ : ∃ b, (fw 20)[k]? = some b := ⟨_, List.getElem?_eq_getElem (by omega)⟩
  have hbH := Lib.hid hb
  have i1 : IntKind.i64.wrap ((k : Int) + 1) = (k : Int) + 1 := IntWalk.i64_in _ (by omega)
  have i2 : (0 : Int) ≤ (k : Int) := by omega
  clear h hb hl
  go_enter Tryd.func44, Tryd.ntmps44
  go_upto_region 3 with (first | (go_at_call 57; refine (implSubstOk_any _ _ _ _ _ hS.out (by omega)).mono ?_; rw [sOk_FZ]; rintro e w2 ⟨rfl, hb2⟩; obtain ⟨hc2, hf2⟩ := bcell hb2; have hl2 := ltW hb2) | (go_at_call 81; refine (isGrowing_any a ha1 ha2 x cap w2 (isStrs_below hS.out (Nat.le_refl _) hb2)).mono ?_; rintro e w3 ⟨rfl, hb3⟩; obtain ⟨hc3, hf3⟩ := bcell hb3; have hl3 := ltW hb3) | (go_at_call 50; refine (hI _).mono ?_; rintro e w1 ⟨rfl, rfl⟩))
  have hz2 := hb2.size
  have hz3 := hb3.size
  have b3 : Below w.heap.size w w3 := Qtrans hb3 (by simp at hz2; omega) (Qtrans hb2 (by simp) hb0)
  have hS3 := isStrs_below (isStrs_below hS.out (Nat.le_refl _) hb2) (Nat.le_refl _) hb3
  have cF := fixed_any a ha1 ha2 x cap (k + 1) w3 hS3 (by omega)
  rw [show ((k + 1 : Nat) : Int) = (k : Int) + 1 by omega] at cF
  go_wp2_with (go_at_call 82; refine cF.mono ?_; rintro e w4 ⟨g, M, c, rfl, hM1, hM2, hMr, hb4⟩; have hMc := hMr.2.2.2.1; have hMH := Lib.hid hMr; have hcv : ∀ c', (convert 24 9 (.slice (some ⟨g, k, none⟩) 1 c')).run Tryd.prog w4 = .ok (.string ⟨#[b]⟩) w4 := (fun c' => mrow_one hMH.out (by omega) (by rw [List.getElem?_take_of_lt (by omega)]; exact hbH.out)); have j1 : (k : Int) ≤ (k : Int) + 1 := (by omega); have j2 : (k : Int) + 1 ≤ (c : Int) := (by omega); clear hMr)
  refine bodyPost_ret (v := .tuple #[.string ⟨#[b]⟩, .bool true]) (by simp [results, Tryd.results44, go_sem, *]) rfl ⟨b, hbH.out, rfl, Qtrans hb4 (by simp at hz2; omega) b3⟩
set_option maxRecDepth 20000 in
set_option maxHeartbeats 1000000 in
theorem FixedPoint_any (a : ByteArray) (ha1 : a.size = 1) (ha2 : bt a 0 = 97) (x : Option Addr) (cap k : Nat) (hk : k ≤ 400) (w : World) (h : IsStrs w x 2 cap FZ) :
    Calls Tryd.prog 36 #[.agg #[.slice x 2 cap], .string a, .int .i64 k] w fun e w' => e = .returned (.tuple #[.string ⟨((fw 20).take k).toArray⟩, .bool true]) ∧ Below w.heap.size w w' := by
  have hb0 : Below w.heap.size w (w.alloc (.cells #[.slice x 2 cap] 27)) := (Below.refl _ w).alloc (Nat.le_refl _) _
  have hS := Lib.hid (isStrs_below h (Nat.le_refl _) hb0)
  have hI : ∀ w, Calls Tryd.prog 50 #[.int .i64 k, .int .i64 0, .int .i64 400] w fun e w' => e = .returned (.bool true) ∧ w = w' := fun w => by
    have := within_any (k : Int) 0 400 w
    rwa [inB_true.2 (by omega)] at this
  obtain ⟨v, hv⟩ : ∃ v, (⟨((fw 20).take k).toArray⟩ : ByteArray) = v := ⟨_, rfl⟩
  rw [hv]
  have hvH := Lib.hid hv
  have i2 : (0 : Int) ≤ (k : Int) := by omega
  clear h hv
  go_enter Tryd.func36, Tryd.ntmps36
  go_upto_region 3 with (first | (go_at_call 57; refine (implSubstOk_any _ _ _ _ _ hS.out (by omega)).mono ?_; rw [sOk_FZ]; rintro e w2 ⟨rfl, hb2⟩; obtain ⟨hc2, hf2⟩ := bcell hb2; have hl2 := ltW hb2) | (go_at_call 81; refine (isGrowing_any a ha1 ha2 x cap w2 (isStrs_below hS.out (Nat.le_refl _) hb2)).mono ?_; rintro e w3 ⟨rfl, hb3⟩; obtain ⟨hc3, hf3⟩ := bcell hb3; have hl3 := ltW hb3) | (go_at_call 50; refine (hI _).mono ?_; rintro e w1 ⟨rfl, rfl⟩))
  have hz2 := hb2.size
  have hz3 := hb3.size
  have b3 : Below w.heap.size w w3 := Qtrans hb3 (by simp at hz2; omega) (Qtrans hb2 (by simp) hb0)
  have hS3 := isStrs_below (isStrs_below hS.out (Nat.le_refl _) hb2) (Nat.le_refl _) hb3
  have cF := fixed_any a ha1 ha2 x cap k w3 hS3 (by omega)
  go_wp2_with (go_at_call 82; refine cF.mono ?_; rintro e w4 ⟨g, M, c, rfl, hM1, hM2, hMr, hb4⟩; have hMc := hMr.2.2.2.1; have hMH := Lib.hid hMr; have hcv : (convert 24 9 (.slice (some ⟨g, 0, none⟩) k c)).run Tryd.prog w4 = .ok (.string v) w4 := (by have q := mrow_string (k := k) hMH.out (by omega); rw [List.take_take, Nat.min_eq_left (by omega), hvH.out] at q; exact q); have j2 : (k : Int) ≤ (c : Int) := (by omega); clear hMr)
  refine bodyPost_ret (v := .tuple #[.string v, .bool true]) (by simp [results, Tryd.results36, go_sem, *]) rfl ⟨rfl, Qtrans hb4 (by simp at hz2; omega) b3⟩
/-! ### The golden substitution by its name -/
def gtext : ByteArray := ⟨#[97, 98, 44, 97]⟩
theorem g_count : Lib.countB gtext ⟨#[44]⟩ = 1 := by decide +kernel
theorem g_split : Lib.splitB ⟨#[44]⟩ 0 1 gtext = FZ := by decide +kernel
set_option maxRecDepth 20000 in
set_option maxHeartbeats 1000000 in
theorem ParseSubst_any (t : ByteArray) (zs : List ByteArray) (gm : Int) (w : World) (hgm : w.cell? ⟨0, 0, none⟩ = some (.int .i64 gm)) (hz : t.size ≤ 1000) (hs : Lib.splitB ⟨#[44]⟩ 0 (Lib.countB t ⟨#[44]⟩) t = zs) (hl : Lib.countB t ⟨#[44]⟩ + 1 = zs.length) (hS : sB zs = true) :
    Calls Tryd.prog 15 #[.string t] w fun e w' => ∃ x cap, e = .returned (.tuple #[.agg #[.slice x zs.length cap], .bool true]) ∧ w'.ownsRow w.heap.size 9 1 (.slice x zs.length cap) zs.length (sv zs) ∧ IsStrs w' x zs.length cap zs ∧ Below w.heap.size w w' := by
  have hg0 : 0 < w.heap.size := World.block_lt_of_cell? w _ hgm
  have hb0 : Below w.heap.size w (w.alloc (.cells #[.slice none 0 0] 27)) := (Below.refl _ w).alloc (Nat.le_refl _) _
  have hn4 := (s_of hS).1
  have hsm : Hid (∀ z ∈ zs, z.size ≤ maxLen) := fun z hzz => by
    obtain ⟨j, hj, rfl⟩ := List.getElem_of_mem hzz
    have := ((s_of hS).2 j hj).1.2
    rw [List.getD_eq_getElem?_getD, List.getElem?_eq_getElem hj] at this
    unfold maxLen
    have h2 : (zs[j]).size ≤ 8 := this
    omega
  have cS := Tryd.strings_Split t ⟨#[44]⟩ gm (w.alloc (.cells #[.slice none 0 0] 27)) (by omega) ((hb0.cell (p := ⟨0, 0, none⟩) hg0).trans hgm) (by decide)
  rw [hs, hl] at cS
  have hSH := Lib.hid hS
  obtain ⟨n, hn⟩ : ∃ n, zs.length = n := ⟨_, rfl⟩
  rw [hn] at cS hn4 ⊢
  have hsv : (zs.map Value.string) = sv zs := rfl
  rw [hsv] at cS
  have hnH := Lib.hid hn
  clear hs hl hgm hn hS
  go_enter Tryd.func15, Tryd.ntmps15
  have hsl : (sv zs).length = n := by rw [sv_len]; exact hnH.out
  have o1 := World.ownsRow_lit (base := w.heap.size + 1) (e := 9) (size := 1) (w.alloc (.cells #[.slice none 0 0] 27)) (sv zs).toArray n (by simp) (by unfold maxLen; omega) (by simpa using hsl)
  simp only [World.size_alloc] at o1
  have o2 := own_below o1 ((Below.refl _ _).alloc (Nat.le_refl _) (.cells #[.slice (some ⟨w.heap.size + 1, 0, none⟩) n n] 27))
  have st2 : IsStrs _ (some ⟨w.heap.size + 1, 0, none⟩) n n zs := isStrs_own o2 hsm.out
  have cO := implSubstOk_any (some ⟨w.heap.size + 1, 0, none⟩) n n zs _ st2 (by omega)
  rw [hSH.out] at cO
  have o2H := Lib.hid o2
  clear o1 o2 st2 hsv
  go_wp2_with (first | (go_at_call 60; refine cS.mono ?_; rintro e w1 ⟨rfl, rfl⟩) | (go_at_call 57; refine cO.mono ?_; rintro e w2 ⟨rfl, hb2⟩; obtain ⟨hc2, hf2⟩ := bcell hb2; have hl2 := ltW hb2))
  have hz2 := hb2.size
  simp only [World.size_alloc] at hz2
  have o3 := ownsRow_setCell_below (a := ⟨w.heap.size, 0, none⟩) (own_below o2H.out hb2) (show w.heap.size < w.heap.size + 1 by omega) (.slice (some ⟨w.heap.size + 1, 0, none⟩) n n)
  refine bodyPost_ret (v := .tuple #[.agg #[.slice (some ⟨w.heap.size + 1, 0, none⟩) n n], .bool true]) (by simp [results, Tryd.results15, go_sem, csame, cset, *]) rfl ⟨_, n, rfl, World.ownsRow.mono o3 (by simp), isStrs_own o3 hsm.out, by (repeat (first | with_reducible exact Below.refl _ _ | assumption | with_reducible refine Qdrew ?_ | with_reducible refine QdrewN ?_ | ((with_reducible refine Qset ?_ ?_); exact (by ((try simp only [World.size_alloc, World.size_setCell, World.size_drew, size_drewN]); (try dsimp only); omega))) | ((with_reducible refine Qalloc ?_ ?_); exact (by ((try simp only [World.size_alloc, World.size_setCell, World.size_drew, size_drewN]); (try dsimp only); omega))) | refine Qtrans (by assumption) (by ((try simp only [World.size_alloc, World.size_setCell, World.size_drew, size_drewN]); (try dsimp only); omega)) ?_))⟩
set_option maxRecDepth 20000 in
set_option maxHeartbeats 1000000 in
theorem Golden_any (gm : Int) (w : World) (hgm : w.cell? ⟨0, 0, none⟩ = some (.int .i64 gm)) :
    Calls Tryd.prog 21 #[.string ⟨#[102, 105, 98, 111, 110, 97, 99, 99, 105]⟩] w fun e w' => ∃ x cap, e = .returned (.tuple #[.agg #[.slice x 2 cap], .bool true]) ∧ IsStrs w' x 2 cap FZ ∧ Below w.heap.size w w' := by
  have hg0 : 0 < w.heap.size := World.block_lt_of_cell? w _ hgm
  have hb0 : Below w.heap.size w (w.alloc (.cells #[.slice none 0 0] 27)) := (Below.refl _ w).alloc (Nat.le_refl _) _
  have hgm' := (hb0.cell (p := ⟨0, 0, none⟩) hg0).trans hgm
  have hP : Calls Tryd.prog 15 #[.string ⟨#[97, 98, 44, 97]⟩] (w.alloc (.cells #[.slice none 0 0] 27)) fun e w' => ∃ x cap, e = .returned (.tuple #[.agg #[.slice x 2 cap], .bool true]) ∧ w'.ownsRow (w.alloc (.cells #[.slice none 0 0] 27)).heap.size 9 1 (.slice x 2 cap) 2 (sv FZ) ∧ IsStrs w' x 2 cap FZ ∧ Below (w.alloc (.cells #[.slice none 0 0] 27)).heap.size (w.alloc (.cells #[.slice none 0 0] 27)) w' :=
    ParseSubst_any gtext FZ gm _ hgm' (by decide) (by rw [g_count]; exact g_split) (by rw [g_count]; rfl) sOk_FZ
  have hff : ((⟨#[102, 105, 98, 111, 110, 97, 99, 99, 105]⟩ : ByteArray).toList == (⟨#[102, 105, 98, 111, 110, 97, 99, 99, 105]⟩ : ByteArray).toList) = true := by simp
  clear hgm hgm'
  go_enter Tryd.func21, Tryd.ntmps21
  go_wp2_with (go_at_call 15; refine hP.mono ?_; rintro e w1 ⟨x, cap, rfl, ho, hst, hb1⟩; obtain ⟨hc1, hf1⟩ := bcell hb1; have hl1 := ltW hb1)
  have hz1 := hb1.size
  simp only [World.size_alloc] at hz1
  have o3 := ownsRow_setCell_below (a := ⟨w.heap.size, 0, none⟩) ho (by simp) (.slice x 2 cap)
  have hsm : ∀ z ∈ FZ, z.size ≤ maxLen := fun z hz => by
    have : z = ⟨#[97, 98]⟩ ∨ z = ⟨#[97]⟩ := by simpa [FZ] using hz
    rcases this with rfl | rfl <;> decide
  have s3 : IsStrs (w1.setCell ⟨w.heap.size, 0, none⟩ (.slice x 2 cap)) x 2 cap FZ := isStrs_ownAny o3 rfl hsm
  refine bodyPost_ret (v := .tuple #[.agg #[.slice x 2 cap], .bool true]) (by simp [results, Tryd.results21, go_sem, csame, cset, *]) rfl ⟨x, cap, rfl, s3, by (repeat (first | with_reducible exact Below.refl _ _ | assumption | with_reducible refine Qdrew ?_ | with_reducible refine QdrewN ?_ | ((with_reducible refine Qset ?_ ?_); exact (by ((try simp only [World.size_alloc, World.size_setCell, World.size_drew, size_drewN]); (try dsimp only); omega))) | ((with_reducible refine Qalloc ?_ ?_); exact (by ((try simp only [World.size_alloc, World.size_setCell, World.size_drew, size_drewN]); (try dsimp only); omega))) | refine Qtrans (by assumption) (by ((try simp only [World.size_alloc, World.size_setCell, World.size_drew, size_drewN]); (try dsimp only); omega)) ?_))⟩
end Go.Proofs.YtilbhingfnjppaaDoor
