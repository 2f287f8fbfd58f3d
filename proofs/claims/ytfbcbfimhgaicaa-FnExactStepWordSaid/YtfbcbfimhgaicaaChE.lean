/- A number put into an ascending list: the walk. -/
import Derived.Test.YtfbcbfimhgaicaaChD
import Derived.Test.YtfbcbfimhgaicaaGoldT
import Derived.Test.YtfbcbfimhgaicaaBase2
import Derived.Test.YtfbcbfimhgaicaaBytes
import Derived.Maps.AppendAt
set_option linter.unusedSimpArgs false
set_option linter.unusedVariables false
namespace Go.Proofs.Ytfbcbfimhgaicaa
open Go.RowKit
theorem infoG : (Try.prog.info? 58).map (fun i => (i.zero, i.size, i.bytes)) = some (some (.agg #[.int .i64 0, .int .i64 0]), 2, 16) := by kernel_rfl
/-- The cells of a list of golden numbers. -/
def gv (L : List GP) : List Value := L.flatMap (fun p => [Value.int .i64 p.1, Value.int .i64 p.2])
theorem gv_len (L : List GP) : (gv L).length = L.length * 2 := by
  induction L with
  | nil => rfl
  | cons a L ih => unfold gv at *; rw [List.flatMap_cons, List.length_append, ih]; simp; omega
theorem gv_app (L M : List GP) : gv (L ++ M) = gv L ++ gv M := by simp [gv]
theorem gv_at (L : List GP) : ∀ j, j < L.length → (gv L)[2 * j]? = some (.int .i64 (L.getD j (0, 0)).1) ∧ (gv L)[2 * j + 1]? = some (.int .i64 (L.getD j (0, 0)).2) := by
  induction L with
  | nil => intro j hj; simp at hj
  | cons a L ih =>
    intro j hj
    cases j with
    | zero => simp [gv]
    | succ j =>
      have := ih j (by simpa using hj)
      have e : gv (a :: L) = [Value.int .i64 a.1, Value.int .i64 a.2] ++ gv L := by simp [gv]
      rw [e, show 2 * (j + 1) = 2 * j + 2 by omega]
      simp only [List.getElem?_append_right (show [Value.int IntKind.i64 a.1, Value.int IntKind.i64 a.2].length ≤ 2 * j + 2 by simp), List.getElem?_append_right (show [Value.int IntKind.i64 a.1, Value.int IntKind.i64 a.2].length ≤ 2 * j + 2 + 1 by simp)]
      simpa using this
theorem gv_one (L : List GP) : ∀ u ∈ gv L, u.oneCell' = true := by
  intro u hu
  obtain ⟨p, _, hp⟩ := List.mem_flatMap.1 hu
  simp at hp
  rcases hp with rfl | rfl <;> rfl
theorem own2_cell {w : World} {B : Nat} {g n cap : Nat} {xs : List Value} (h : w.ownsRow B 58 2 (.slice (some ⟨g, 0, none⟩) n cap) n xs) (j : Nat) (hj : j < n * 2) : w.cell? ⟨g, j, none⟩ = xs[j]? := h.cellAt j hj
theorem own2_below {W w1 : World} {B : Nat} {e : TypeId} {v : Value} {n : Nat} {xs : List Value} (h : W.ownsRow B e 2 v n xs) (hb : Below W.heap.size W w1) : w1.ownsRow B e 2 v n xs :=
  h.kept (below_grown hb) (by cases v.ownBlock <;> simp)
def bg (x : GP) : Prop := (-50000 ≤ x.1 ∧ x.1 ≤ 50000) ∧ (-50000 ≤ x.2 ∧ x.2 ≤ 50000)
theorem gt_key {x y : GP} (hx : bg x) (hy : bg y) : sgn (y.1 - x.1) (y.2 - x.2) = 1 ↔ key x < key y := by
  obtain ⟨⟨x1, x2⟩, ⟨x3, x4⟩⟩ := hx
  obtain ⟨⟨y1, y2⟩, ⟨y3, y4⟩⟩ := hy
  rw [(sgn_lin (bd_of (by omega) (by omega)) (bd_of (by omega) (by omega))).1, vl_sub]
  unfold key
  omega
theorem app_formS {w1 : World} {B H W n0 c0 N m sz : Nat} {e : TypeId} {v' : Value} {xs : List Value} (hown : w1.ownsRow B e sz v' N xs) (hnil : v' = .slice none 0 0 ↔ (Value.slice (some ⟨H, 0, none⟩) n0 c0) = .slice none 0 0 ∧ m = 0) (hat : v'.ownBlock = some H ∨ v'.ownBlock = some W) : ∃ g1 c1, v' = .slice (some ⟨g1, 0, none⟩) N c1 ∧ (g1 = H ∨ g1 = W) := by
  rcases hown.2 with ⟨h', _⟩ | ⟨g1, c1, _, h', _⟩
  · exact absurd (hnil.1 h').1 (by simp)
  · subst h'
    exact ⟨g1, c1, rfl, by simpa [Value.ownBlock] using hat⟩
theorem gv_takel {L : List GP} {n K : Nat} (hlen : L.length = n) (hK : K ≤ n) : (gv (L.take K)).length = K * 2 := by rw [gv_len, List.length_take, Nat.min_eq_left (by omega)]
theorem gv_take {L : List GP} {n K : Nat} {w : World} {g : Nat} (hc : Hid (∀ j, j < n * 2 → w.cell? ⟨g, j, none⟩ = (gv L)[j]?)) (hlen : L.length = n) (hK : K ≤ n) : ∀ j u, (gv (L.take K))[j]? = some u → w.cell? ((⟨g, 0, none⟩ : Addr).add j) = some u := by
  intro j u hu
  have hl : (gv (L.take K)).length = K * 2 := by rw [gv_len, List.length_take]; congr 1; omega
  have hj : j < K * 2 := by
    by_cases h : j < K * 2
    · exact h
    · rw [List.getElem?_eq_none (by omega)] at hu; cases hu
  rw [Addr.add_lit, Nat.zero_add, hc.out j (by omega), ← hu]
  conv => lhs; rw [← List.take_append_drop K L, gv_app]
  rw [List.getElem?_append_left (by omega)]
theorem gv_drop {L : List GP} {n K : Nat} {w : World} {g : Nat} (hc : Hid (∀ j, j < n * 2 → w.cell? ⟨g, j, none⟩ = (gv L)[j]?)) (hlen : L.length = n) (hK : K ≤ n) : ∀ j u, (gv (L.drop K))[j]? = some u → w.cell? ((⟨g, K * 2, none⟩ : Addr).add j) = some u := by
  intro j u hu
  have hl : (gv (L.take K)).length = K * 2 := by rw [gv_len, List.length_take]; congr 1; omega
  have hd : (gv (L.drop K)).length = (n - K) * 2 := by rw [gv_len, List.length_drop, hlen]
  have hj : j < (n - K) * 2 := by
    by_cases h : j < (n - K) * 2
    · exact h
    · rw [List.getElem?_eq_none (by omega)] at hu; cases hu
  rw [Addr.add_lit, hc.out (K * 2 + j) (by omega), ← hu]
  conv => lhs; rw [← List.take_append_drop K L, gv_app]
  rw [List.getElem?_append_right (by omega), hl, Nat.add_sub_cancel_left]
theorem far_gv {w w' : World} {g H n : Nat} {L : List GP} (h : Hid (∀ j, j < n * 2 → w.cell? ⟨g, j, none⟩ = (gv L)[j]?)) (hg : w.grownBy w' (some H)) (hl : g < w.heap.size) (hne : g ≠ H) : Hid (∀ j, j < n * 2 → w'.cell? ⟨g, j, none⟩ = (gv L)[j]?) :=
  fun j hj => (hg.cell_far ⟨g, j, none⟩ hl (by simp; omega)).trans (h.out j hj)
theorem alloc_gv {w : World} {o : Obj} {g n : Nat} {L : List GP} (h : Hid (∀ j, j < n * 2 → w.cell? ⟨g, j, none⟩ = (gv L)[j]?)) (hl : g < w.heap.size) : Hid (∀ j, j < n * 2 → (w.alloc o).cell? ⟨g, j, none⟩ = (gv L)[j]?) :=
  fun j hj => (calloc hl).trans (h.out j hj)
set_option maxRecDepth 20000 in
set_option maxHeartbeats 4000000 in
theorem l15Put_any (B g n cap : Nat) (L : List GP) (x : GP) (w : World) (hB : B ≤ w.heap.size) (hn : n ≤ 100000) (hL : ∀ y ∈ L, bg y) (hx : bg x) (hown : w.ownsRow B 58 2 (.slice (some ⟨g, 0, none⟩) n cap) n (gv L)) :
    Calls Try.prog 93 #[.slice (some ⟨g, 0, none⟩) n cap, .agg #[.int .i64 (x.1), .int .i64 (x.2)]] w fun e w' => ∃ g' c, e = .returned (.slice (some ⟨g', 0, none⟩) (n + 1) c) ∧ w'.ownsRow B 58 2 (.slice (some ⟨g', 0, none⟩) (n + 1) c) (n + 1) (gv (gput L x)) ∧ Below w.heap.size w w' := by
  obtain ⟨i0, hi0, hz0, hz1, hz2⟩ := info_parts infoG
  have hlen : L.length = n := by have := hown.1; rw [gv_len] at this; omega
  have hnI : (n : Int) ≤ 100000 := by omega
  have hgl := (hown.lt g rfl).2
  have hgB := (hown.lt g rfl).1
  have hcap : n ≤ cap ∧ cap ≤ maxLen := by
    rcases hown.2 with ⟨h', _⟩ | ⟨_, _, _, h', _, _, hc, hm, _⟩
    · cases h'
    · cases h'; exact ⟨hc, hm⟩
  unfold maxLen at hcap
  obtain ⟨hcap1, hcap2⟩ := hcap
  have hcell : Hid (∀ j, j < n → w.cell? ⟨g, 2 * j, none⟩ = some (.int .i64 (L.getD j (0, 0)).1) ∧ w.cell? ⟨g, 2 * j + 1, none⟩ = some (.int .i64 (L.getD j (0, 0)).2)) := fun j hj => by
    have := gv_at L j (by omega)
    exact ⟨(own2_cell hown _ (by omega)).trans this.1, (own2_cell hown _ (by omega)).trans this.2⟩
  have hcJ0 : Hid (∀ j, j < n * 2 → w.cell? ⟨g, j, none⟩ = (gv L)[j]?) := fun j hj => own2_cell hown j hj
  have hlen' := Lib.hid hlen
  have hbgL : Hid (∀ j, j < n → bg (L.getD j (0, 0))) := fun j hj => hL _ (by rw [List.getD_eq_getElem?_getD, List.getElem?_eq_getElem (by omega)]; exact List.getElem_mem _)
  have hbx := Lib.hid hx
  obtain ⟨c, hc⟩ : ∃ c, x.1 = c := ⟨_, rfl⟩
  obtain ⟨d, hd⟩ : ∃ d, x.2 = d := ⟨_, rfl⟩
  rw [hc, hd]
  have hcd := Lib.hid (And.intro hc hd)
  clear hL hx hc hd hown hlen
  go_enter Try.func93, Try.ntmps93
  go_wp2_with fail
  go_loopw [5] (fun kv wr => ∃ k : Nat, k ≤ n ∧ kv = .int .i64 k ∧ Hid (kkg L x L.length = kkg L x k) ∧ Below (w.heap.size + 1) (w.alloc (.cells #[.int .i64 c, .int .i64 d] 58)) wr) (fun kv _ => (intOf kv).toNat)
  case atStart => exact ⟨n, Nat.le_refl _, rfl, Lib.hid (by rw [hlen'.out]), Below.refl _ _⟩
  case round =>
    obtain ⟨k, hk, rfl, hkk, hbel⟩ := hrel
    have hzb := hbel.size
    simp only [World.size_alloc] at hzb
    have hcx0 : wr.cell? ⟨w.heap.size, 0, none⟩ = some (.int .i64 c) := (hbel.cell (by simp)).trans (by simp [go_sem])
    have hcx1 : wr.cell? ⟨w.heap.size, 1, none⟩ = some (.int .i64 d) := (hbel.cell (by simp)).trans (by simp [go_sem])
    have hbw : w.heap.size < wr.heap.size := by omega
    have hgw : g < wr.heap.size := by omega
    have hcJ : Hid (∀ j, j < n * 2 → wr.cell? ⟨g, j, none⟩ = (gv L)[j]?) := fun j hj => (hbel.cell (by show g < _; omega)).trans ((calloc hgl).trans (hcJ0.out j hj))
    have hlen := hlen'
    cases k with
    | zero =>
      have hk0 : Hid (kkg L x L.length = 0) := hkk
      have hl : Hid (gput L x = (L.take 0 ++ [x]) ++ L.drop 0) := by show _ = _; unfold gput; rw [hk0.out]
      rw [show ((0 : Nat) : Int) = 0 from rfl]
      go_wp2_with fail
      go_quiet (fail)
      obtain ⟨W5, hW5⟩ : ∃ W5, W5 = wr.drewN nq := ⟨_, rfl⟩
      rw [← hW5]
      have hb5 : Below (w.heap.size + 1) (w.alloc (.cells #[.int .i64 c, .int .i64 d] 58)) W5 := by rw [hW5]; exact QdrewN hbel
      clear hbel hzb hcx0 hcx1 hbw hgw hcJ
      have hbel := hb5
      clear hb5 hW5
      have hzb := hbel.size
      simp only [World.size_alloc] at hzb
      have hcx0 : (W5).cell? ⟨w.heap.size, 0, none⟩ = some (.int .i64 c) := (hbel.cell (by simp)).trans (by simp [go_sem])
      have hcx1 : (W5).cell? ⟨w.heap.size, 1, none⟩ = some (.int .i64 d) := (hbel.cell (by simp)).trans (by simp [go_sem])
      have hbw : w.heap.size < (W5).heap.size := by omega
      have hgw : g < (W5).heap.size := by omega
      have hcJ : Hid (∀ j, j < n * 2 → (W5).cell? ⟨g, j, none⟩ = (gv L)[j]?) := fun j hj => (hbel.cell (by show g < _; omega)).trans ((calloc hgl).trans (hcJ0.out j hj))
      have hk5 : (0 : Int) ≤ ((0 : Nat) : Int) := by omega
      have hk6 : ((0 : Nat) : Int) ≤ ((n : Nat) : Int) := by omega
      have hk7 : ((0 : Nat) : Int) ≤ ((cap : Nat) : Int) := by omega
      have hown0 : (W5.alloc (.cells #[] 58)).ownsRow B 58 2 (.slice (some ⟨W5.heap.size, 0, none⟩) 0 0) 0 [] := World.ownsRow_lit (base := B) (e := 58) (size := 2) W5 #[] 0 (by omega) (by decide) rfl
      have hcA := alloc_gv (o := .cells #[] 58) hcJ hgw
      go_wp2_with (first | (at_builtin; refine wpList_append_own_at _ rfl _ _ _ rfl B 58 i0 _ 2 16 Try.underlying56 hi0 hz0 hz1 hz2 rfl (by decide) (.slice (some ⟨W5.heap.size, 0, none⟩) 0 0) 0 [] (by rfl) hown0 ⟨g, 0, none⟩ (0) (cap) (gv (L.take (0))) (by rfl) (gv_takel hlen.out (by omega)) (gv_take hcA hlen.out (by omega)) (gv_one _) (by unfold maxLen; omega) (by omega) (by simp; omega) ?_; intro v1 w1 hown1 hgrow1 hnil1 hat1; obtain ⟨g1, c1, rfl, hg1⟩ := app_formS (H := W5.heap.size) hown1 hnil1 hat1; rw [Nat.zero_add, List.nil_append] at hown1; have hz1' := hgrow1.size; (simp only [World.size_alloc] at hz1' hg1); have hcBv := far_gv (H := W5.heap.size) hcA hgrow1 (by simp; omega) (by omega); have bx0 : w1.cell? ⟨w.heap.size, 0, none⟩ = some (.int .i64 c) := (hgrow1.cell_far ⟨w.heap.size, 0, none⟩ (by simp; omega) (by simp [Value.ownBlock]; omega)).trans ((calloc hbw).trans hcx0); have bx1 : w1.cell? ⟨w.heap.size, 1, none⟩ = some (.int .i64 d) := (hgrow1.cell_far ⟨w.heap.size, 1, none⟩ (by simp; omega) (by simp [Value.ownBlock]; omega)).trans ((calloc hbw).trans hcx1)) | (at_builtin; refine wpList_append_lies _ rfl _ _ _ rfl B 58 i0 _ 2 16 Try.underlying56 hi0 hz0 hz1 hz2 rfl (by decide) (.slice (some ⟨g1, 0, none⟩) (0) c1) (0) (gv (L.take (0))) (by rfl) (hown1.alloc _) ⟨w1.heap.size, 0, none⟩ 1 1 [.int .i64 c, .int .i64 d] (by rfl) (by rfl) (World.news_of_block (cs := #[.int .i64 c, .int .i64 d]) (t := 58) (fr := (0, 0)) (heap_alloc_new w1 _)) (by simp [Value.oneCell']) (by omega) (by unfold maxLen; omega) (by omega) (by simp; omega) (w1.heap.size + 1) (by simp) ?_; intro gg capA w2 hown2 hgrow2 hatg hltg; have hz2' := hgrow2.size; (simp only [World.size_alloc] at hz2'); have hgg : gg = g1 ∨ gg = w1.heap.size + 1 := (by rcases hatg with e | e; exact .inl (by simpa [Value.ownBlock] using e.symm); exact .inr e); have hcC := far_gv (H := g1) (alloc_gv hcBv (by omega)) hgrow2 (by simp; omega) (by omega)) | (at_builtin; refine wpList_append_own_at _ rfl _ _ _ rfl B 58 i0 _ 2 16 Try.underlying56 hi0 hz0 hz1 hz2 rfl (by decide) (.slice (some ⟨gg, 0, none⟩) ((0) + 1) capA) ((0) + 1) _ (by rfl) hown2 ⟨g, 0, none⟩ (n - 0) (cap - 0) (gv (L.drop 0)) (by rfl) (by rw [gv_len, List.length_drop, hlen.out]) (gv_drop hcC hlen.out (by omega)) (gv_one _) (by unfold maxLen; omega) (by omega) (by omega) ?_; intro v3 w3 hown3 hgrow3 hnil3 hat3; obtain ⟨g3, c3, rfl, hg3⟩ := app_formS (H := gg) hown3 hnil3 hat3; have hz3' := hgrow3.size))
      have hN : (0) + 1 + (n - 0) = (n) + 1 := by omega
      have hvs : Hid (gv (gput L x) = (gv (L.take (0)) ++ [.int .i64 c, .int .i64 d]) ++ gv (L.drop 0)) := by show _ = _; rw [hl.out, gv_app, gv_app]; congr 2; simp [gv, hcd.out.1, hcd.out.2]
      rw [hN] at hown3
      go_ret
      refine ⟨g3, c3, by rw [← hN]; rfl, by rw [hvs.out]; exact hown3, ?_⟩
      have hbA : Below w.heap.size w W5 := Qtrans hbel (by omega) ((Below.refl _ w).alloc (Nat.le_refl _) _)
      have hb1 : Below w.heap.size w w1 := Below.grown (hbA.alloc (by omega) _) hgrow1 (by simp; omega) (fun k hk => by simp [Value.ownBlock] at hk; omega)
      have hb2 : Below w.heap.size w w2 := Below.grown (hb1.alloc (by omega) _) hgrow2 (by simp; omega) (fun k hk => by simp [Value.ownBlock] at hk; omega)
      exact Below.grown hb2 hgrow3 (by omega) (fun k hk => by simp [Value.ownBlock] at hk; omega)
    | succ k =>
      have e1 : ((k + 1 : Nat) : Int) = (k : Int) + 1 := by omega
      obtain ⟨q1, q2⟩ := hcell.out k (by omega)
      have hy := hbgL.out k (by omega)
      have hkey := gt_key hbx.out hy
      rw [hcd.out.1, hcd.out.2] at hkey
      obtain ⟨⟨x1, x2⟩, ⟨x3, x4⟩⟩ := hbx.out
      rw [hcd.out.1] at x1 x2
      rw [hcd.out.2] at x3 x4
      obtain ⟨⟨y1, y2⟩, ⟨y3, y4⟩⟩ := hy
      obtain ⟨a, ha⟩ : ∃ a, (L.getD k (0, 0)).1 = a := ⟨_, rfl⟩
      obtain ⟨b, hb⟩ : ∃ b, (L.getD k (0, 0)).2 = b := ⟨_, rfl⟩
      rw [ha] at q1 y1 y2 hkey
      rw [hb] at q2 y3 y4 hkey
      have r1 : wr.cell? ⟨g, k * 2, none⟩ = some (.int .i64 a) := by rw [Nat.mul_comm]; exact (hbel.cell (by show g < _; omega)).trans ((calloc hgl).trans q1)
      have r2 : wr.cell? ⟨g, k * 2 + 1, none⟩ = some (.int .i64 b) := by rw [Nat.mul_comm]; exact (hbel.cell (by show g < _; omega)).trans ((calloc hgl).trans q2)
      have s1 : IntKind.i64.wrap (a - c) = a - c := IntWalk.i64_in _ (by omega)
      have s2 : IntKind.i64.wrap (b - d) = b - d := IntWalk.i64_in _ (by omega)
      have hS := fun w => l14Sign_any (a - c) (b - d) w (by omega) (by omega)
      have hk0 : (0 : Int) < (k : Int) + 1 := by omega
      have hk1 : (0 : Int) ≤ (k : Int) := by omega
      have hk2 : (k : Int) < (n : Int) := by omega
      have hk9 : IntKind.i64.wrap (k : Int) = (k : Int) := IntWalk.i64_in _ (by omega)
      have hr := sgn_range (a - c) (b - d)
      obtain ⟨sg, hsg⟩ : ∃ sg, sgn (a - c) (b - d) = sg := ⟨_, rfl⟩
      rw [hsg] at hS hr hkey
      have hab := Lib.hid (And.intro ha hb)
      have hkey' := Lib.hid hkey
      rw [e1]
      clear ha hb q1 q2 hkey hsg
      have hk8 : IntKind.i64.wrap ((k : Int) + 1) = (k : Int) + 1 := IntWalk.i64_in _ (by omega)
      rcases hr with rfl | rfl | rfl
      · have hkv : Hid (kkg L x L.length = k + 1) := by show _ = _; rw [hkk.out, kkg, if_neg (by have := hkey'.out; intro q; have := this.2 q; omega)]
        have hl : Hid (gput L x = (L.take (k + 1) ++ [x]) ++ L.drop (k + 1)) := by show _ = _; unfold gput; rw [hkv.out]
        go_wp2_with fail
        go_region_held3 (fun wx => (∀ bk ofs, bk < wr.heap.size → wx.cell? ⟨bk, ofs, none⟩ = (wr).cell? ⟨bk, ofs, none⟩) ∧ Below (wr.heap.size) (wr) wx) ((refine stays ?_; ((repeat (first | with_reducible exact Below.refl _ _ | assumption | with_reducible refine Qdrew ?_ | with_reducible refine QdrewN ?_ | ((with_reducible refine Qset ?_ ?_); exact (by ((try simp only [World.size_alloc, World.size_setCell, World.size_drew, size_drewN]); (try dsimp only); omega))) | ((with_reducible refine Qalloc ?_ ?_); exact (by ((try simp only [World.size_alloc, World.size_setCell, World.size_drew, size_drewN]); (try dsimp only); omega))) | refine Qtrans (by assumption) (by ((try simp only [World.size_alloc, World.size_setCell, World.size_drew, size_drewN]); (try dsimp only); omega)) ?_)) <;> (go_split_ands; assumption)))) (first | (go_at_call 120; with_reducible refine (hS _).mono ?_; rintro e w6 ⟨rfl, hb6⟩; obtain ⟨hc6, hf6⟩ := bcell hb6; have hl6 := ltW hb6; have hz6 := hb6.size; (try simp only [World.size_drew] at hz6)))
        all_goals
          have hb5 := Qtrans hb6 (by simp; omega) (Qdrew hbel)
          clear hbel hzb hcx0 hcx1 hbw hgw hcJ hc6 hf6 hl6 hz6 hb6 r1 r2
          have hbel := hb5
          clear hb5
          have hzb := hbel.size
          simp only [World.size_alloc] at hzb
          have hcx0 : (w6).cell? ⟨w.heap.size, 0, none⟩ = some (.int .i64 c) := (hbel.cell (by simp)).trans (by simp [go_sem])
          have hcx1 : (w6).cell? ⟨w.heap.size, 1, none⟩ = some (.int .i64 d) := (hbel.cell (by simp)).trans (by simp [go_sem])
          have hbw : w.heap.size < (w6).heap.size := by omega
          have hgw : g < (w6).heap.size := by omega
          have hcJ : Hid (∀ j, j < n * 2 → (w6).cell? ⟨g, j, none⟩ = (gv L)[j]?) := fun j hj => (hbel.cell (by show g < _; omega)).trans ((calloc hgl).trans (hcJ0.out j hj))
          by_cases hce : cap = k + 1
          · obtain rfl : n = k + 1 := by omega
            subst hce
            have hd0 : L.drop (k + 1) = [] := List.drop_eq_nil_of_le (by have := hlen.out; omega)
            rw [hd0] at hl
            have hk5 : (0 : Int) ≤ ((k + 1 : Nat) : Int) := by omega
            have hk6 : ((k + 1 : Nat) : Int) ≤ ((k + 1 : Nat) : Int) := by omega
            have hk7 : ((k + 1 : Nat) : Int) ≤ ((k + 1 : Nat) : Int) := by omega
            have hown0 : (w6.alloc (.cells #[] 58)).ownsRow B 58 2 (.slice (some ⟨w6.heap.size, 0, none⟩) 0 0) 0 [] := World.ownsRow_lit (base := B) (e := 58) (size := 2) w6 #[] 0 (by omega) (by decide) rfl
            have hcA := alloc_gv (o := .cells #[] 58) hcJ hgw
            go_wp2_with (first | (at_builtin; refine wpList_append_own_at _ rfl _ _ _ rfl B 58 i0 _ 2 16 Try.underlying56 hi0 hz0 hz1 hz2 rfl (by decide) (.slice (some ⟨w6.heap.size, 0, none⟩) 0 0) 0 [] (by rfl) hown0 ⟨g, 0, none⟩ (k + 1) (k + 1) (gv (L.take (k + 1))) (by rfl) (gv_takel hlen.out (by omega)) (gv_take hcA hlen.out (by omega)) (gv_one _) (by unfold maxLen; omega) (by omega) (by simp; omega) ?_; intro v1 w1 hown1 hgrow1 hnil1 hat1; obtain ⟨g1, c1, rfl, hg1⟩ := app_formS (H := w6.heap.size) hown1 hnil1 hat1; rw [Nat.zero_add, List.nil_append] at hown1; have hz1' := hgrow1.size; (simp only [World.size_alloc] at hz1' hg1); have hcBv := far_gv (H := w6.heap.size) hcA hgrow1 (by simp; omega) (by omega); have bx0 : w1.cell? ⟨w.heap.size, 0, none⟩ = some (.int .i64 c) := (hgrow1.cell_far ⟨w.heap.size, 0, none⟩ (by simp; omega) (by simp [Value.ownBlock]; omega)).trans ((calloc hbw).trans hcx0); have bx1 : w1.cell? ⟨w.heap.size, 1, none⟩ = some (.int .i64 d) := (hgrow1.cell_far ⟨w.heap.size, 1, none⟩ (by simp; omega) (by simp [Value.ownBlock]; omega)).trans ((calloc hbw).trans hcx1)) | (at_builtin; refine wpList_append_lies _ rfl _ _ _ rfl B 58 i0 _ 2 16 Try.underlying56 hi0 hz0 hz1 hz2 rfl (by decide) (.slice (some ⟨g1, 0, none⟩) (k + 1) c1) (k + 1) (gv (L.take (k + 1))) (by rfl) (hown1.alloc _) ⟨w1.heap.size, 0, none⟩ 1 1 [.int .i64 c, .int .i64 d] (by rfl) (by rfl) (World.news_of_block (cs := #[.int .i64 c, .int .i64 d]) (t := 58) (fr := (0, 0)) (heap_alloc_new w1 _)) (by simp [Value.oneCell']) (by omega) (by unfold maxLen; omega) (by omega) (by simp; omega) (w1.heap.size + 1) (by simp) ?_; intro gg capA w2 hown2 hgrow2 hatg hltg; have hz2' := hgrow2.size; (simp only [World.size_alloc] at hz2'); have hgg : gg = g1 ∨ gg = w1.heap.size + 1 := (by rcases hatg with e | e; exact .inl (by simpa [Value.ownBlock] using e.symm); exact .inr e); have hcC := far_gv (H := g1) (alloc_gv hcBv (by omega)) hgrow2 (by simp; omega) (by omega)) | (at_builtin; refine wpList_append_own_at _ rfl _ _ _ rfl B 58 i0 _ 2 16 Try.underlying56 hi0 hz0 hz1 hz2 rfl (by decide) (.slice (some ⟨gg, 0, none⟩) ((k + 1) + 1) capA) ((k + 1) + 1) _ (by rfl) hown2 ⟨g, 0, none⟩ (0) (0) (gv ([])) (by rfl) (rfl) (fun j u hu => by simp [gv] at hu) (gv_one _) (by unfold maxLen; omega) (by omega) (by omega) ?_; intro v3 w3 hown3 hgrow3 hnil3 hat3; obtain ⟨g3, c3, rfl, hg3⟩ := app_formS (H := gg) hown3 hnil3 hat3; have hz3' := hgrow3.size))
            have hN : (k + 1) + 1 + (0) = (k + 1) + 1 := by omega
            have hvs : Hid (gv (gput L x) = (gv (L.take (k + 1)) ++ [.int .i64 c, .int .i64 d]) ++ gv ([])) := by show _ = _; rw [hl.out, gv_app, gv_app]; congr 2; simp [gv, hcd.out.1, hcd.out.2]
            rw [hN] at hown3
            go_ret
            refine ⟨g3, c3, by rw [← hN]; rfl, by rw [hvs.out]; exact hown3, ?_⟩
            have hbA : Below w.heap.size w w6 := Qtrans hbel (by omega) ((Below.refl _ w).alloc (Nat.le_refl _) _)
            have hb1 : Below w.heap.size w w1 := Below.grown (hbA.alloc (by omega) _) hgrow1 (by simp; omega) (fun k hk => by simp [Value.ownBlock] at hk; omega)
            have hb2 : Below w.heap.size w w2 := Below.grown (hb1.alloc (by omega) _) hgrow2 (by simp; omega) (fun k hk => by simp [Value.ownBlock] at hk; omega)
            exact Below.grown hb2 hgrow3 (by omega) (fun k hk => by simp [Value.ownBlock] at hk; omega)
          · have hce' := hce
            have hk5 : (0 : Int) ≤ ((k + 1 : Nat) : Int) := by omega
            have hk6 : ((k + 1 : Nat) : Int) ≤ ((n : Nat) : Int) := by omega
            have hk7 : ((k + 1 : Nat) : Int) ≤ ((cap : Nat) : Int) := by omega
            have hown0 : (w6.alloc (.cells #[] 58)).ownsRow B 58 2 (.slice (some ⟨w6.heap.size, 0, none⟩) 0 0) 0 [] := World.ownsRow_lit (base := B) (e := 58) (size := 2) w6 #[] 0 (by omega) (by decide) rfl
            have hcA := alloc_gv (o := .cells #[] 58) hcJ hgw
            go_wp2_with (first | (at_builtin; refine wpList_append_own_at _ rfl _ _ _ rfl B 58 i0 _ 2 16 Try.underlying56 hi0 hz0 hz1 hz2 rfl (by decide) (.slice (some ⟨w6.heap.size, 0, none⟩) 0 0) 0 [] (by rfl) hown0 ⟨g, 0, none⟩ (k + 1) (cap) (gv (L.take (k + 1))) (by rfl) (gv_takel hlen.out (by omega)) (gv_take hcA hlen.out (by omega)) (gv_one _) (by unfold maxLen; omega) (by omega) (by simp; omega) ?_; intro v1 w1 hown1 hgrow1 hnil1 hat1; obtain ⟨g1, c1, rfl, hg1⟩ := app_formS (H := w6.heap.size) hown1 hnil1 hat1; rw [Nat.zero_add, List.nil_append] at hown1; have hz1' := hgrow1.size; (simp only [World.size_alloc] at hz1' hg1); have hcBv := far_gv (H := w6.heap.size) hcA hgrow1 (by simp; omega) (by omega); have bx0 : w1.cell? ⟨w.heap.size, 0, none⟩ = some (.int .i64 c) := (hgrow1.cell_far ⟨w.heap.size, 0, none⟩ (by simp; omega) (by simp [Value.ownBlock]; omega)).trans ((calloc hbw).trans hcx0); have bx1 : w1.cell? ⟨w.heap.size, 1, none⟩ = some (.int .i64 d) := (hgrow1.cell_far ⟨w.heap.size, 1, none⟩ (by simp; omega) (by simp [Value.ownBlock]; omega)).trans ((calloc hbw).trans hcx1)) | (at_builtin; refine wpList_append_lies _ rfl _ _ _ rfl B 58 i0 _ 2 16 Try.underlying56 hi0 hz0 hz1 hz2 rfl (by decide) (.slice (some ⟨g1, 0, none⟩) (k + 1) c1) (k + 1) (gv (L.take (k + 1))) (by rfl) (hown1.alloc _) ⟨w1.heap.size, 0, none⟩ 1 1 [.int .i64 c, .int .i64 d] (by rfl) (by rfl) (World.news_of_block (cs := #[.int .i64 c, .int .i64 d]) (t := 58) (fr := (0, 0)) (heap_alloc_new w1 _)) (by simp [Value.oneCell']) (by omega) (by unfold maxLen; omega) (by omega) (by simp; omega) (w1.heap.size + 1) (by simp) ?_; intro gg capA w2 hown2 hgrow2 hatg hltg; have hz2' := hgrow2.size; (simp only [World.size_alloc] at hz2'); have hgg : gg = g1 ∨ gg = w1.heap.size + 1 := (by rcases hatg with e | e; exact .inl (by simpa [Value.ownBlock] using e.symm); exact .inr e); have hcC := far_gv (H := g1) (alloc_gv hcBv (by omega)) hgrow2 (by simp; omega) (by omega)) | (at_builtin; refine wpList_append_own_at _ rfl _ _ _ rfl B 58 i0 _ 2 16 Try.underlying56 hi0 hz0 hz1 hz2 rfl (by decide) (.slice (some ⟨gg, 0, none⟩) ((k + 1) + 1) capA) ((k + 1) + 1) _ (by rfl) hown2 ⟨g, (k + 1) * 2, none⟩ (n - (k + 1)) (cap - (k + 1)) (gv (L.drop (k + 1))) (by rfl) (by rw [gv_len, List.length_drop, hlen.out]) (gv_drop hcC hlen.out (by omega)) (gv_one _) (by unfold maxLen; omega) (by omega) (by omega) ?_; intro v3 w3 hown3 hgrow3 hnil3 hat3; obtain ⟨g3, c3, rfl, hg3⟩ := app_formS (H := gg) hown3 hnil3 hat3; have hz3' := hgrow3.size))
            have hN : (k + 1) + 1 + (n - (k + 1)) = (n) + 1 := by omega
            have hvs : Hid (gv (gput L x) = (gv (L.take (k + 1)) ++ [.int .i64 c, .int .i64 d]) ++ gv (L.drop (k + 1))) := by show _ = _; rw [hl.out, gv_app, gv_app]; congr 2; simp [gv, hcd.out.1, hcd.out.2]
            rw [hN] at hown3
            go_ret
            refine ⟨g3, c3, by rw [← hN]; rfl, by rw [hvs.out]; exact hown3, ?_⟩
            have hbA : Below w.heap.size w w6 := Qtrans hbel (by omega) ((Below.refl _ w).alloc (Nat.le_refl _) _)
            have hb1 : Below w.heap.size w w1 := Below.grown (hbA.alloc (by omega) _) hgrow1 (by simp; omega) (fun k hk => by simp [Value.ownBlock] at hk; omega)
            have hb2 : Below w.heap.size w w2 := Below.grown (hb1.alloc (by omega) _) hgrow2 (by simp; omega) (fun k hk => by simp [Value.ownBlock] at hk; omega)
            exact Below.grown hb2 hgrow3 (by omega) (fun k hk => by simp [Value.ownBlock] at hk; omega)
      · go_wp2_with fail
        go_region_held3 (fun wx => (∀ bk ofs, bk < wr.heap.size → wx.cell? ⟨bk, ofs, none⟩ = (wr).cell? ⟨bk, ofs, none⟩) ∧ Below (wr.heap.size) (wr) wx) ((refine stays ?_; ((repeat (first | with_reducible exact Below.refl _ _ | assumption | with_reducible refine Qdrew ?_ | with_reducible refine QdrewN ?_ | ((with_reducible refine Qset ?_ ?_); exact (by ((try simp only [World.size_alloc, World.size_setCell, World.size_drew, size_drewN]); (try dsimp only); omega))) | ((with_reducible refine Qalloc ?_ ?_); exact (by ((try simp only [World.size_alloc, World.size_setCell, World.size_drew, size_drewN]); (try dsimp only); omega))) | refine Qtrans (by assumption) (by ((try simp only [World.size_alloc, World.size_setCell, World.size_drew, size_drewN]); (try dsimp only); omega)) ?_)) <;> (go_split_ands; assumption)))) (first | (go_at_call 120; with_reducible refine (hS _).mono ?_; rintro e w6 ⟨rfl, hb6⟩; obtain ⟨hc6, hf6⟩ := bcell hb6; have hl6 := ltW hb6; have hz6 := hb6.size; (try simp only [World.size_drew] at hz6)))
        all_goals go_wp2
        all_goals go_roundw
        case rel => exact ⟨k, by omega, rfl, Lib.hid (by rw [hkk.out, kkg, if_pos (by have := hkey'.out; first | exact this.1 rfl | (simp at this; exact this))]), Qtrans hb6 (by simp; omega) (Qdrew hbel)⟩
        case measure => (simp [intOf]) <;> omega
      · have hkv : Hid (kkg L x L.length = k + 1) := by show _ = _; rw [hkk.out, kkg, if_neg (by have := hkey'.out; intro q; have := this.2 q; omega)]
        have hl : Hid (gput L x = (L.take (k + 1) ++ [x]) ++ L.drop (k + 1)) := by show _ = _; unfold gput; rw [hkv.out]
        go_wp2_with fail
        go_region_held3 (fun wx => (∀ bk ofs, bk < wr.heap.size → wx.cell? ⟨bk, ofs, none⟩ = (wr).cell? ⟨bk, ofs, none⟩) ∧ Below (wr.heap.size) (wr) wx) ((refine stays ?_; ((repeat (first | with_reducible exact Below.refl _ _ | assumption | with_reducible refine Qdrew ?_ | with_reducible refine QdrewN ?_ | ((with_reducible refine Qset ?_ ?_); exact (by ((try simp only [World.size_alloc, World.size_setCell, World.size_drew, size_drewN]); (try dsimp only); omega))) | ((with_reducible refine Qalloc ?_ ?_); exact (by ((try simp only [World.size_alloc, World.size_setCell, World.size_drew, size_drewN]); (try dsimp only); omega))) | refine Qtrans (by assumption) (by ((try simp only [World.size_alloc, World.size_setCell, World.size_drew, size_drewN]); (try dsimp only); omega)) ?_)) <;> (go_split_ands; assumption)))) (first | (go_at_call 120; with_reducible refine (hS _).mono ?_; rintro e w6 ⟨rfl, hb6⟩; obtain ⟨hc6, hf6⟩ := bcell hb6; have hl6 := ltW hb6; have hz6 := hb6.size; (try simp only [World.size_drew] at hz6)))
        all_goals
          have hb5 := Qtrans hb6 (by simp; omega) (Qdrew hbel)
          clear hbel hzb hcx0 hcx1 hbw hgw hcJ hc6 hf6 hl6 hz6 hb6 r1 r2
          have hbel := hb5
          clear hb5
          have hzb := hbel.size
          simp only [World.size_alloc] at hzb
          have hcx0 : (w6).cell? ⟨w.heap.size, 0, none⟩ = some (.int .i64 c) := (hbel.cell (by simp)).trans (by simp [go_sem])
          have hcx1 : (w6).cell? ⟨w.heap.size, 1, none⟩ = some (.int .i64 d) := (hbel.cell (by simp)).trans (by simp [go_sem])
          have hbw : w.heap.size < (w6).heap.size := by omega
          have hgw : g < (w6).heap.size := by omega
          have hcJ : Hid (∀ j, j < n * 2 → (w6).cell? ⟨g, j, none⟩ = (gv L)[j]?) := fun j hj => (hbel.cell (by show g < _; omega)).trans ((calloc hgl).trans (hcJ0.out j hj))
          by_cases hce : cap = k + 1
          · obtain rfl : n = k + 1 := by omega
            subst hce
            have hd0 : L.drop (k + 1) = [] := List.drop_eq_nil_of_le (by have := hlen.out; omega)
            rw [hd0] at hl
            have hk5 : (0 : Int) ≤ ((k + 1 : Nat) : Int) := by omega
            have hk6 : ((k + 1 : Nat) : Int) ≤ ((k + 1 : Nat) : Int) := by omega
            have hk7 : ((k + 1 : Nat) : Int) ≤ ((k + 1 : Nat) : Int) := by omega
            have hown0 : (w6.alloc (.cells #[] 58)).ownsRow B 58 2 (.slice (some ⟨w6.heap.size, 0, none⟩) 0 0) 0 [] := World.ownsRow_lit (base := B) (e := 58) (size := 2) w6 #[] 0 (by omega) (by decide) rfl
            have hcA := alloc_gv (o := .cells #[] 58) hcJ hgw
            go_wp2_with (first | (at_builtin; refine wpList_append_own_at _ rfl _ _ _ rfl B 58 i0 _ 2 16 Try.underlying56 hi0 hz0 hz1 hz2 rfl (by decide) (.slice (some ⟨w6.heap.size, 0, none⟩) 0 0) 0 [] (by rfl) hown0 ⟨g, 0, none⟩ (k + 1) (k + 1) (gv (L.take (k + 1))) (by rfl) (gv_takel hlen.out (by omega)) (gv_take hcA hlen.out (by omega)) (gv_one _) (by unfold maxLen; omega) (by omega) (by simp; omega) ?_; intro v1 w1 hown1 hgrow1 hnil1 hat1; obtain ⟨g1, c1, rfl, hg1⟩ := app_formS (H := w6.heap.size) hown1 hnil1 hat1; rw [Nat.zero_add, List.nil_append] at hown1; have hz1' := hgrow1.size; (simp only [World.size_alloc] at hz1' hg1); have hcBv := far_gv (H := w6.heap.size) hcA hgrow1 (by simp; omega) (by omega); have bx0 : w1.cell? ⟨w.heap.size, 0, none⟩ = some (.int .i64 c) := (hgrow1.cell_far ⟨w.heap.size, 0, none⟩ (by simp; omega) (by simp [Value.ownBlock]; omega)).trans ((calloc hbw).trans hcx0); have bx1 : w1.cell? ⟨w.heap.size, 1, none⟩ = some (.int .i64 d) := (hgrow1.cell_far ⟨w.heap.size, 1, none⟩ (by simp; omega) (by simp [Value.ownBlock]; omega)).trans ((calloc hbw).trans hcx1)) | (at_builtin; refine wpList_append_lies _ rfl _ _ _ rfl B 58 i0 _ 2 16 Try.underlying56 hi0 hz0 hz1 hz2 rfl (by decide) (.slice (some ⟨g1, 0, none⟩) (k + 1) c1) (k + 1) (gv (L.take (k + 1))) (by rfl) (hown1.alloc _) ⟨w1.heap.size, 0, none⟩ 1 1 [.int .i64 c, .int .i64 d] (by rfl) (by rfl) (World.news_of_block (cs := #[.int .i64 c, .int .i64 d]) (t := 58) (fr := (0, 0)) (heap_alloc_new w1 _)) (by simp [Value.oneCell']) (by omega) (by unfold maxLen; omega) (by omega) (by simp; omega) (w1.heap.size + 1) (by simp) ?_; intro gg capA w2 hown2 hgrow2 hatg hltg; have hz2' := hgrow2.size; (simp only [World.size_alloc] at hz2'); have hgg : gg = g1 ∨ gg = w1.heap.size + 1 := (by rcases hatg with e | e; exact .inl (by simpa [Value.ownBlock] using e.symm); exact .inr e); have hcC := far_gv (H := g1) (alloc_gv hcBv (by omega)) hgrow2 (by simp; omega) (by omega)) | (at_builtin; refine wpList_append_own_at _ rfl _ _ _ rfl B 58 i0 _ 2 16 Try.underlying56 hi0 hz0 hz1 hz2 rfl (by decide) (.slice (some ⟨gg, 0, none⟩) ((k + 1) + 1) capA) ((k + 1) + 1) _ (by rfl) hown2 ⟨g, 0, none⟩ (0) (0) (gv ([])) (by rfl) (rfl) (fun j u hu => by simp [gv] at hu) (gv_one _) (by unfold maxLen; omega) (by omega) (by omega) ?_; intro v3 w3 hown3 hgrow3 hnil3 hat3; obtain ⟨g3, c3, rfl, hg3⟩ := app_formS (H := gg) hown3 hnil3 hat3; have hz3' := hgrow3.size))
            have hN : (k + 1) + 1 + (0) = (k + 1) + 1 := by omega
            have hvs : Hid (gv (gput L x) = (gv (L.take (k + 1)) ++ [.int .i64 c, .int .i64 d]) ++ gv ([])) := by show _ = _; rw [hl.out, gv_app, gv_app]; congr 2; simp [gv, hcd.out.1, hcd.out.2]
            rw [hN] at hown3
            go_ret
            refine ⟨g3, c3, by rw [← hN]; rfl, by rw [hvs.out]; exact hown3, ?_⟩
            have hbA : Below w.heap.size w w6 := Qtrans hbel (by omega) ((Below.refl _ w).alloc (Nat.le_refl _) _)
            have hb1 : Below w.heap.size w w1 := Below.grown (hbA.alloc (by omega) _) hgrow1 (by simp; omega) (fun k hk => by simp [Value.ownBlock] at hk; omega)
            have hb2 : Below w.heap.size w w2 := Below.grown (hb1.alloc (by omega) _) hgrow2 (by simp; omega) (fun k hk => by simp [Value.ownBlock] at hk; omega)
            exact Below.grown hb2 hgrow3 (by omega) (fun k hk => by simp [Value.ownBlock] at hk; omega)
          · have hce' := hce
            have hk5 : (0 : Int) ≤ ((k + 1 : Nat) : Int) := by omega
            have hk6 : ((k + 1 : Nat) : Int) ≤ ((n : Nat) : Int) := by omega
            have hk7 : ((k + 1 : Nat) : Int) ≤ ((cap : Nat) : Int) := by omega
            have hown0 : (w6.alloc (.cells #[] 58)).ownsRow B 58 2 (.slice (some ⟨w6.heap.size, 0, none⟩) 0 0) 0 [] := World.ownsRow_lit (base := B) (e := 58) (size := 2) w6 #[] 0 (by omega) (by decide) rfl
            have hcA := alloc_gv (o := .cells #[] 58) hcJ hgw
            go_wp2_with (first | (at_builtin; refine wpList_append_own_at _ rfl _ _ _ rfl B 58 i0 _ 2 16 Try.underlying56 hi0 hz0 hz1 hz2 rfl (by decide) (.slice (some ⟨w6.heap.size, 0, none⟩) 0 0) 0 [] (by rfl) hown0 ⟨g, 0, none⟩ (k + 1) (cap) (gv (L.take (k + 1))) (by rfl) (gv_takel hlen.out (by omega)) (gv_take hcA hlen.out (by omega)) (gv_one _) (by unfold maxLen; omega) (by omega) (by simp; omega) ?_; intro v1 w1 hown1 hgrow1 hnil1 hat1; obtain ⟨g1, c1, rfl, hg1⟩ := app_formS (H := w6.heap.size) hown1 hnil1 hat1; rw [Nat.zero_add, List.nil_append] at hown1; have hz1' := hgrow1.size; (simp only [World.size_alloc] at hz1' hg1); have hcBv := far_gv (H := w6.heap.size) hcA hgrow1 (by simp; omega) (by omega); have bx0 : w1.cell? ⟨w.heap.size, 0, none⟩ = some (.int .i64 c) := (hgrow1.cell_far ⟨w.heap.size, 0, none⟩ (by simp; omega) (by simp [Value.ownBlock]; omega)).trans ((calloc hbw).trans hcx0); have bx1 : w1.cell? ⟨w.heap.size, 1, none⟩ = some (.int .i64 d) := (hgrow1.cell_far ⟨w.heap.size, 1, none⟩ (by simp; omega) (by simp [Value.ownBlock]; omega)).trans ((calloc hbw).trans hcx1)) | (at_builtin; refine wpList_append_lies _ rfl _ _ _ rfl B 58 i0 _ 2 16 Try.underlying56 hi0 hz0 hz1 hz2 rfl (by decide) (.slice (some ⟨g1, 0, none⟩) (k + 1) c1) (k + 1) (gv (L.take (k + 1))) (by rfl) (hown1.alloc _) ⟨w1.heap.size, 0, none⟩ 1 1 [.int .i64 c, .int .i64 d] (by rfl) (by rfl) (World.news_of_block (cs := #[.int .i64 c, .int .i64 d]) (t := 58) (fr := (0, 0)) (heap_alloc_new w1 _)) (by simp [Value.oneCell']) (by omega) (by unfold maxLen; omega) (by omega) (by simp; omega) (w1.heap.size + 1) (by simp) ?_; intro gg capA w2 hown2 hgrow2 hatg hltg; have hz2' := hgrow2.size; (simp only [World.size_alloc] at hz2'); have hgg : gg = g1 ∨ gg = w1.heap.size + 1 := (by rcases hatg with e | e; exact .inl (by simpa [Value.ownBlock] using e.symm); exact .inr e); have hcC := far_gv (H := g1) (alloc_gv hcBv (by omega)) hgrow2 (by simp; omega) (by omega)) | (at_builtin; refine wpList_append_own_at _ rfl _ _ _ rfl B 58 i0 _ 2 16 Try.underlying56 hi0 hz0 hz1 hz2 rfl (by decide) (.slice (some ⟨gg, 0, none⟩) ((k + 1) + 1) capA) ((k + 1) + 1) _ (by rfl) hown2 ⟨g, (k + 1) * 2, none⟩ (n - (k + 1)) (cap - (k + 1)) (gv (L.drop (k + 1))) (by rfl) (by rw [gv_len, List.length_drop, hlen.out]) (gv_drop hcC hlen.out (by omega)) (gv_one _) (by unfold maxLen; omega) (by omega) (by omega) ?_; intro v3 w3 hown3 hgrow3 hnil3 hat3; obtain ⟨g3, c3, rfl, hg3⟩ := app_formS (H := gg) hown3 hnil3 hat3; have hz3' := hgrow3.size))
            have hN : (k + 1) + 1 + (n - (k + 1)) = (n) + 1 := by omega
            have hvs : Hid (gv (gput L x) = (gv (L.take (k + 1)) ++ [.int .i64 c, .int .i64 d]) ++ gv (L.drop (k + 1))) := by show _ = _; rw [hl.out, gv_app, gv_app]; congr 2; simp [gv, hcd.out.1, hcd.out.2]
            rw [hN] at hown3
            go_ret
            refine ⟨g3, c3, by rw [← hN]; rfl, by rw [hvs.out]; exact hown3, ?_⟩
            have hbA : Below w.heap.size w w6 := Qtrans hbel (by omega) ((Below.refl _ w).alloc (Nat.le_refl _) _)
            have hb1 : Below w.heap.size w w1 := Below.grown (hbA.alloc (by omega) _) hgrow1 (by simp; omega) (fun k hk => by simp [Value.ownBlock] at hk; omega)
            have hb2 : Below w.heap.size w w2 := Below.grown (hb1.alloc (by omega) _) hgrow2 (by simp; omega) (fun k hk => by simp [Value.ownBlock] at hk; omega)
            exact Below.grown hb2 hgrow3 (by omega) (fun k hk => by simp [Value.ownBlock] at hk; omega)
end Go.Proofs.Ytfbcbfimhgaicaa
