/- FactorWords, walked: it returns true and changes nothing that was there. Conditions: the lists read, each of at most 1048576. -/
import Derived.Test.YtgmchedfgdgenaaAsked
import Derived.Test.YtgmchedfgdgenaaJ22
namespace Go.Proofs.Ytgmchedfgdgenaa.FactorWords
open Go.RowKit
attribute [local go_sem] Oper.semAt_some

theorem text_size {name : ByteArray} {n : Nat} (hn : name.size ≤ 1) {x : ByteArray} (hx : x ∈ textL name n) : x.size ≤ n + 1 := by
  obtain ⟨i, hi, rfl⟩ := List.mem_map.1 hx
  have := List.mem_range.1 hi
  have h2 := digT_size (i + 1) i (Nat.lt_succ_self i)
  rw [ByteArray.size_append]
  omega
theorem fold_size (B : Nat) : ∀ (L : List ByteArray) (x : ByteArray), (∀ y, y ∈ L → y.size ≤ B) → (foldF_s x L).size ≤ x.size + L.length * (B + 3)
  | [], x, _ => by simp [foldF_s]
  | y :: L, x, h => by
    have h1 := fold_size B L (addF_s x y) fun z hz => h z (List.mem_cons_of_mem _ hz)
    have h2 := h y List.mem_cons_self
    have h3 : (addF_s x y).size = x.size + y.size + 3 := by
      have e1 : (⟨#[40]⟩ : ByteArray).size = 1 := rfl
      have e2 : (⟨#[43]⟩ : ByteArray).size = 1 := rfl
      have e3 : (⟨#[41]⟩ : ByteArray).size = 1 := rfl
      unfold addF_s; simp only [ByteArray.size_append, e1, e2, e3]; omega
    have h4 : foldF_s x (y :: L) = foldF_s (addF_s x y) L := rfl
    rw [h4, List.length_cons, Nat.add_mul]
    omega
theorem fold_ok {n : Nat} {name : ByteArray} (hn : name.size ≤ 1) (hb : n ≤ 1048576) (R : List ByteArray) (hl : R.length ≤ (textL name n).length) (hm : ∀ y, y ∈ R → y ∈ textL name n) : FoldOk_s zeroF_s R := by
  rw [textL_length] at hl
  intro k hk
  unfold AddOk_s
  have h1 := fold_size (n + 1) (R.take k) zeroF_s fun y hy => text_size hn (hm y (List.mem_of_mem_take hy))
  have h2 := text_size hn (hm _ (nth_mem hk))
  have h3 : (R.take k).length ≤ 1048576 := by rw [List.length_take]; omega
  have h4 : zeroF_s.size = 1 := rfl
  have h5 : (R.take k).length * (n + 1 + 3) ≤ 1048576 * 1048580 := Nat.mul_le_mul h3 (by omega)
  omega
set_option maxRecDepth 100000 in
set_option maxHeartbeats 1600000 in
theorem lawB (A1 : Option Addr) (n1 c1 : Nat) (S1 : List Int) (A2 : Option Addr) (n2 c2 : Nat) (Z1 : List Int) (A3 : Option Addr) (n3 c3 : Nat) (L1 : List Int) (B1 : Option Addr) (m1 d1 : Nat) (S2 : List Int) (B2 : Option Addr) (m2 d2 : Nat) (Z2 : List Int) (B3 : Option Addr) (m3 d3 : Nat) (L2 : List Int)
    (v fv fx : Int) (X : Option Addr) (nx cx : Nat) (XS : List Int) (w : World)
    (h1 : Sl (Value.int .i64) w A1 n1 S1) (h2 : Sl (Value.int .i64) w A2 n2 Z1) (_ : Sl (Value.int .i64) w A3 n3 L1) (_ : n1 * 8 ≤ 140737488351232) (_ : n2 * 8 ≤ 140737488351232) (_ : n3 * 8 ≤ 140737488351232) (_ : n1 ≤ c1) (_ : n2 ≤ c2) (_ : n3 ≤ c3) (_ : ∀ x, x ∈ S1 ∨ x ∈ Z1 ∨ x ∈ L1 → (Lit.int .i64 x).wf = true)
    (k1 : Sl (Value.int .i64) w B1 m1 S2) (k2 : Sl (Value.int .i64) w B2 m2 Z2) (_ : Sl (Value.int .i64) w B3 m3 L2) (_ : m1 * 8 ≤ 140737488351232) (_ : m2 * 8 ≤ 140737488351232) (_ : m3 * 8 ≤ 140737488351232) (_ : m1 ≤ d1) (_ : m2 ≤ d2) (_ : m3 ≤ d3) (_ : ∀ x, x ∈ S2 ∨ x ∈ Z2 ∨ x ∈ L2 → (Lit.int .i64 x).wf = true)
    (_ : (Lit.int .i64 v).wf = true) (_ : (Lit.int .i64 fv).wf = true) (_ : (Lit.int .i64 fx).wf = true) (hx : Sl (Value.int .i64) w X nx XS) (_ : ∀ x ∈ XS, (Lit.int .i64 x).wf = true)
    (u0 : n1 ≤ 1048576 ∧ n2 ≤ 1048576 ∧ n3 ≤ 1048576) (u1 : m1 ≤ 1048576 ∧ m2 ≤ 1048576 ∧ m3 ≤ 1048576) (_ : nx ≤ 1048576) :
    Calls Try.prog 6 #[.agg #[.slice A1 n1 c1, .slice A2 n2 c2, .slice A3 n3 c3], .agg #[.slice B1 m1 d1, .slice B2 m2 d2, .slice B3 m3 d3], .int .i64 v, .agg #[.int .i64 fv, .int .i64 fx], .slice X nx cx] w fun e w' => e = .returned (.bool true) ∧ Below w.heap.size w w' := by
  have H0 := ((((((((Held.init w).sl h1).sl h2).sl k1).sl k2).sl hx).new 24 [.slice A1 n1 c1, .slice A2 n2 c2, .slice A3 n3 c3]).new 24 [.slice B1 m1 d1, .slice B2 m2 d2, .slice B3 m3 d3]).new 64 [.int .i64 fv, .int .i64 fx]
  simp only [World.size_alloc] at H0
  clear h1 h2 k1 k2 hx
  have a0 := H0.has.2.2.1.cell 0
  have a1 := H0.has.2.2.1.cell 1
  have a2 := H0.has.2.2.1.cell 2
  have e0 := H0.has.2.1.cell 0
  have e1 := H0.has.2.1.cell 1
  have e2 := H0.has.2.1.cell 2
  go_enter Try.func6, Try.ntmps6
  go_wp2_with fail
  refine (large_any A1 A2 A3 B1 B2 B3 n1 c1 n2 c2 n3 c3 m1 d1 m2 d2 m3 d3 S1 Z1 S2 Z2 _ H0.has.2.2.2.2.2.2.2.1 H0.has.2.2.2.2.2.2.1 H0.has.2.2.2.2.2.1 H0.has.2.2.2.2.1 (by omega)).mono ?_
  rintro e w1 ⟨rfl, hb1⟩
  have H1 := H0.step hb1
  clear H0 hb1 a0 a1 a2 e0 e1 e2
  generalize largeB S1 Z1 n3 S2 Z2 m3 = lb
  cases lb with
  | true =>
    go_wp2_with fail
    go_ret
    exact ⟨ret_bool rfl, H1.bel⟩
  | false =>
    go_upto_region 3 with fail
--R3
    have HK := Lib.hid (show ∀ wx : World, Below w1.heap.size w1 wx → (wx.cell? ⟨w.heap.size, 0, none⟩ = some (.slice A1 n1 c1) ∧ wx.cell? ⟨w.heap.size, 1, none⟩ = some (.slice A2 n2 c2) ∧ wx.cell? ⟨w.heap.size, 2, none⟩ = some (.slice A3 n3 c3)) ∧ (wx.cell? ⟨w.heap.size + 1, 0, none⟩ = some (.slice B1 m1 d1) ∧ wx.cell? ⟨w.heap.size + 1, 1, none⟩ = some (.slice B2 m2 d2) ∧ wx.cell? ⟨w.heap.size + 1, 2, none⟩ = some (.slice B3 m3 d3)) ∧ wx.cell? ⟨w.heap.size + 1 + 1, 0, none⟩ = some (.int .i64 fv) ∧ wx.cell? ⟨w.heap.size + 1 + 1, 1, none⟩ = some (.int .i64 fx) from fun wx hb => by
      have F := (H1.step hb).has
      exact ⟨⟨F.2.2.1.cell 0, F.2.2.1.cell 1, F.2.2.1.cell 2⟩, ⟨F.2.1.cell 0, F.2.1.cell 1, F.2.1.cell 2⟩, F.1.cell 0, F.1.cell 1⟩)
    have G : Below w1.heap.size w1 w1.drew := below_drewN (Below.refl _ _) 1
    have HH := Lib.hid H1
    clear H1
    refine wp_region_held_drew (S := fun w' => (w'.cell? ⟨w.heap.size, 0, none⟩ = some (.slice A1 n1 c1) ∧ w'.cell? ⟨w.heap.size, 1, none⟩ = some (.slice A2 n2 c2) ∧ w'.cell? ⟨w.heap.size, 2, none⟩ = some (.slice A3 n3 c3)) ∧ (w'.cell? ⟨w.heap.size + 1, 0, none⟩ = some (.slice B1 m1 d1) ∧ w'.cell? ⟨w.heap.size + 1, 1, none⟩ = some (.slice B2 m2 d2) ∧ w'.cell? ⟨w.heap.size + 1, 2, none⟩ = some (.slice B3 m3 d3)) ∧ w'.cell? ⟨w.heap.size + 1 + 1, 0, none⟩ = some (.int .i64 fv) ∧ w'.cell? ⟨w.heap.size + 1 + 1, 1, none⟩ = some (.int .i64 fx)) (by kernel_rfl) ?hS1 (fun hHeld => ?rest1)
    case hS1 => (first | assumption | exact HK.out _ G | go_keep)
    refine wpAnyH_takeL (i := 0) (v := ?v2) rfl (by kernel_rfl) (by kernel_rfl) (by kernel_rfl) (fun _ _ _ h => h) (by rfl) ?hy2 (by assumption) ?rest2
    case hy2 => (intro w hSw; (try dsimp only at hSw); go_simp; try with_reducible rfl)
    try simp only [Act.put, List.setIfInBounds_toArray, List.set_cons_zero, List.set_cons_succ]
    refine wpAnyH_takeL (i := 1) (v := ?v3) rfl (by kernel_rfl) (by kernel_rfl) (by kernel_rfl) (fun _ _ _ h => h) (by rfl) ?hy3 (by assumption) ?rest3
    case hy3 => (intro w hSw; (try dsimp only at hSw); go_simp; try with_reducible rfl)
    try simp only [Act.put, List.setIfInBounds_toArray, List.set_cons_zero, List.set_cons_succ]
    refine wpAnyH_takeL (i := 2) (v := ?v4) rfl (by kernel_rfl) (by kernel_rfl) (by kernel_rfl) (fun _ _ _ h => h) (by rfl) ?hy4 (by assumption) ?rest4
    case hy4 => (intro w hSw; (try dsimp only at hSw); go_simp; try with_reducible rfl)
    try simp only [Act.put, List.setIfInBounds_toArray, List.set_cons_zero, List.set_cons_succ]
    refine wpAnyH_takeL (i := 4) (v := ?v5) rfl (by kernel_rfl) (by kernel_rfl) (by kernel_rfl) (fun _ _ _ h => h) (by rfl) ?hy5 (by assumption) ?rest5
    case hy5 => (intro w hSw; (try dsimp only at hSw); go_simp; try with_reducible rfl)
    try simp only [Act.put, List.setIfInBounds_toArray, List.set_cons_zero, List.set_cons_succ]
    refine wpAnyH_takeL (i := 6) (v := ?v6) rfl (by kernel_rfl) (by kernel_rfl) (by kernel_rfl) (fun _ _ _ h => h) (by rfl) ?hy6 (by assumption) ?rest6
    case hy6 => (intro w hSw; (try dsimp only at hSw); go_simp; try with_reducible rfl)
    try simp only [Act.put, List.setIfInBounds_toArray, List.set_cons_zero, List.set_cons_succ]
    refine wpAnyH_takeL (i := 7) (v := ?v7) rfl (by kernel_rfl) (by kernel_rfl) (by kernel_rfl) (fun _ _ _ h => h) (by rfl) ?hy7 (by assumption) ?rest7
    case hy7 => (intro w hSw; (try dsimp only at hSw); go_simp; try with_reducible rfl)
    try simp only [Act.put, List.setIfInBounds_toArray, List.set_cons_zero, List.set_cons_succ]
    refine wpAnyH_takeL (i := 8) (v := ?v8) rfl (by kernel_rfl) (by kernel_rfl) (by kernel_rfl) (fun _ _ _ h => h) (by rfl) ?hy8 (by assumption) ?rest8
    case hy8 => (intro w hSw; (try dsimp only at hSw); go_simp; try with_reducible rfl)
    try simp only [Act.put, List.setIfInBounds_toArray, List.set_cons_zero, List.set_cons_succ]
    refine wpAnyH_ready (rs := [3]) (by kernel_rfl) (by simp) (consL rfl (fun K hK => ?step9))
    (go_simp; (refine (texts_any A1 A2 A3 n1 c1 n2 c2 n3 c3 ⟨#[97]⟩ _ (by decide) (by omega)).mono ?_); (rintro e w2 ⟨T1, t1, rfl, o1, hb⟩); (have G := G.trans (hb.mono G.size)); (have s1 := o1.sl (by omega)); clear o1 hb)
    refine hK.out _ _ ?hS9 (fun hHeld => ?rest9)
    case hS9 => (first | assumption | exact HK.out _ G | go_keep)
    clear hK K
    try simp only [Act.put, List.setIfInBounds_toArray, List.set_cons_zero, List.set_cons_succ]
    refine wpAnyH_ready (rs := [5]) (by kernel_rfl) (by simp) (consL rfl (fun K hK => ?step10))
    (go_simp; (refine (texts_any B1 B2 B3 m1 d1 m2 d2 m3 d3 ⟨#[98]⟩ _ (by decide) (by omega)).mono ?_); (rintro e w3 ⟨T2, t2, rfl, o2, hb⟩); (have s1 := s1.below (Nat.le_refl _) hb); (have G := G.trans (hb.mono G.size)); (have s2 := o2.sl (by omega)); clear o2 hb)
    refine hK.out _ _ ?hS10 (fun hHeld => ?rest10)
    case hS10 => (first | assumption | exact HK.out _ G | go_keep)
    clear hK K
    try simp only [Act.put, List.setIfInBounds_toArray, List.set_cons_zero, List.set_cons_succ]
    refine wpAnyH_ready (rs := [9]) (by kernel_rfl) (by simp) (consL rfl (fun K hK => ?step11))
    (go_simp; (refine (asked_s A1 A2 T1 B1 B2 T2 X n1 c1 n2 c2 n3 t1 m1 d1 m2 d2 m3 t2 nx cx v fv fx S1 Z1 S2 Z2 XS (textL ⟨#[97]⟩ n3) (textL ⟨#[98]⟩ m3) ⟨#[109, 97, 114, 107]⟩ _ (HH.out.step G).has.2.2.2.2.2.2.2.1 (HH.out.step G).has.2.2.2.2.2.2.1 s1 (HH.out.step G).has.2.2.2.2.2.1 (HH.out.step G).has.2.2.2.2.1 s2 (HH.out.step G).has.2.2.2.1 (by omega) (by omega) (by omega) (by omega) (by omega) (fun a b ha hb => by have h1 := text_size (by decide) ha; have h2 := text_size (by decide) hb; unfold MulOk_s; omega) (fold_ok (by decide) (by omega))).mono ?_); (rintro e w4 ⟨rfl, hb⟩); (have G := G.trans (hb.mono G.size)); clear hb)
    refine hK.out _ _ ?hS11 (fun hHeld => ?rest11)
    case hS11 => (first | assumption | exact HK.out _ G | go_keep)
    clear hK K
    try simp only [Act.put, List.setIfInBounds_toArray, List.set_cons_zero, List.set_cons_succ]
    refine wpAnyH_takeL (i := 10) (v := ?v12) rfl (by kernel_rfl) (by kernel_rfl) (by kernel_rfl) (fun _ _ _ h => h) (by rfl) ?hy12 (by assumption) ?rest12
    case hy12 => (intro w hSw; (try dsimp only at hSw); go_simp; try with_reducible rfl)
    try simp only [Act.put, List.setIfInBounds_toArray, List.set_cons_zero, List.set_cons_succ]
    refine wpAnyH_done (by kernel_rfl) ?_ _
    go_simp
    go_wp2_with fail
    go_ret
    exact ⟨ret_bool rfl, (HH.out.step G).bel⟩
--R3E
end Go.Proofs.Ytgmchedfgdgenaa.FactorWords
