/- asked[string], walked: it tells true. Conditions: the lists read, within Go's bound; sums and products of texts within bound. -/
import Derived.Test.YtgmchedfgdgenaaJ19
import Derived.Test.YtgmchedfgdgenaaJ20
import Derived.Test.YtgmchedfgdgenaaJ21
import Derived.Test.YtgmchedfgdgenaaSameS
import Derived.Test.YtgmchedfgdgenaaJ8
namespace Go.Proofs.Ytgmchedfgdgenaa
open Go.RowKit
attribute [local go_sem] Oper.semAt_some

set_option maxRecDepth 100000 in
set_option maxHeartbeats 16000000 in
theorem asked_s (A1 A2 A3 B1 B2 B3 X : Option Addr) (n1 c1 n2 c2 n3 c3 m1 d1 m2 d2 m3 d3 nx cx : Nat) (v fv fx : Int) (S1 Z1 S2 Z2 XS : List Int) (L1 L2 : List ByteArray) (mark : ByteArray) (w : World)
    (h1 : Sl (Value.int .i64) w A1 n1 S1) (h2 : Sl (Value.int .i64) w A2 n2 Z1) (h3 : Sl Value.string w A3 n3 L1) (k1 : Sl (Value.int .i64) w B1 m1 S2) (k2 : Sl (Value.int .i64) w B2 m2 Z2) (k3 : Sl Value.string w B3 m3 L2) (hx : Sl (Value.int .i64) w X nx XS)
    (b1 : (n1 + m1 + 1) * 8 ≤ 140737488351232) (b2 : n2 * 8 ≤ 140737488351232) (b3 : n3 * 16 ≤ 140737488351232) (b4 : m2 * 8 ≤ 140737488351232) (b5 : m3 * 16 ≤ 140737488351232)
    (hmul : ∀ a b, a ∈ L1 → b ∈ L2 → MulOk_s a b) (hsum : ∀ R : List ByteArray, R.length ≤ L1.length → (∀ y, y ∈ R → y ∈ L1) → FoldOk_s zeroF_s R) :
    Calls Try.prog 28 #[.iface 45 (.agg #[]), .agg #[.slice A1 n1 c1, .slice A2 n2 c2, .slice A3 n3 c3], .agg #[.slice B1 m1 d1, .slice B2 m2 d2, .slice B3 m3 d3], .int .i64 v, .agg #[.int .i64 fv, .int .i64 fx], .slice X nx cx, .string mark] w fun e w' => e = .returned (.bool true) ∧ Below w.heap.size w w' := by
  have HL := Lib.hid (And.intro h1.len (And.intro h2.len (And.intro h3.len (And.intro k1.len (And.intro k2.len k3.len)))))
  have H0 := ((((((((((Held.init w).sl h1).sl h2).sl h3).sl k1).sl k2).sl k3).sl hx).new 33 [.slice A1 n1 c1, .slice A2 n2 c2, .slice A3 n3 c3]).new 33 [.slice B1 m1 d1, .slice B2 m2 d2, .slice B3 m3 d3]).new 64 [.int .i64 fv, .int .i64 fx]
  simp only [World.size_alloc] at H0
  clear h1 h2 h3 k1 k2 k3 hx
  have a0 := H0.has.2.2.1.cell 0
  have a1 := H0.has.2.2.1.cell 1
  have a2 := H0.has.2.2.1.cell 2
  go_enter Try.func28, Try.ntmps28
  go_wp2_with fail
  refine (roomy_s A1 A2 A3 n1 c1 n2 c2 n3 c3 S1 Z1 L1 mark _ H0.has.2.2.2.2.2.2.2.2.2.1 H0.has.2.2.2.2.2.2.2.2.1 H0.has.2.2.2.2.2.2.2.1 (by omega) b2 b3).mono ?_
  rintro e w1 ⟨M1, p1, M2, p2, M3, p3, rfl, T1, hb1⟩
  obtain ⟨hl1, hl2, hl3, _, _, _⟩ := HL.out
  rw [hl1, hl2, hl3] at T1 ⊢
  have H1 := ((H0.step hb1).and (Q := fun w' => Trio (Value.int .i64) (Value.int .i64) Value.string w' _ 3 3 9 M1 (n1 + 4) p1 (S1 ++ List.replicate 4 77) M2 (n2 + 4) p2 (Z1 ++ List.replicate 4 78) M3 (n3 + 4) p3 (L1 ++ List.replicate 4 mark)) T1).new 33 [.slice M1 n1 p1, .slice M2 n2 p2, .slice M3 n3 p3]
  clear H0 hb1 T1 a0 a1 a2 hl1 hl2 hl3
  have a0 := H1.has.2.2.2.1.cell 0
  have a1 := H1.has.2.2.2.1.cell 1
  have a2 := H1.has.2.2.2.1.cell 2
  go_wp2_with fail
  refine (roomy_s B1 B2 B3 m1 d1 m2 d2 m3 d3 S2 Z2 L2 mark _ H1.has.2.2.2.2.2.2.2.2.1 H1.has.2.2.2.2.2.2.2.1 H1.has.2.2.2.2.2.2.1 (by omega) b4 b5).mono ?_
  rintro e w2 ⟨N1, q1, N2, q2, N3, q3, rfl, T2, hb2⟩
  obtain ⟨_, _, _, hl1, hl2, hl3⟩ := HL.out
  rw [hl1, hl2, hl3] at T2 ⊢
  have H2 := ((H1.step hb2).and (Q := fun w' => Trio (Value.int .i64) (Value.int .i64) Value.string w' _ 3 3 9 N1 (m1 + 4) q1 (S2 ++ List.replicate 4 77) N2 (m2 + 4) q2 (Z2 ++ List.replicate 4 78) N3 (m3 + 4) q3 (L2 ++ List.replicate 4 mark)) T2).new 33 [.slice N1 m1 q1, .slice N2 m2 q2, .slice N3 m3 q3]
  clear H1 hb2 T2 a0 a1 a2 hl1 hl2 hl3
  obtain ⟨bel, rd, td, rc, tc, rf, rb, ra, gx, g6, g5, g4, g3, g2, g1, _⟩ := And.intro H2.bel H2.has
  have F0 := AskAt.mk (w := w) bel g1 g2 g3 g4 g5 g6 gx ra rb rf rc rd tc td
  clear H2
  have b3' := b3
  go_upto_region 3 with fail
  obtain ⟨g4, hg4⟩ : ∃ g4, g4 = w2.heap.size := ⟨_, rfl⟩
  obtain ⟨g3, hg3⟩ : ∃ g3, g3 = w1.heap.size := ⟨_, rfl⟩
  obtain ⟨ww, hww⟩ : ∃ ww, ww = w2.alloc (.cells #[.slice N1 m1 q1, .slice N2 m2 q2, .slice N3 m3 q3] 33) := ⟨_, rfl⟩
  simp only [← hg4, ← hg3, ← hww] at F0 ⊢
  have HF := Lib.hid F0
  clear hg4 hg3 hww
  have u0 := F0.rc.cell 0
  have u1 := F0.rc.cell 1
  have u2 := F0.rc.cell 2
  have a0 := F0.ra.cell 0
  have a1 := F0.ra.cell 1
  have a2 := F0.ra.cell 2
  have G0 : Below ww.heap.size ww ww.drew := below_refl_drewN _ _ 1
  clear F0
  have HK := Lib.hid (show ∀ wx : World, Below ww.heap.size ww wx → (wx.cell? ⟨g3, 0, none⟩ = some (.slice M1 n1 p1) ∧ wx.cell? ⟨g3, 1, none⟩ = some (.slice M2 n2 p2) ∧ wx.cell? ⟨g3, 2, none⟩ = some (.slice M3 n3 p3)) ∧ wx.cell? ⟨w.heap.size, 0, none⟩ = some (.slice A1 n1 c1) ∧ wx.cell? ⟨w.heap.size, 1, none⟩ = some (.slice A2 n2 c2) ∧ wx.cell? ⟨w.heap.size, 2, none⟩ = some (.slice A3 n3 c3) from fun wx hb => by
    have F := HF.out.below hb
    exact ⟨⟨F.rc.cell 0, F.rc.cell 1, F.rc.cell 2⟩, F.ra.cell 0, F.ra.cell 1, F.ra.cell 2⟩)
  have HB1 := Lib.hid (show n1 * 8 ≤ 140737488351232 ∧ n3 ≤ 140737488351232 by omega)
  clear bel
  go_region_held3 (fun w' => (w'.cell? ⟨g3, 0, none⟩ = some (.slice M1 n1 p1) ∧ w'.cell? ⟨g3, 1, none⟩ = some (.slice M2 n2 p2) ∧ w'.cell? ⟨g3, 2, none⟩ = some (.slice M3 n3 p3)) ∧ w'.cell? ⟨w.heap.size, 0, none⟩ = some (.slice A1 n1 c1) ∧ w'.cell? ⟨w.heap.size, 1, none⟩ = some (.slice A2 n2 c2) ∧ w'.cell? ⟨w.heap.size, 2, none⟩ = some (.slice A3 n3 c3)) (first | assumption | exact ⟨⟨u0, u1, u2⟩, a0, a1, a2⟩ | go_keep)
    (first
      | ((go_at_call 50); (have C := (HF.out.below G0).copy1 HB1.out.1 b2 b3); (with_reducible refine (check_s M1 M2 M3 n1 p1 n2 p2 n3 p3 S1 Z1 _ C.1 C.2.1 HB1.out.2).mono ?_); (rintro e x1 ⟨rfl, hb1⟩); (have G1 := G0.trans (hb1.mono G0.size)); (obtain ⟨⟨u0, u1, u2⟩, a0, a1, a2⟩ := HK.out _ G1))
      | ((go_at_call 51); (with_reducible refine (shape_s A1 A2 A3 n1 c1 n2 c2 n3 c3 _).mono ?_); (rintro e x2 ⟨rfl, hb2⟩); (have G2 := G1.trans (hb2.mono G1.size)); (obtain ⟨⟨u0, u1, u2⟩, a0, a1, a2⟩ := HK.out _ G2))
      | ((go_at_call 8); (with_reducible refine (rcheck_any A1 A2 n1 c1 n2 c2 n3 S1 Z1 _ (HF.out.below G2).h1 (HF.out.below G2).h2).mono ?_); (rintro e x3 ⟨rfl, hb3⟩); (have G3 := G2.trans (hb3.mono G2.size)); (obtain ⟨⟨u0, u1, u2⟩, a0, a1, a2⟩ := HK.out _ G3)))
  have HG := Lib.hid G3
  clear G0 G1 G2 G3 hb1 hb2 hb3 u0 u1 u2 a0 a1 a2 C
  obtain ⟨err, U, UZ, PL, hPL, hUZ, hUl, hpr, hrt, htm⟩ := times_u S1 Z1 S2 Z2 L1 L2 hmul
  have HRT := Lib.hid hrt
  have HTM := Lib.hid htm
  have HP := Lib.hid (And.intro hPL (And.intro hUZ (And.intro hUl hpr)))
  clear hrt htm hPL hUZ hUl hpr
  have HKab := Lib.hid (show ∀ wx : World, Below ww.heap.size ww wx → (wx.cell? ⟨w.heap.size, 0, none⟩ = some (.slice A1 n1 c1) ∧ wx.cell? ⟨w.heap.size, 1, none⟩ = some (.slice A2 n2 c2) ∧ wx.cell? ⟨w.heap.size, 2, none⟩ = some (.slice A3 n3 c3)) ∧ wx.cell? ⟨w.heap.size + 1, 0, none⟩ = some (.slice B1 m1 d1) ∧ wx.cell? ⟨w.heap.size + 1, 1, none⟩ = some (.slice B2 m2 d2) ∧ wx.cell? ⟨w.heap.size + 1, 2, none⟩ = some (.slice B3 m3 d3) from fun wx hb => by
    have F := HF.out.below hb
    exact ⟨⟨F.ra.cell 0, F.ra.cell 1, F.ra.cell 2⟩, F.rb.cell 0, F.rb.cell 1, F.rb.cell 2⟩)
  go_upto_region 5 with fail
  go_cut [17, 18, 19] from 47 to 55 (fun s17 s18 s19 wx => ∃ (g : Nat) (A : Option Addr) (c : Nat) (B : Option Addr) (d : Nat) (C : Option Addr) (k : Nat) (M : Int), s17 = .pointer (some ⟨g, 0, none⟩) ∧ s18 = .slice C PL.length k ∧ s19 = .int .i64 err ∧ ww.heap.size ≤ g ∧ RowC wx g 29 [.slice A U.length c, .slice B U.length d, .int .i64 M] ∧ Sl (Value.int .i64) wx A U.length U ∧ Sl (Value.int .i64) wx B U.length UZ ∧ SlM pairE wx C PL.length PL ∧ Below ww.heap.size ww wx)
  case first => as_aux_lemma =>
    have G : Below ww.heap.size ww x3.drew := HG.out.trans (below_drewN (Below.refl _ _) 1)
--R5
    refine wp_region_lastLB (S := fun w' => (w'.cell? ⟨w.heap.size, 0, none⟩ = some (.slice A1 n1 c1) ∧ w'.cell? ⟨w.heap.size, 1, none⟩ = some (.slice A2 n2 c2) ∧ w'.cell? ⟨w.heap.size, 2, none⟩ = some (.slice A3 n3 c3)) ∧ w'.cell? ⟨w.heap.size + 1, 0, none⟩ = some (.slice B1 m1 d1) ∧ w'.cell? ⟨w.heap.size + 1, 1, none⟩ = some (.slice B2 m2 d2) ∧ w'.cell? ⟨w.heap.size + 1, 2, none⟩ = some (.slice B3 m3 d3)) 12 12 (by kernel_rfl) rfl rfl rfl (by kernel_rfl) ?hS1 (fun hHeld => ?rest1)
    case hS1 => (first | assumption | exact HKab.out _ G | go_keep)
    refine wpAnyH_takeL (i := 0) (v := ?v2) rfl (by kernel_rfl) (by kernel_rfl) (by kernel_rfl) (fun _ _ _ h => h) (by rfl) ?hy2 (by assumption) ?rest2
    case hy2 => (intro w hSw; (try dsimp only at hSw); go_simp; try with_reducible rfl)
    try simp only [Act.put, List.setIfInBounds_toArray, List.set_cons_zero, List.set_cons_succ]
    refine wpAnyH_takeL (i := 2) (v := ?v3) rfl (by kernel_rfl) (by kernel_rfl) (by kernel_rfl) (fun _ _ _ h => h) (by rfl) ?hy3 (by assumption) ?rest3
    case hy3 => (intro w hSw; (try dsimp only at hSw); go_simp; try with_reducible rfl)
    try simp only [Act.put, List.setIfInBounds_toArray, List.set_cons_zero, List.set_cons_succ]
    refine wpAnyH_ready (rs := [1, 9]) (by kernel_rfl) (by simp) (consM rfl (fun K hK => ?step5) (consL rfl (fun K hK => ?step6)))
    case step5 =>
      (go_simp; (refine (shape_s A1 A2 A3 n1 c1 n2 c2 n3 c3 _).mono ?_); (rintro e y ⟨rfl, hb⟩); (have G := G.trans (hb.mono G.size)); skip)
      refine hK.out _ _ ?hS5 (fun hHeld => ?rest5)
      case hS5 => (first | assumption | exact HKab.out _ G | go_keep)
      clear hK K
      try simp only [Act.put, List.setIfInBounds_toArray, List.set_cons_zero, List.set_cons_succ]
      refine wpAnyH_ready (rs := [3, 9]) (by kernel_rfl) (by simp) (consM rfl (fun K hK => ?step8) (consL rfl (fun K hK => ?step9)))
      case step8 =>
        (go_simp; (refine (shape_s B1 B2 B3 m1 d1 m2 d2 m3 d3 _).mono ?_); (rintro e y ⟨rfl, hb⟩); (have G := G.trans (hb.mono G.size)); skip)
        refine hK.out _ _ ?hS8 (fun hHeld => ?rest8)
        case hS8 => (first | assumption | exact HKab.out _ G | go_keep)
        clear hK K
        try simp only [Act.put, List.setIfInBounds_toArray, List.set_cons_zero, List.set_cons_succ]
        refine wpAnyH_ready (rs := [4, 9]) (by kernel_rfl) (by simp) (consM rfl (fun K hK => ?step11) (consL rfl (fun K hK => ?step12)))
        case step11 =>
          (go_simp; (refine (HRT.out A1 A2 B1 B2 n1 c1 n2 c2 m1 d1 m2 d2 n3 m3 _ (HF.out.below G).h1 (HF.out.below G).h2 (HF.out.below G).k1 (HF.out.below G).k2 b1 HL.out.2.2.1.symm HL.out.2.2.2.2.2.symm).mono ?_); (rintro e y2 ⟨A, c, B, d, C, k, M, rfl, sA, sB, sC, oA, oB, hb⟩); (have hyy := hb.size); (have G := G.trans (hb.mono G.size)); skip)
          refine hK.out _ _ ?hS11 (fun hHeld => ?rest11)
          case hS11 => (first | assumption | exact HKab.out _ G | go_keep)
          clear hK K
          try simp only [Act.put, List.setIfInBounds_toArray, List.set_cons_zero, List.set_cons_succ]
          refine wpAnyH_takeL (i := 5) (v := ?v13) rfl (by kernel_rfl) (by kernel_rfl) (by kernel_rfl) (fun _ _ _ h => h) (by rfl) ?hy13 (by assumption) ?rest13
          case hy13 => (intro w hSw; (try dsimp only at hSw); go_simp; try with_reducible rfl)
          try simp only [Act.put, List.setIfInBounds_toArray, List.set_cons_zero, List.set_cons_succ]
          refine wpAnyH_takeL (i := 6) (v := ?v14) rfl (by kernel_rfl) (by kernel_rfl) (by kernel_rfl) (fun _ _ _ h => h) (by rfl) ?hy14 (by assumption) ?rest14
          case hy14 => (intro w hSw; (try dsimp only at hSw); go_simp; try with_reducible rfl)
          try simp only [Act.put, List.setIfInBounds_toArray, List.set_cons_zero, List.set_cons_succ]
          refine wpAnyH_takeL (i := 7) (v := ?v15) rfl (by kernel_rfl) (by kernel_rfl) (by kernel_rfl) (fun _ _ _ h => h) (by rfl) ?hy15 (by assumption) ?rest15
          case hy15 => (intro w hSw; (try dsimp only at hSw); go_simp; try with_reducible rfl)
          try simp only [Act.put, List.setIfInBounds_toArray, List.set_cons_zero, List.set_cons_succ]
          refine wpAnyH_takeL (i := 8) (v := ?v16) rfl (by kernel_rfl) (by kernel_rfl) (by kernel_rfl) (fun _ _ _ h => h) (by rfl) ?hy16 (by assumption) ?rest16
          case hy16 => (intro w hSw; (try dsimp only at hSw); go_simp; try with_reducible rfl)
          try simp only [Act.put, List.setIfInBounds_toArray, List.set_cons_zero, List.set_cons_succ]
          refine wpAnyH_ready (rs := [9]) (by kernel_rfl) (by simp) (consL rfl (fun K hK => ?step17))
          (go_simp; (obtain ⟨g, hg⟩ : ∃ g, g = y2.heap.size := ⟨_, rfl⟩); (obtain ⟨y3, hyn⟩ : ∃ yn, yn = y2.alloc (.cells #[.slice none 0 0, .slice none 0 0, .int .i64 0] 29) := ⟨_, rfl⟩); (rw [← hg, ← hyn]); (have hrow : RowC y3 g 29 [.slice none 0 0, .slice none 0 0, .int .i64 0] := by rw [hyn, hg]; exact RowC.new _ _ _); (have ha : Below y2.heap.size y2 y3 := by rw [hyn]; exact (Below.refl _ _).alloc (Nat.le_refl _) _); (have hgz : ww.heap.size ≤ g := by rw [hg]; exact G.size); (have sepA := apartL sA hg); (have sepB := apartL sB hg); (have sepC : ∀ x o, C = some ⟨x, o, none⟩ → ¬ x = g := fun x o e e2 => by have h1 := (sC.geT e).2; omega); (have sA := sA.below (Nat.le_refl _) ha); (have sB := sB.below (Nat.le_refl _) ha); (have sC := sC.below (Nat.le_refl _) ha); (have G := G.trans (ha.mono G.size)); clear hg hyn)
          refine hK.out _ _ ?hS17 (fun hHeld => ?rest17)
          case hS17 => (first | assumption | exact HKab.out _ G | go_keep)
          clear hK K
          try simp only [Act.put, List.setIfInBounds_toArray, List.set_cons_zero, List.set_cons_succ]
          refine wpAnyH_ready (rs := [10]) (by kernel_rfl) (by simp) (consL rfl (fun K hK => ?step18))
          ((have z0 := hrow.cell 0); (have z1 := hrow.cell 1); (have z2 := hrow.cell 2); (have f0 := hrow.frozen 0); (have f1 := hrow.frozen 1); (have f2 := hrow.frozen 2); go_simp; (clear z0 z1 z2 f0 f1 f2); (obtain ⟨wz, hwz⟩ : ∃ wz, wz = (((y3.setCell ⟨g, 0, none⟩ (.slice A U.length c)).setCell ⟨g, 1, none⟩ (.slice B U.length d)).setCell ⟨g, 2, none⟩ (.int .i64 M)) := ⟨_, rfl⟩); (obtain ⟨_, _, _, hbz, htz⟩ := set3 G hrow hgz hwz); (have hrz : RowC wz g 29 [.slice A U.length c, .slice B U.length d, .int .i64 M] := by rw [hwz]; exact ((hrow.put 0 _).put 1 _).put 2 _); (rw [← hwz]); (clear hwz); (have G := hbz))
          refine hK.out _ _ ?hS18 (fun hHeld => ?rest18)
          case hS18 => (first | assumption | exact HKab.out _ G | go_keep)
          clear hK K
          try simp only [Act.put, List.setIfInBounds_toArray, List.set_cons_zero, List.set_cons_succ]
          refine wpAnyH_takeL (i := 11) (v := ?v19) rfl (by kernel_rfl) (by kernel_rfl) (by kernel_rfl) (fun _ _ _ h => h) (by rfl) ?hy19 (by assumption) ?rest19
          case hy19 => (intro w hSw; (try dsimp only at hSw); go_simp; try with_reducible rfl)
          try simp only [Act.put, List.setIfInBounds_toArray, List.set_cons_zero, List.set_cons_succ]
          refine wpAnyH_done (by kernel_rfl) ?_ _
          unfold AheadOf
          go_simp
          (try go_wp2_with fail)
          go_meet
          case rel => exact ⟨g, A, c, B, d, C, k, M, rfl, rfl, rfl, hgz, hrz, sA.turnC htz sepA, sB.turnC htz sepB, (sC.turn htz sepC).sl (by omega) (by have := HP.out.1; omega), hbz⟩
        case step12 =>
          (go_simp; (obtain ⟨g, hg⟩ : ∃ g, g = y.heap.size := ⟨_, rfl⟩); (obtain ⟨y3, hyn⟩ : ∃ yn, yn = y.alloc (.cells #[.slice none 0 0, .slice none 0 0, .int .i64 0] 29) := ⟨_, rfl⟩); (rw [← hg, ← hyn]); (have hrow : RowC y3 g 29 [.slice none 0 0, .slice none 0 0, .int .i64 0] := by rw [hyn, hg]; exact RowC.new _ _ _); (have ha : Below y.heap.size y y3 := by rw [hyn]; exact (Below.refl _ _).alloc (Nat.le_refl _) _); (have hgz : ww.heap.size ≤ g := by rw [hg]; exact G.size); (have G := G.trans (ha.mono G.size)); clear hg hyn)
          refine hK.out _ _ ?hS12 (fun hHeld => ?rest12)
          case hS12 => (first | assumption | exact HKab.out _ G | go_keep)
          clear hK K
          try simp only [Act.put, List.setIfInBounds_toArray, List.set_cons_zero, List.set_cons_succ]
          refine wpAnyH_ready (rs := [4]) (by kernel_rfl) (by simp) (consL rfl (fun K hK => ?step20))
          (go_simp; (refine (HRT.out A1 A2 B1 B2 n1 c1 n2 c2 m1 d1 m2 d2 n3 m3 _ (HF.out.below G).h1 (HF.out.below G).h2 (HF.out.below G).k1 (HF.out.below G).k2 b1 HL.out.2.2.1.symm HL.out.2.2.2.2.2.symm).mono ?_); (rintro e y2 ⟨A, c, B, d, C, k, M, rfl, sA, sB, sC, oA, oB, hb⟩); (have sepA := apartA HF.out.h1 hgz hrow.lt oA); (have sepB := apartA HF.out.h2 hgz hrow.lt oB); (have sepC : ∀ x o, C = some ⟨x, o, none⟩ → ¬ x = g := fun x o e e2 => by have h1 := (sC.geT e).1; have h2 := hrow.lt; omega); (have G := G.trans (hb.mono G.size)); (have hrow := hrow.below' hb); skip)
          refine hK.out _ _ ?hS20 (fun hHeld => ?rest20)
          case hS20 => (first | assumption | exact HKab.out _ G | go_keep)
          clear hK K
          try simp only [Act.put, List.setIfInBounds_toArray, List.set_cons_zero, List.set_cons_succ]
          refine wpAnyH_takeL (i := 5) (v := ?v21) rfl (by kernel_rfl) (by kernel_rfl) (by kernel_rfl) (fun _ _ _ h => h) (by rfl) ?hy21 (by assumption) ?rest21
          case hy21 => (intro w hSw; (try dsimp only at hSw); go_simp; try with_reducible rfl)
          try simp only [Act.put, List.setIfInBounds_toArray, List.set_cons_zero, List.set_cons_succ]
          refine wpAnyH_takeL (i := 6) (v := ?v22) rfl (by kernel_rfl) (by kernel_rfl) (by kernel_rfl) (fun _ _ _ h => h) (by rfl) ?hy22 (by assumption) ?rest22
          case hy22 => (intro w hSw; (try dsimp only at hSw); go_simp; try with_reducible rfl)
          try simp only [Act.put, List.setIfInBounds_toArray, List.set_cons_zero, List.set_cons_succ]
          refine wpAnyH_takeL (i := 7) (v := ?v23) rfl (by kernel_rfl) (by kernel_rfl) (by kernel_rfl) (fun _ _ _ h => h) (by rfl) ?hy23 (by assumption) ?rest23
          case hy23 => (intro w hSw; (try dsimp only at hSw); go_simp; try with_reducible rfl)
          try simp only [Act.put, List.setIfInBounds_toArray, List.set_cons_zero, List.set_cons_succ]
          refine wpAnyH_takeL (i := 8) (v := ?v24) rfl (by kernel_rfl) (by kernel_rfl) (by kernel_rfl) (fun _ _ _ h => h) (by rfl) ?hy24 (by assumption) ?rest24
          case hy24 => (intro w hSw; (try dsimp only at hSw); go_simp; try with_reducible rfl)
          try simp only [Act.put, List.setIfInBounds_toArray, List.set_cons_zero, List.set_cons_succ]
          refine wpAnyH_ready (rs := [10]) (by kernel_rfl) (by simp) (consL rfl (fun K hK => ?step25))
          ((have z0 := hrow.cell 0); (have z1 := hrow.cell 1); (have z2 := hrow.cell 2); (have f0 := hrow.frozen 0); (have f1 := hrow.frozen 1); (have f2 := hrow.frozen 2); go_simp; (clear z0 z1 z2 f0 f1 f2); (obtain ⟨wz, hwz⟩ : ∃ wz, wz = (((y2.setCell ⟨g, 0, none⟩ (.slice A U.length c)).setCell ⟨g, 1, none⟩ (.slice B U.length d)).setCell ⟨g, 2, none⟩ (.int .i64 M)) := ⟨_, rfl⟩); (obtain ⟨_, _, _, hbz, htz⟩ := set3 G hrow hgz hwz); (have hrz : RowC wz g 29 [.slice A U.length c, .slice B U.length d, .int .i64 M] := by rw [hwz]; exact ((hrow.put 0 _).put 1 _).put 2 _); (rw [← hwz]); (clear hwz); (have G := hbz))
          refine hK.out _ _ ?hS25 (fun hHeld => ?rest25)
          case hS25 => (first | assumption | exact HKab.out _ G | go_keep)
          clear hK K
          try simp only [Act.put, List.setIfInBounds_toArray, List.set_cons_zero, List.set_cons_succ]
          refine wpAnyH_takeL (i := 11) (v := ?v26) rfl (by kernel_rfl) (by kernel_rfl) (by kernel_rfl) (fun _ _ _ h => h) (by rfl) ?hy26 (by assumption) ?rest26
          case hy26 => (intro w hSw; (try dsimp only at hSw); go_simp; try with_reducible rfl)
          try simp only [Act.put, List.setIfInBounds_toArray, List.set_cons_zero, List.set_cons_succ]
          refine wpAnyH_done (by kernel_rfl) ?_ _
          unfold AheadOf
          go_simp
          (try go_wp2_with fail)
          go_meet
          case rel => exact ⟨g, A, c, B, d, C, k, M, rfl, rfl, rfl, hgz, hrz, sA.turnC htz sepA, sB.turnC htz sepB, (sC.turn htz sepC).sl (by omega) (by have := HP.out.1; omega), hbz⟩
      case step9 =>
        (go_simp; (obtain ⟨g, hg⟩ : ∃ g, g = y.heap.size := ⟨_, rfl⟩); (obtain ⟨y3, hyn⟩ : ∃ yn, yn = y.alloc (.cells #[.slice none 0 0, .slice none 0 0, .int .i64 0] 29) := ⟨_, rfl⟩); (rw [← hg, ← hyn]); (have hrow : RowC y3 g 29 [.slice none 0 0, .slice none 0 0, .int .i64 0] := by rw [hyn, hg]; exact RowC.new _ _ _); (have ha : Below y.heap.size y y3 := by rw [hyn]; exact (Below.refl _ _).alloc (Nat.le_refl _) _); (have hgz : ww.heap.size ≤ g := by rw [hg]; exact G.size); (have G := G.trans (ha.mono G.size)); clear hg hyn)
        refine hK.out _ _ ?hS9 (fun hHeld => ?rest9)
        case hS9 => (first | assumption | exact HKab.out _ G | go_keep)
        clear hK K
        try simp only [Act.put, List.setIfInBounds_toArray, List.set_cons_zero, List.set_cons_succ]
        refine wpAnyH_ready (rs := [3]) (by kernel_rfl) (by simp) (consL rfl (fun K hK => ?step27))
        (go_simp; (refine (shape_s B1 B2 B3 m1 d1 m2 d2 m3 d3 _).mono ?_); (rintro e y ⟨rfl, hb⟩); (have G := G.trans (hb.mono G.size)); (have hrow := hrow.below' hb); skip)
        refine hK.out _ _ ?hS27 (fun hHeld => ?rest27)
        case hS27 => (first | assumption | exact HKab.out _ G | go_keep)
        clear hK K
        try simp only [Act.put, List.setIfInBounds_toArray, List.set_cons_zero, List.set_cons_succ]
        refine wpAnyH_ready (rs := [4]) (by kernel_rfl) (by simp) (consL rfl (fun K hK => ?step28))
        (go_simp; (refine (HRT.out A1 A2 B1 B2 n1 c1 n2 c2 m1 d1 m2 d2 n3 m3 _ (HF.out.below G).h1 (HF.out.below G).h2 (HF.out.below G).k1 (HF.out.below G).k2 b1 HL.out.2.2.1.symm HL.out.2.2.2.2.2.symm).mono ?_); (rintro e y2 ⟨A, c, B, d, C, k, M, rfl, sA, sB, sC, oA, oB, hb⟩); (have sepA := apartA HF.out.h1 hgz hrow.lt oA); (have sepB := apartA HF.out.h2 hgz hrow.lt oB); (have sepC : ∀ x o, C = some ⟨x, o, none⟩ → ¬ x = g := fun x o e e2 => by have h1 := (sC.geT e).1; have h2 := hrow.lt; omega); (have G := G.trans (hb.mono G.size)); (have hrow := hrow.below' hb); skip)
        refine hK.out _ _ ?hS28 (fun hHeld => ?rest28)
        case hS28 => (first | assumption | exact HKab.out _ G | go_keep)
        clear hK K
        try simp only [Act.put, List.setIfInBounds_toArray, List.set_cons_zero, List.set_cons_succ]
        refine wpAnyH_takeL (i := 5) (v := ?v29) rfl (by kernel_rfl) (by kernel_rfl) (by kernel_rfl) (fun _ _ _ h => h) (by rfl) ?hy29 (by assumption) ?rest29
        case hy29 => (intro w hSw; (try dsimp only at hSw); go_simp; try with_reducible rfl)
        try simp only [Act.put, List.setIfInBounds_toArray, List.set_cons_zero, List.set_cons_succ]
        refine wpAnyH_takeL (i := 6) (v := ?v30) rfl (by kernel_rfl) (by kernel_rfl) (by kernel_rfl) (fun _ _ _ h => h) (by rfl) ?hy30 (by assumption) ?rest30
        case hy30 => (intro w hSw; (try dsimp only at hSw); go_simp; try with_reducible rfl)
        try simp only [Act.put, List.setIfInBounds_toArray, List.set_cons_zero, List.set_cons_succ]
        refine wpAnyH_takeL (i := 7) (v := ?v31) rfl (by kernel_rfl) (by kernel_rfl) (by kernel_rfl) (fun _ _ _ h => h) (by rfl) ?hy31 (by assumption) ?rest31
        case hy31 => (intro w hSw; (try dsimp only at hSw); go_simp; try with_reducible rfl)
        try simp only [Act.put, List.setIfInBounds_toArray, List.set_cons_zero, List.set_cons_succ]
        refine wpAnyH_takeL (i := 8) (v := ?v32) rfl (by kernel_rfl) (by kernel_rfl) (by kernel_rfl) (fun _ _ _ h => h) (by rfl) ?hy32 (by assumption) ?rest32
        case hy32 => (intro w hSw; (try dsimp only at hSw); go_simp; try with_reducible rfl)
        try simp only [Act.put, List.setIfInBounds_toArray, List.set_cons_zero, List.set_cons_succ]
        refine wpAnyH_ready (rs := [10]) (by kernel_rfl) (by simp) (consL rfl (fun K hK => ?step33))
        ((have z0 := hrow.cell 0); (have z1 := hrow.cell 1); (have z2 := hrow.cell 2); (have f0 := hrow.frozen 0); (have f1 := hrow.frozen 1); (have f2 := hrow.frozen 2); go_simp; (clear z0 z1 z2 f0 f1 f2); (obtain ⟨wz, hwz⟩ : ∃ wz, wz = (((y2.setCell ⟨g, 0, none⟩ (.slice A U.length c)).setCell ⟨g, 1, none⟩ (.slice B U.length d)).setCell ⟨g, 2, none⟩ (.int .i64 M)) := ⟨_, rfl⟩); (obtain ⟨_, _, _, hbz, htz⟩ := set3 G hrow hgz hwz); (have hrz : RowC wz g 29 [.slice A U.length c, .slice B U.length d, .int .i64 M] := by rw [hwz]; exact ((hrow.put 0 _).put 1 _).put 2 _); (rw [← hwz]); (clear hwz); (have G := hbz))
        refine hK.out _ _ ?hS33 (fun hHeld => ?rest33)
        case hS33 => (first | assumption | exact HKab.out _ G | go_keep)
        clear hK K
        try simp only [Act.put, List.setIfInBounds_toArray, List.set_cons_zero, List.set_cons_succ]
        refine wpAnyH_takeL (i := 11) (v := ?v34) rfl (by kernel_rfl) (by kernel_rfl) (by kernel_rfl) (fun _ _ _ h => h) (by rfl) ?hy34 (by assumption) ?rest34
        case hy34 => (intro w hSw; (try dsimp only at hSw); go_simp; try with_reducible rfl)
        try simp only [Act.put, List.setIfInBounds_toArray, List.set_cons_zero, List.set_cons_succ]
        refine wpAnyH_done (by kernel_rfl) ?_ _
        unfold AheadOf
        go_simp
        (try go_wp2_with fail)
        go_meet
        case rel => exact ⟨g, A, c, B, d, C, k, M, rfl, rfl, rfl, hgz, hrz, sA.turnC htz sepA, sB.turnC htz sepB, (sC.turn htz sepC).sl (by omega) (by have := HP.out.1; omega), hbz⟩
    case step6 =>
      (go_simp; (obtain ⟨g, hg⟩ : ∃ g, g = x3.heap.size := ⟨_, rfl⟩); (obtain ⟨y3, hyn⟩ : ∃ yn, yn = (x3.alloc (.cells #[.slice none 0 0, .slice none 0 0, .int .i64 0] 29)).drew := ⟨_, rfl⟩); (rw [← hg, ← hyn]); (have hrow : RowC y3 g 29 [.slice none 0 0, .slice none 0 0, .int .i64 0] := by rw [hyn, hg]; exact (RowC.new _ _ _).drew); (have ha : Below x3.heap.size x3 y3 := by rw [hyn]; exact below_drewN ((Below.refl _ _).alloc (Nat.le_refl _) _) 1); (have hgz : ww.heap.size ≤ g := by rw [hg]; exact HG.out.size); (have G := HG.out.trans (ha.mono HG.out.size)); clear hg hyn)
      refine hK.out _ _ ?hS6 (fun hHeld => ?rest6)
      case hS6 => (first | assumption | exact HKab.out _ G | go_keep)
      clear hK K
      try simp only [Act.put, List.setIfInBounds_toArray, List.set_cons_zero, List.set_cons_succ]
      refine wpAnyH_ready (rs := [1]) (by kernel_rfl) (by simp) (consL rfl (fun K hK => ?step35))
      (go_simp; (refine (shape_s A1 A2 A3 n1 c1 n2 c2 n3 c3 _).mono ?_); (rintro e y ⟨rfl, hb⟩); (have G := G.trans (hb.mono G.size)); (have hrow := hrow.below' hb); skip)
      refine hK.out _ _ ?hS35 (fun hHeld => ?rest35)
      case hS35 => (first | assumption | exact HKab.out _ G | go_keep)
      clear hK K
      try simp only [Act.put, List.setIfInBounds_toArray, List.set_cons_zero, List.set_cons_succ]
      refine wpAnyH_ready (rs := [3]) (by kernel_rfl) (by simp) (consL rfl (fun K hK => ?step36))
      (go_simp; (refine (shape_s B1 B2 B3 m1 d1 m2 d2 m3 d3 _).mono ?_); (rintro e y ⟨rfl, hb⟩); (have G := G.trans (hb.mono G.size)); (have hrow := hrow.below' hb); skip)
      refine hK.out _ _ ?hS36 (fun hHeld => ?rest36)
      case hS36 => (first | assumption | exact HKab.out _ G | go_keep)
      clear hK K
      try simp only [Act.put, List.setIfInBounds_toArray, List.set_cons_zero, List.set_cons_succ]
      refine wpAnyH_ready (rs := [4]) (by kernel_rfl) (by simp) (consL rfl (fun K hK => ?step37))
      (go_simp; (refine (HRT.out A1 A2 B1 B2 n1 c1 n2 c2 m1 d1 m2 d2 n3 m3 _ (HF.out.below G).h1 (HF.out.below G).h2 (HF.out.below G).k1 (HF.out.below G).k2 b1 HL.out.2.2.1.symm HL.out.2.2.2.2.2.symm).mono ?_); (rintro e y2 ⟨A, c, B, d, C, k, M, rfl, sA, sB, sC, oA, oB, hb⟩); (have sepA := apartA HF.out.h1 hgz hrow.lt oA); (have sepB := apartA HF.out.h2 hgz hrow.lt oB); (have sepC : ∀ x o, C = some ⟨x, o, none⟩ → ¬ x = g := fun x o e e2 => by have h1 := (sC.geT e).1; have h2 := hrow.lt; omega); (have G := G.trans (hb.mono G.size)); (have hrow := hrow.below' hb); skip)
      refine hK.out _ _ ?hS37 (fun hHeld => ?rest37)
      case hS37 => (first | assumption | exact HKab.out _ G | go_keep)
      clear hK K
      try simp only [Act.put, List.setIfInBounds_toArray, List.set_cons_zero, List.set_cons_succ]
      refine wpAnyH_takeL (i := 5) (v := ?v38) rfl (by kernel_rfl) (by kernel_rfl) (by kernel_rfl) (fun _ _ _ h => h) (by rfl) ?hy38 (by assumption) ?rest38
      case hy38 => (intro w hSw; (try dsimp only at hSw); go_simp; try with_reducible rfl)
      try simp only [Act.put, List.setIfInBounds_toArray, List.set_cons_zero, List.set_cons_succ]
      refine wpAnyH_takeL (i := 6) (v := ?v39) rfl (by kernel_rfl) (by kernel_rfl) (by kernel_rfl) (fun _ _ _ h => h) (by rfl) ?hy39 (by assumption) ?rest39
      case hy39 => (intro w hSw; (try dsimp only at hSw); go_simp; try with_reducible rfl)
      try simp only [Act.put, List.setIfInBounds_toArray, List.set_cons_zero, List.set_cons_succ]
      refine wpAnyH_takeL (i := 7) (v := ?v40) rfl (by kernel_rfl) (by kernel_rfl) (by kernel_rfl) (fun _ _ _ h => h) (by rfl) ?hy40 (by assumption) ?rest40
      case hy40 => (intro w hSw; (try dsimp only at hSw); go_simp; try with_reducible rfl)
      try simp only [Act.put, List.setIfInBounds_toArray, List.set_cons_zero, List.set_cons_succ]
      refine wpAnyH_takeL (i := 8) (v := ?v41) rfl (by kernel_rfl) (by kernel_rfl) (by kernel_rfl) (fun _ _ _ h => h) (by rfl) ?hy41 (by assumption) ?rest41
      case hy41 => (intro w hSw; (try dsimp only at hSw); go_simp; try with_reducible rfl)
      try simp only [Act.put, List.setIfInBounds_toArray, List.set_cons_zero, List.set_cons_succ]
      refine wpAnyH_ready (rs := [10]) (by kernel_rfl) (by simp) (consL rfl (fun K hK => ?step42))
      ((have z0 := hrow.cell 0); (have z1 := hrow.cell 1); (have z2 := hrow.cell 2); (have f0 := hrow.frozen 0); (have f1 := hrow.frozen 1); (have f2 := hrow.frozen 2); go_simp; (clear z0 z1 z2 f0 f1 f2); (obtain ⟨wz, hwz⟩ : ∃ wz, wz = (((y2.setCell ⟨g, 0, none⟩ (.slice A U.length c)).setCell ⟨g, 1, none⟩ (.slice B U.length d)).setCell ⟨g, 2, none⟩ (.int .i64 M)) := ⟨_, rfl⟩); (obtain ⟨_, _, _, hbz, htz⟩ := set3 G hrow hgz hwz); (have hrz : RowC wz g 29 [.slice A U.length c, .slice B U.length d, .int .i64 M] := by rw [hwz]; exact ((hrow.put 0 _).put 1 _).put 2 _); (rw [← hwz]); (clear hwz); (have G := hbz))
      refine hK.out _ _ ?hS42 (fun hHeld => ?rest42)
      case hS42 => (first | assumption | exact HKab.out _ G | go_keep)
      clear hK K
      try simp only [Act.put, List.setIfInBounds_toArray, List.set_cons_zero, List.set_cons_succ]
      refine wpAnyH_takeL (i := 11) (v := ?v43) rfl (by kernel_rfl) (by kernel_rfl) (by kernel_rfl) (fun _ _ _ h => h) (by rfl) ?hy43 (by assumption) ?rest43
      case hy43 => (intro w hSw; (try dsimp only at hSw); go_simp; try with_reducible rfl)
      try simp only [Act.put, List.setIfInBounds_toArray, List.set_cons_zero, List.set_cons_succ]
      refine wpAnyH_done (by kernel_rfl) ?_ _
      unfold AheadOf
      go_simp
      (try go_wp2_with fail)
      go_meet
      case rel => exact ⟨g, A, c, B, d, C, k, M, rfl, rfl, rfl, hgz, hrz, sA.turnC htz sepA, sB.turnC htz sepB, (sC.turn htz sepC).sl (by omega) (by have := HP.out.1; omega), hbz⟩
--R5E
  case rest =>
    obtain ⟨g, A, c, B, d, C, k, M, rfl, rfl, rfl, hg, hrow, sA, sB, sC, hG⟩ := hcut
    have HS := Lib.hid (And.intro hg (And.intro hrow (And.intro sA (And.intro sB (And.intro sC hG)))))
    have hPL := HP.out.1
    clear hg hrow sA sB sC hG HG
    go_wp2_with fail
    go_loopw [20, 21] (fun l x wr => ∃ (t : Nat) (D : Option Addr) (q : Nat), t ≤ PL.length ∧ l = .slice D t q ∧ x = .int .i64 (t : Nat) ∧ OwnR Value.string wr wc.heap.size 9 D t q ((PL.take t).map (mulP L1 L2)) ∧ Below wc.heap.size wc wr) (fun _ x _ => PL.length - (intOf x).toNat)
    case atStart => exact ⟨0, none, 0, Nat.zero_le _, rfl, rfl, OwnR.nil _ _ _ _, Below.refl _ _⟩
    case round =>
      obtain ⟨t, D, q, ht, rfl, rfl, hO, hbr⟩ := hrel
      by_cases hlt : t < PL.length
      · as_aux_lemma =>
        obtain ⟨wo, hwo⟩ : ∃ wo : World, wo = wr := ⟨_, rfl⟩
        subst hwo
        obtain ⟨p, hp⟩ : ∃ p, p = nth PL t := ⟨_, rfl⟩
        have hpp := HP.out.2.2.2 p (by rw [hp]; exact nth_mem hlt)
        obtain ⟨i1, hi1⟩ : ∃ i1 : Nat, p.1 = (i1 : Int) := ⟨p.1.toNat, by omega⟩
        obtain ⟨i2, hi2⟩ : ∃ i2 : Nat, p.2 = (i2 : Int) := ⟨p.2.toNat, by omega⟩
        have hn1 : i1 < n3 := by have := HL.out.2.2.1; omega
        have hn2 : i2 < m3 := by have := HL.out.2.2.2.2.2; omega
        have Fc := HF.out.below HS.out.2.2.2.2.2
        obtain ⟨ba, oa, eA3, hba, hca⟩ := Fc.h3.at' (by omega)
        obtain ⟨bb, ob, eB3, hbb, hcb⟩ := Fc.k3.at' (by omega)
        obtain ⟨bp, op, eC, hbp, hcp⟩ := HS.out.2.2.2.2.1.at' (by omega)
        subst eC eA3 eB3
        obtain ⟨v1, hv1⟩ : ∃ v1, v1 = nth L1 i1 := ⟨_, rfl⟩
        obtain ⟨v2, hv2⟩ : ∃ v2, v2 = nth L2 i2 := ⟨_, rfl⟩
        have hpv : mulP L1 L2 p = mulF_s v1 v2 := by unfold mulP; rw [hi1, hi2, Int.toNat_natCast, Int.toNat_natCast, hv1, hv2]
        have hmo : MulOk_s v1 v2 := hmul _ _ (by rw [hv1]; exact nth_mem (by have := HL.out.2.2.1; omega)) (by rw [hv2]; exact nth_mem (by have := HL.out.2.2.2.2.2; omega))
        have HKp := Lib.hid (show ∀ wx : World, Below wc.heap.size wc wx → wx.cell? ⟨w.heap.size, 2, none⟩ = some (.slice (some ⟨ba, oa, none⟩) n3 c3) ∧ wx.cell? ⟨w.heap.size + 1, 2, none⟩ = some (.slice (some ⟨bb, ob, none⟩) m3 d3) ∧ wx.cell? ⟨bp, op + t * 2, none⟩ = some (.int .i64 (i1 : Int)) ∧ wx.cell? ⟨bp, op + t * 2 + 1, none⟩ = some (.int .i64 (i2 : Int)) ∧ wx.cell? ⟨ba, oa + i1, none⟩ = some (.string v1) ∧ wx.cell? ⟨bb, ob + i2, none⟩ = some (.string v2) from fun wx hb => by
          have F := Fc.below hb
          refine ⟨F.ra.cell 2, F.rb.cell 2, ?_, ?_, ?_, ?_⟩
          · have := (hb.cell (p := ⟨bp, op + t * 2 + 0, none⟩) hbp).trans (hcp t 0 hlt (by omega))
            rw [← hp] at this
            rw [← hi1]; exact this
          · have := (hb.cell (p := ⟨bp, op + t * 2 + 1, none⟩) hbp).trans (hcp t 1 hlt (by omega))
            rw [← hp] at this
            rw [← hi2]; exact this
          · rw [hv1]; exact (hb.cell (p := ⟨ba, oa + i1, none⟩) hba).trans (hca i1 hn1)
          · rw [hv2]; exact (hb.cell (p := ⟨bb, ob + i2, none⟩) hbb).trans (hcb i2 hn2))
        have hys : (PL.take (t + 1)).map (mulP L1 L2) = (PL.take t).map (mulP L1 L2) ++ [mulF_s v1 v2] := by
          rw [take_snoc hlt, List.map_append, List.map_singleton, ← hp, hpv]
        obtain ⟨ys, hye⟩ : ∃ ys, ys = (PL.take t).map (mulP L1 L2) := ⟨_, rfl⟩
        rw [← hye] at hO hys
        have HY := Lib.hid hys
        have HO := Lib.hid hO
        have G5 : Below wc.heap.size wc wo.drew := hbr.trans (below_drewN (Below.refl _ _) 1)
        have hk1 : t + 1 ≤ maxLen := by unfold maxLen; omega
        have hk2 : (t + 1) * 16 ≤ 140737488355328 := by omega
        have hz0 : (0 : Int) ≤ (t : Int) := by omega
        have hz1 : (t : Int) < (PL.length : Int) := by omega
        have hz2 : (0 : Int) ≤ (i1 : Int) := by omega
        have hz3 : (i1 : Int) < (n3 : Int) := by omega
        have hz4 : (0 : Int) ≤ (i2 : Int) := by omega
        have hz5 : (i2 : Int) < (m3 : Int) := by omega
        obtain ⟨⟨ix, e1, e2, e3, e4, e5⟩, _, _⟩ := eiSt
        clear hp hpp hi1 hi2 hv1 hv2 hpv hca hcb hcp hye hys hO hbr Fc
        have hmm := methodMul_s
        have hma := aheadMul_s
        go_wp2_with fail
--R10
        refine wp_region_lastL (S := fun w' => w'.cell? ⟨w.heap.size, 2, none⟩ = some (.slice (some ⟨ba, oa, none⟩) n3 c3) ∧ w'.cell? ⟨w.heap.size + 1, 2, none⟩ = some (.slice (some ⟨bb, ob, none⟩) m3 d3) ∧ w'.cell? ⟨bp, op + t * 2, none⟩ = some (.int .i64 (i1 : Int)) ∧ w'.cell? ⟨bp, op + t * 2 + 1, none⟩ = some (.int .i64 (i2 : Int)) ∧ w'.cell? ⟨ba, oa + i1, none⟩ = some (.string v1) ∧ w'.cell? ⟨bb, ob + i2, none⟩ = some (.string v2)) 26 26 (by kernel_rfl) rfl rfl rfl (by kernel_rfl) ?hS101 (fun hHeld => ?rest101)
        case hS101 => (first | assumption | exact HKp.out _ G5 | exact HKp.out _ G6 | exact HKp.out _ G7 | exact HKp.out _ G9 | go_keep)
        refine wpAnyH_takeL (i := 0) (v := ?v102) rfl (by kernel_rfl) (by kernel_rfl) (by kernel_rfl) (fun _ _ _ h => h) (by rfl) ?hy102 (by assumption) ?rest102
        case hy102 => (intro w hSw; (try dsimp only at hSw); go_simp; try with_reducible rfl)
        try simp only [Act.put, List.setIfInBounds_toArray, List.set_cons_zero, List.set_cons_succ]
        refine wpAnyH_takeL (i := 1) (v := ?v103) rfl (by kernel_rfl) (by kernel_rfl) (by kernel_rfl) (fun _ _ _ h => h) (by rfl) ?hy103 (by assumption) ?rest103
        case hy103 => (intro w hSw; (try dsimp only at hSw); go_simp; try with_reducible rfl)
        try simp only [Act.put, List.setIfInBounds_toArray, List.set_cons_zero, List.set_cons_succ]
        refine wpAnyH_takeL (i := 2) (v := ?v104) rfl (by kernel_rfl) (by kernel_rfl) (by kernel_rfl) (fun _ _ _ h => h) (by rfl) ?hy104 (by assumption) ?rest104
        case hy104 => (intro w hSw; (try dsimp only at hSw); go_simp; try with_reducible rfl)
        try simp only [Act.put, List.setIfInBounds_toArray, List.set_cons_zero, List.set_cons_succ]
        refine wpAnyH_takeL (i := 3) (v := ?v105) rfl (by kernel_rfl) (by kernel_rfl) (by kernel_rfl) (fun _ _ _ h => h) (by rfl) ?hy105 (by assumption) ?rest105
        case hy105 => (intro w hSw; (try dsimp only at hSw); go_simp; try with_reducible rfl)
        try simp only [Act.put, List.setIfInBounds_toArray, List.set_cons_zero, List.set_cons_succ]
        refine wpAnyH_takeL (i := 4) (v := ?v106) rfl (by kernel_rfl) (by kernel_rfl) (by kernel_rfl) (fun _ _ _ h => h) (by rfl) ?hy106 (by assumption) ?rest106
        case hy106 => (intro w hSw; (try dsimp only at hSw); go_simp; try with_reducible rfl)
        try simp only [Act.put, List.setIfInBounds_toArray, List.set_cons_zero, List.set_cons_succ]
        refine wpAnyH_takeL (i := 5) (v := ?v107) rfl (by kernel_rfl) (by kernel_rfl) (by kernel_rfl) (fun _ _ _ h => h) (by rfl) ?hy107 (by assumption) ?rest107
        case hy107 => (intro w hSw; (try dsimp only at hSw); go_simp; try with_reducible rfl)
        try simp only [Act.put, List.setIfInBounds_toArray, List.set_cons_zero, List.set_cons_succ]
        refine wpAnyH_takeL (i := 6) (v := ?v108) rfl (by kernel_rfl) (by kernel_rfl) (by kernel_rfl) (fun _ _ _ h => h) (by rfl) ?hy108 (by assumption) ?rest108
        case hy108 => (intro w hSw; (try dsimp only at hSw); go_simp; try with_reducible rfl)
        try simp only [Act.put, List.setIfInBounds_toArray, List.set_cons_zero, List.set_cons_succ]
        refine wpAnyH_takeL (i := 7) (v := ?v109) rfl (by kernel_rfl) (by kernel_rfl) (by kernel_rfl) (fun _ _ _ h => h) (by rfl) ?hy109 (by assumption) ?rest109
        case hy109 => (intro w hSw; (try dsimp only at hSw); go_simp; try with_reducible rfl)
        try simp only [Act.put, List.setIfInBounds_toArray, List.set_cons_zero, List.set_cons_succ]
        refine wpAnyH_takeL (i := 8) (v := ?v110) rfl (by kernel_rfl) (by kernel_rfl) (by kernel_rfl) (fun _ _ _ h => h) (by rfl) ?hy110 (by assumption) ?rest110
        case hy110 => (intro w hSw; (try dsimp only at hSw); go_simp; try with_reducible rfl)
        try simp only [Act.put, List.setIfInBounds_toArray, List.set_cons_zero, List.set_cons_succ]
        refine wpAnyH_takeL (i := 9) (v := ?v111) rfl (by kernel_rfl) (by kernel_rfl) (by kernel_rfl) (fun _ _ _ h => h) (by rfl) ?hy111 (by assumption) ?rest111
        case hy111 => (intro w hSw; (try dsimp only at hSw); go_simp; try with_reducible rfl)
        try simp only [Act.put, List.setIfInBounds_toArray, List.set_cons_zero, List.set_cons_succ]
        refine wpAnyH_takeL (i := 10) (v := ?v112) rfl (by kernel_rfl) (by kernel_rfl) (by kernel_rfl) (fun _ _ _ h => h) (by rfl) ?hy112 (by assumption) ?rest112
        case hy112 => (intro w hSw; (try dsimp only at hSw); go_simp; try with_reducible rfl)
        try simp only [Act.put, List.setIfInBounds_toArray, List.set_cons_zero, List.set_cons_succ]
        refine wpAnyH_takeL (i := 11) (v := ?v113) rfl (by kernel_rfl) (by kernel_rfl) (by kernel_rfl) (fun _ _ _ h => h) (by rfl) ?hy113 (by assumption) ?rest113
        case hy113 => (intro w hSw; (try dsimp only at hSw); go_simp; try with_reducible rfl)
        try simp only [Act.put, List.setIfInBounds_toArray, List.set_cons_zero, List.set_cons_succ]
        refine wpAnyH_takeL (i := 12) (v := ?v114) rfl (by kernel_rfl) (by kernel_rfl) (by kernel_rfl) (fun _ _ _ h => h) (by rfl) ?hy114 (by assumption) ?rest114
        case hy114 => (intro w hSw; (try dsimp only at hSw); go_simp; try with_reducible rfl)
        try simp only [Act.put, List.setIfInBounds_toArray, List.set_cons_zero, List.set_cons_succ]
        refine wpAnyH_takeL (i := 13) (v := ?v115) rfl (by kernel_rfl) (by kernel_rfl) (by kernel_rfl) (fun _ _ _ h => h) (by rfl) ?hy115 (by assumption) ?rest115
        case hy115 => (intro w hSw; (try dsimp only at hSw); go_simp; try with_reducible rfl)
        try simp only [Act.put, List.setIfInBounds_toArray, List.set_cons_zero, List.set_cons_succ]
        refine wpAnyH_takeL (i := 14) (v := ?v116) rfl (by kernel_rfl) (by kernel_rfl) (by kernel_rfl) (fun _ _ _ h => h) (by rfl) ?hy116 (by assumption) ?rest116
        case hy116 => (intro w hSw; (try dsimp only at hSw); go_simp; try with_reducible rfl)
        try simp only [Act.put, List.setIfInBounds_toArray, List.set_cons_zero, List.set_cons_succ]
        refine wpAnyH_takeL (i := 15) (v := ?v117) rfl (by kernel_rfl) (by kernel_rfl) (by kernel_rfl) (fun _ _ _ h => h) (by rfl) ?hy117 (by assumption) ?rest117
        case hy117 => (intro w hSw; (try dsimp only at hSw); go_simp; try with_reducible rfl)
        try simp only [Act.put, List.setIfInBounds_toArray, List.set_cons_zero, List.set_cons_succ]
        refine wpAnyH_takeL (i := 16) (v := ?v118) rfl (by kernel_rfl) (by kernel_rfl) (by kernel_rfl) (fun _ _ _ h => h) (by rfl) ?hy118 (by assumption) ?rest118
        case hy118 => (intro w hSw; (try dsimp only at hSw); go_simp; try with_reducible rfl)
        try simp only [Act.put, List.setIfInBounds_toArray, List.set_cons_zero, List.set_cons_succ]
        refine wpAnyH_takeL (i := 17) (v := ?v119) rfl (by kernel_rfl) (by kernel_rfl) (by kernel_rfl) (fun _ _ _ h => h) (by rfl) ?hy119 (by assumption) ?rest119
        case hy119 => (intro w hSw; (try dsimp only at hSw); go_simp; try with_reducible rfl)
        try simp only [Act.put, List.setIfInBounds_toArray, List.set_cons_zero, List.set_cons_succ]
        refine wpAnyH_takeL (i := 18) (v := ?v120) rfl (by kernel_rfl) (by kernel_rfl) (by kernel_rfl) (fun _ _ _ h => h) (by rfl) ?hy120 (by assumption) ?rest120
        case hy120 => (intro w hSw; (try dsimp only at hSw); go_simp; try with_reducible rfl)
        try simp only [Act.put, List.setIfInBounds_toArray, List.set_cons_zero, List.set_cons_succ]
        refine wpAnyH_takeL (i := 19) (v := ?v121) rfl (by kernel_rfl) (by kernel_rfl) (by kernel_rfl) (fun _ _ _ h => h) (by rfl) ?hy121 (by assumption) ?rest121
        case hy121 => (intro w hSw; (try dsimp only at hSw); go_simp; try with_reducible rfl)
        try simp only [Act.put, List.setIfInBounds_toArray, List.set_cons_zero, List.set_cons_succ]
        refine wpAnyH_takeL (i := 20) (v := ?v122) rfl (by kernel_rfl) (by kernel_rfl) (by kernel_rfl) (fun _ _ _ h => h) (by rfl) ?hy122 (by assumption) ?rest122
        case hy122 => (intro w hSw; (try dsimp only at hSw); go_simp; try with_reducible rfl)
        try simp only [Act.put, List.setIfInBounds_toArray, List.set_cons_zero, List.set_cons_succ]
        refine wpAnyH_takeL (i := 21) (v := ?v123) rfl (by kernel_rfl) (by kernel_rfl) (by kernel_rfl) (fun _ _ _ h => h) (by rfl) ?hy123 (by assumption) ?rest123
        case hy123 => (intro w hSw; (try dsimp only at hSw); go_simp; try with_reducible rfl)
        try simp only [Act.put, List.setIfInBounds_toArray, List.set_cons_zero, List.set_cons_succ]
        refine wpAnyH_takeL (i := 22) (v := ?v124) rfl (by kernel_rfl) (by kernel_rfl) (by kernel_rfl) (fun _ _ _ h => h) (by rfl) ?hy124 (by assumption) ?rest124
        case hy124 => (intro w hSw; (try dsimp only at hSw); go_simp; try with_reducible rfl)
        try simp only [Act.put, List.setIfInBounds_toArray, List.set_cons_zero, List.set_cons_succ]
        refine wpAnyH_ready (rs := [23]) (by kernel_rfl) (by simp) (consL rfl (fun K hK => ?step125))
        (go_simp; (refine (mulC_s v1 v2 _ hmo).mono ?_); (rintro e w6 ⟨rfl, hb6⟩); (have G6 := G5.trans (hb6.mono G5.size)))
        refine hK.out _ _ ?hS125 (fun hHeld => ?rest125)
        case hS125 => (first | assumption | exact HKp.out _ G5 | exact HKp.out _ G6 | exact HKp.out _ G7 | exact HKp.out _ G9 | go_keep)
        clear hK K
        try simp only [Act.put, List.setIfInBounds_toArray, List.set_cons_zero, List.set_cons_succ]
        refine wpAnyH_ready (rs := [24]) (by kernel_rfl) (by simp) (consL rfl (fun K hK => ?step126))
        (go_simp; (have G7 := G6.alloc G6.size (.cells #[.string (mulF_s v1 v2)] 9)); (have ho7 := ((HO.out.drewN 1).below (Nat.le_refl _) hb6).alloc (.cells #[.string (mulF_s v1 v2)] 9)); (have hz7 := G7.size); (have s7 := Sl.one (enc := Value.string) w6 9 (mulF_s v1 v2)); (generalize w6.alloc (.cells #[.string (mulF_s v1 v2)] 9) = w7 at G7 ho7 hz7 s7 ⊢))
        refine hK.out _ _ ?hS126 (fun hHeld => ?rest126)
        case hS126 => (first | assumption | exact HKp.out _ G5 | exact HKp.out _ G6 | exact HKp.out _ G7 | exact HKp.out _ G9 | go_keep)
        clear hK K
        try simp only [Act.put, List.setIfInBounds_toArray, List.set_cons_zero, List.set_cons_succ]
        refine wpAnyH_ready (rs := [25]) (by kernel_rfl) (by simp) (consL rfl (fun K hK => ?step127))
        (refine step_append_sl _ Value.string (fun _ => rfl) (by rfl) (.tmp 62) (.tmp 86) 31 (by rfl) wc.heap.size 9 ix (.string ⟨#[]⟩) 16 e1 e2 e3 e4 e5 (by rfl) D t q ys (by rfl) ho7 _ 1 1 [mulF_s v1 v2] (by rfl) s7 hk1 hk2 hz7 ?_; intro D9 q9 w9 ho9 _ hb9 _; have G9 := G7.trans hb9)
        refine hK.out _ _ ?hS127 (fun hHeld => ?rest127)
        case hS127 => (first | assumption | exact HKp.out _ G5 | exact HKp.out _ G6 | exact HKp.out _ G7 | exact HKp.out _ G9 | go_keep)
        clear hK K
        try simp only [Act.put, List.setIfInBounds_toArray, List.set_cons_zero, List.set_cons_succ]
        refine wpAnyH_done (by kernel_rfl) ?_ _
        unfold AheadOf
        go_simp
        have HR := Lib.hid (And.intro ho9 G9)
        clear ho9 G9 hb9 ho7 hz7 s7 G7 G6 G5 hb6 hk1 hk2
        go_wp2_with fail
        refine ⟨⟨t + 1, D9, q9, by omega, rfl, by go_num, by rw [HY.out]; exact HR.out.1, HR.out.2⟩, by simp [intOf]; omega⟩
--R10E
      · as_aux_lemma =>
        obtain rfl : t = PL.length := by omega
        rw [List.take_length] at hO
        have HS2 := Lib.hid (And.intro hO hbr)
        clear hO hbr hlt
        have hGr : Below ww.heap.size ww wr := HS.out.2.2.2.2.2.trans (HS2.out.2.mono HS.out.2.2.2.2.2.size)
        have F := HF.out.below hGr
        have C1 := F.copy1 (by omega) b2 b3
        have E1 := F.copy2 (by omega) b4 b5
        have u0 := F.rc.cell 0
        have u1 := F.rc.cell 1
        have u2 := F.rc.cell 2
        have v0 := F.rd.cell 0
        have v1 := F.rd.cell 1
        have v2 := F.rd.cell 2
        clear F
        have HGr := Lib.hid hGr
        clear hGr
        go_wp2_with fail
        refine (HTM.out M1 M2 M3 N1 N2 N3 n1 p1 n2 p2 n3 p3 m1 q1 m2 q2 m3 q3 _ C1.1 C1.2.1 C1.2.2.1 E1.1 E1.2.1 E1.2.2.1 (by omega)).mono ?_
        clear C1 E1 u0 u1 u2 v0 v1 v2
        rintro e y1 ⟨E1, e1, E2, e2, E3, e3, rfl, TE, hb1⟩
        have ha1 : Below wr.heap.size wr (y1.alloc (.cells #[.slice E1 U.length e1, .slice E2 U.length e2, .slice E3 PL.length e3] 33)) := hb1.alloc hb1.size _
        have F := HF.out.below (HGr.out.trans (ha1.mono HGr.out.size))
        have C1 := F.copy1 (by omega) b2 b3
        have D1 := F.copy2 (by omega) b4 b5
        have u0 := F.rc.cell 0
        have u1 := F.rc.cell 1
        have u2 := F.rc.cell 2
        have v0 := F.rd.cell 0
        have v1 := F.rd.cell 1
        have v2 := F.rd.cell 2
        have HT1 := Lib.hid (And.intro TE (And.intro hb1 ha1))
        clear F TE hb1 ha1
        go_wp2_with fail
        refine (HTM.out M1 M2 M3 N1 N2 N3 n1 p1 n2 p2 n3 p3 m1 q1 m2 q2 m3 q3 _ C1.1 C1.2.1 C1.2.2.1 D1.1 D1.2.1 D1.2.2.1 (by omega)).mono ?_
        clear C1 D1 u0 u1 u2 v0 v1 v2
        rintro e y2 ⟨F1, f1, F2, f2, F3, f3, rfl, TF, hb2⟩
        have HT2 := Lib.hid (And.intro TF hb2)
        clear TF hb2
        obtain ⟨Y, hY⟩ : ∃ Y, Y = PL.map (mulP L1 L2) := ⟨_, rfl⟩
        have K0 : ChkAt ww.heap.size wr.heap.size (y1.heap.size + 1) g y1.heap.size y2.heap.size PL.length U UZ Y A c B d M D E1 E2 E3 F1 F2 F3 e1 e2 e3 f1 f2 f3 (y2.alloc (.cells #[.slice F1 U.length f1, .slice F2 U.length f2, .slice F3 PL.length f3] 33)) := by
          rw [hY]
          obtain ⟨hg, hrow, sA, sB, sC, hG⟩ := HS.out
          obtain ⟨hO, hbr⟩ := HS2.out
          obtain ⟨TE, hb1, ha1⟩ := HT1.out
          obtain ⟨TF, hb2⟩ := HT2.out
          have hz : Below wr.heap.size wr (y2.alloc (.cells #[.slice F1 U.length f1, .slice F2 U.length f2, .slice F3 PL.length f3] 33)) := (ha1.trans (hb2.mono ha1.size)).alloc (ha1.trans (hb2.mono ha1.size)).size _
          have hz2 : Below (y1.alloc (.cells #[.slice E1 U.length e1, .slice E2 U.length e2, .slice E3 PL.length e3] 33)).heap.size (y1.alloc (.cells #[.slice E1 U.length e1, .slice E2 U.length e2, .slice E3 PL.length e3] 33)) (y2.alloc (.cells #[.slice F1 U.length f1, .slice F2 U.length f2, .slice F3 PL.length f3] 33)) := hb2.alloc hb2.size _
          have sA1 := sA.below (Nat.le_refl _) hbr
          have sB1 := sB.below (Nat.le_refl _) hbr
          have sD1 := hO.sl (by have := HP.out.1; omega)
          have hrl := (hrow.below' hbr).lt
          have hs1 := hb1.size
          refine ⟨(hrow.below' hbr).below' hz, (RowC.new y1 33 [.slice E1 U.length e1, .slice E2 U.length e2, .slice E3 PL.length e3]).below' hz2, RowC.new y2 33 [.slice F1 U.length f1, .slice F2 U.length f2, .slice F3 PL.length f3], sA1.below (Nat.le_refl _) hz, sB1.below (Nat.le_refl _) hz, sD1.below (Nat.le_refl _) hz,
            ⟨(TE.o1.alloc _).below (Nat.le_refl _) hz2, (TE.o2.alloc _).below (Nat.le_refl _) hz2, (TE.o3.alloc _).below (Nat.le_refl _) hz2, TE.d12, TE.d13, TE.d23⟩, ?_, hg, HGr.out.size, hrl, hz.size, ?_, ?_, ?_, ?_⟩
          · rw [World.size_alloc] at TF
            exact ⟨TF.o1.alloc _, TF.o2.alloc _, TF.o3.alloc _, TF.d12, TF.d13, TF.d23⟩
          · intro hu x o e
            obtain ⟨b, off, e3, hl, _⟩ := sA1.at' hu
            rw [e3] at e; injection e with e; injection e with e; omega
          · intro hu x o e
            obtain ⟨b, off, e3, hl, _⟩ := sB1.at' hu
            rw [e3] at e; injection e with e; injection e with e; omega
          · intro hu x o e
            obtain ⟨b, off, e3, hl, _⟩ := sD1.at' hu
            rw [e3] at e; injection e with e; injection e with e; omega
          · intro x hx
            rcases hx with hx | hx | hx
            · have := TE.o1.geT hx; omega
            · have := TE.o2.geT hx; omega
            · have := TE.o3.geT hx; omega
        have hUb : (U.length + 1) * 8 ≤ 140737488351232 := by have := HP.out.2.2.1; have := HL.out.1; have := HL.out.2.2.2.1; omega
        have hUs : U.length ≤ 140737488351232 := by omega
        have hPs : PL.length ≤ 140737488351232 := by omega
        have GZ : Below ww.heap.size ww (y2.alloc (.cells #[.slice F1 U.length f1, .slice F2 U.length f2, .slice F3 PL.length f3] 33)) := by
          have h1 := HGr.out.trans (HT1.out.2.2.mono HGr.out.size)
          have h2 := h1.trans (HT2.out.2.mono h1.size)
          exact h2.alloc h2.size _
        have HK0 := Lib.hid (And.intro K0 GZ)
        have x0 := K0.re.cell 0
        have x1 := K0.re.cell 1
        have x2 := K0.re.cell 2
        have z0 := K0.rs.cell 0
        have z1 := K0.rs.cell 1
        have z2 := K0.rs.cell 2
        clear K0 GZ hY
        go_wp2_with fail
        refine (is_t E1 E2 E3 A B D U.length e1 U.length e2 PL.length e3 U.length c U.length d PL.length q M U UZ Y _ (HK0.out.1.te.o1.sl hUs) (HK0.out.1.te.o2.sl hUs) (HK0.out.1.te.o3.sl hPs) HK0.out.1.sA HK0.out.1.sB HK0.out.1.sD).mono ?_
        rintro e y3 ⟨rfl, hb3⟩
        have K1 := HK0.out.1.below hb3
        have HK1 := Lib.hid (And.intro K1 (HK0.out.2.trans (hb3.mono HK0.out.2.size)))
        clear x0 x1 x2 z0 z1 z2 hb3 HK0
        have x0 := K1.rf.cell 0
        have x1 := K1.rf.cell 1
        have x2 := K1.rf.cell 2
        have z0 := K1.rs.cell 0
        have z1 := K1.rs.cell 1
        have z2 := K1.rs.cell 2
        clear K1
        go_wp2_with fail
        refine (is_t F1 F2 F3 A B D U.length f1 U.length f2 PL.length f3 U.length c U.length d PL.length q M U UZ Y _ (HK1.out.1.tf.o1.sl hUs) (HK1.out.1.tf.o2.sl hUs) (HK1.out.1.tf.o3.sl hPs) HK1.out.1.sA HK1.out.1.sB HK1.out.1.sD).mono ?_
        rintro e y4 ⟨rfl, hb4⟩
        have K2 := HK1.out.1.below hb4
        have HK2 := Lib.hid (And.intro K2 (HK1.out.2.trans (hb4.mono HK1.out.2.size)))
        clear x0 x1 x2 z0 z1 z2 hb4 HK1
        have x0 := K2.re.cell 0
        have x1 := K2.re.cell 1
        have x2 := K2.re.cell 2
        clear K2
        go_wp2_with fail
        refine (spoilt_s _ E1 E2 E3 U.length e1 e2 PL.length e3 U UZ Y mark _ HK2.out.1.te ?_ (by omega) (by omega)).mono ?_
        · exact HK2.out.1.sz
        rintro e y5 ⟨rfl, ht5⟩
        have HK3 := Lib.hid (And.intro (HK2.out.1.spoil ht5) (HK2.out.2.trans (ht5.below HK2.out.2.size (fun y h1 h2 => by have := HK2.out.1.aE y h2; have := HK2.out.1.b0be; omega))))
        clear x0 x1 x2 ht5 HK2
        obtain ⟨⟨rs, re, rf⟩, _, _⟩ := HK3.out.1
        have x0 := rf.cell 0
        have x1 := rf.cell 1
        have x2 := rf.cell 2
        have z0 := rs.cell 0
        have z1 := rs.cell 1
        have z2 := rs.cell 2
        clear rs re rf
        go_wp2_with fail
        refine (is_t F1 F2 F3 A B D U.length f1 U.length f2 PL.length f3 U.length c U.length d PL.length q M U UZ Y _ (HK3.out.1.2.2.o1.sl hUs) (HK3.out.1.2.2.o2.sl hUs) (HK3.out.1.2.2.o3.sl hPs) HK3.out.1.2.1.1 HK3.out.1.2.1.2.1 HK3.out.1.2.1.2.2).mono ?_
        rintro e y6 ⟨rfl, hb6⟩
        have G6 := HK3.out.2.trans (hb6.mono HK3.out.2.size)
        have R6 := And.intro (HK3.out.1.1.1.below' hb6) (And.intro (HK3.out.1.1.2.1.below' hb6) (HK3.out.1.1.2.2.below' hb6))
        have HN := Lib.hid (And.intro HS.out.1 (And.intro G6 R6))
        clear x0 x1 x2 z0 z1 z2 hb6 HK3 G6 R6
        obtain ⟨err2, U2, UZ2, RL, hRL, hUZ2, hUl2, hrr, hro, hou⟩ := out_u S1 Z1 L1 v hsum
        have HRO := Lib.hid hro
        have HOU := Lib.hid hou
        have HP2 := Lib.hid (And.intro hRL (And.intro hUZ2 (And.intro hUl2 hrr)))
        clear hro hou hRL hUZ2 hUl2 hrr hUb hUs hPs
        have HGE := Lib.hid (show y1.heap.size ≠ y2.heap.size ∧ ww.heap.size ≤ y1.heap.size ∧ ww.heap.size ≤ y2.heap.size by have := HT2.out.2.size; rw [World.size_alloc] at this; have := HGr.out.size; have := HT1.out.2.1.size; omega)
        generalize y1.heap.size = ge at *
        generalize y2.heap.size = gf at *
        have F := HF.out.below HN.out.2.1
        have a0 := F.ra.cell 0
        have a1 := F.ra.cell 1
        have a2 := F.ra.cell 2
        clear F
        go_wp2_with fail
        refine (shape_s A1 A2 A3 n1 c1 n2 c2 n3 c3 _).mono ?_
        rintro e o1 ⟨rfl, hb⟩
        have HN1 := Lib.hid (And.intro HN.out.1 (And.intro (HN.out.2.1.trans (hb.mono HN.out.2.1.size)) (And.intro (HN.out.2.2.1.below' hb) (And.intro (HN.out.2.2.2.1.below' hb) (HN.out.2.2.2.2.below' hb)))))
        clear hb a0 a1 a2 HN
        go_wp2_with fail
        refine (HRO.out A1 A2 n1 c1 n2 c2 n3 _ (HF.out.below HN1.out.2.1).h1 (HF.out.below HN1.out.2.1).h2 (by omega) HL.out.2.2.1.symm).mono ?_
        rintro e o2 ⟨A', c', B', d', C', k', M', rfl, sA', sB', sC', hb⟩
        have hsz := HN1.out.2.1.size
        have HN2 := Lib.hid (And.intro HN1.out.1 (And.intro (HN1.out.2.1.trans (hb.mono hsz)) (And.intro (HN1.out.2.2.1.below' hb) (And.intro (HN1.out.2.2.2.1.below' hb) (And.intro (HN1.out.2.2.2.2.below' hb) (And.intro (And.intro (And.intro (And.intro HN1.out.2.2.1.lt (And.intro HN1.out.2.2.2.1.lt HN1.out.2.2.2.2.lt)) hb.size) sA') (And.intro sB' sC')))))))
        clear hb sA' sB' sC' HN1 hsz
        have z0 := HN2.out.2.2.1.cell 0
        have z1 := HN2.out.2.2.1.cell 1
        have z2 := HN2.out.2.2.1.cell 2
        have fz0 := HN2.out.2.2.1.frozen 0
        have fz1 := HN2.out.2.2.1.frozen 1
        have fz2 := HN2.out.2.2.1.frozen 2
        go_upto_region 17 with fail
        clear z0 z1 z2 fz0 fz1 fz2
        obtain ⟨wz, hwz⟩ : ∃ wz, wz = (((o2.setCell ⟨g, 0, none⟩ (.slice A' U2.length c')).setCell ⟨g, 1, none⟩ (.slice B' U2.length d')).setCell ⟨g, 2, none⟩ (.int .i64 M')) := ⟨_, rfl⟩
        obtain ⟨_, _, _, hbz, htz⟩ := set3 HN2.out.2.1 HN2.out.2.2.1 HN2.out.1 hwz
        have HZ : RowC wz g 29 [.slice A' U2.length c', .slice B' U2.length d', .int .i64 M'] ∧ RowC wz ge 33 [.slice E1 U.length e1, .slice E2 U.length e2, .slice E3 PL.length e3] ∧ RowC wz gf 33 [.slice F1 U.length f1, .slice F2 U.length f2, .slice F3 PL.length f3] ∧ OwnR (Value.int .i64) wz o1.heap.size 3 A' U2.length c' U2 ∧ OwnR (Value.int .i64) wz o1.heap.size 3 B' U2.length d' UZ2 ∧ RowsF o1.heap.size (Value.int .i64) wz C' RL.length RL := by
          obtain ⟨_, _, h1, h2, h3, ⟨h4, h5⟩, h6, h7⟩ := HN2.out
          refine ⟨by rw [hwz]; exact ((h1.put 0 _).put 1 _).put 2 _, h2.turn htz (h1.apart h2 (by decide)), h3.turn htz (h1.apart h3 (by decide)), h5.turn htz (fun q e e2 => by have := h5.geT e; omega), h6.turn htz (fun q e e2 => by have := h6.geT e; omega), h7.turn htz (fun x hx e => by omega)⟩
        rw [← hwz]
        have HN3 := Lib.hid (And.intro HN2.out.1 (And.intro (And.intro HN2.out.2.2.2.2.2.1.1.1 (Nat.le_trans HN2.out.2.2.2.2.2.1.1.2 htz.size)) (And.intro hbz HZ)))
        clear hwz hbz htz HZ HN2
        go_wp2_with fail
        go_loopw [20, 27] (fun l x wr => ∃ (t : Nat) (D : Option Addr) (q : Nat), t ≤ RL.length ∧ l = .slice D t q ∧ x = .int .i64 (t : Nat) ∧ OwnR Value.string wr wz.heap.size 9 D t q ((RL.take t).map (sumR L1)) ∧ Below wz.heap.size wz wr) (fun _ x _ => RL.length - (intOf x).toNat)
        case atStart => exact ⟨0, none, 0, Nat.zero_le _, rfl, rfl, OwnR.nil _ _ _ _, Below.refl _ _⟩
        case round =>
          obtain ⟨t, D2, q2', ht2, rfl, rfl, hO, hbr⟩ := hrel
          by_cases hlt : t < RL.length
          · as_aux_lemma =>
            obtain ⟨wo, hwo⟩ : ∃ wo : World, wo = wr := ⟨_, rfl⟩
            subst hwo
            obtain ⟨r, hr⟩ : ∃ r, r = nth RL t := ⟨_, rfl⟩
            obtain ⟨hrn, hrj⟩ := HP2.out.2.2.2 r (by rw [hr]; exact nth_mem hlt)
            have Fz := HF.out.below HN3.out.2.2.1
            obtain ⟨rb, ro, RB, rm, rd', eC, hrb, hrc, hrs⟩ := HN3.out.2.2.2.2.2.2.2.2.rows.row hlt
            rw [← hr] at hrs
            have hrm := hrs.len
            have hrb2 := hrs.big
            subst eC
            have hok := hsum (r.map fun j => nth L1 j.toNat) (by rw [List.length_map]; exact hrn) (fun y hy => by
              obtain ⟨j, hj, rfl⟩ := List.mem_map.1 hy
              exact nth_mem (hrj j hj).2)
            have hys : (RL.take (t + 1)).map (sumR L1) = (RL.take t).map (sumR L1) ++ [foldF_s zeroF_s (r.map fun j => nth L1 j.toNat)] := by
              rw [take_snoc hlt, List.map_append, List.map_singleton, ← hr]; rfl
            obtain ⟨ys, hye⟩ : ∃ ys, ys = (RL.take t).map (sumR L1) := ⟨_, rfl⟩
            rw [← hye] at hO hys
            have hz0 : (0 : Int) ≤ (t : Int) := by omega
            have hz1 : (t : Int) < (RL.length : Int) := by omega
            have HW := Lib.hid (And.intro hO (And.intro hbr (And.intro hys (And.intro hrs (And.intro hrj hok)))))
            have HRC := Lib.hid (And.intro hrb hrc)
            have hnz := aheadZero_s
            have hmz := methodZero_s
            clear hr hye hO hbr hys hrs hrj hok hrb hrc hrn
            go_wp2_with fail
            refine (zeroC_s _).mono ?_
            rintro e wq ⟨rfl, hbq⟩
            have HQ := Lib.hid hbq
            clear hbq hnz hmz
            go_wp2_with fail
            go_loopw [28, 29] (fun l x ws => ∃ j : Nat, j ≤ rm ∧ x = .int .i64 (j : Nat) ∧ l = .string (foldF_s zeroF_s ((r.map fun j => nth L1 j.toNat).take j)) ∧ Below wo.heap.size wo ws) (fun _ x _ => rm - (intOf x).toNat)
            case atStart => exact ⟨0, Nat.zero_le _, rfl, rfl, HQ.out⟩
            case round =>
              obtain ⟨j, hj, rfl, rfl, hbs⟩ := hrel
              obtain ⟨ws, hws⟩ : ∃ ws : World, ws = wr := ⟨_, rfl⟩
              subst hws
              have hGs : Below wz.heap.size wz ws := HW.out.2.1.trans (hbs.mono HW.out.2.1.size)
              by_cases hjt : j < rm
              · as_aux_lemma =>
                obtain ⟨qb, qo, eQ, hqb, hqc⟩ := HW.out.2.2.2.1.at' (by omega)
                obtain ⟨i1, hi1⟩ : ∃ i1 : Nat, nth r j = (i1 : Int) := ⟨(nth r j).toNat, by have := HW.out.2.2.2.2.1 _ (nth_mem (show j < r.length by omega)); omega⟩
                have HJ := Lib.hid (show j + 1 ≤ rm from hjt)
                have hn1 : i1 < n3 := by have := HW.out.2.2.2.2.1 _ (nth_mem (show j < r.length by omega)); have := HL.out.2.2.1; omega
                have Fc := HF.out.below HN3.out.2.2.1
                obtain ⟨ba, oa, eA3, hba, hca⟩ := Fc.h3.at' (by omega)
                subst eA3 eQ
                obtain ⟨v1, hv1⟩ : ∃ v1, v1 = nth L1 i1 := ⟨_, rfl⟩
                have hlen : (r.map fun j => nth L1 j.toNat).length = rm := by rw [List.length_map]; exact hrm
                have hnj : nth (r.map fun j => nth L1 j.toNat) j = v1 := by rw [nth_map _ (by omega), hi1, hv1, Int.toNat_natCast]
                have hsj := foldF_succ_s (x := zeroF_s) (L := r.map fun j => nth L1 j.toNat) (k := j) (by omega)
                have hao := HW.out.2.2.2.2.2 j (by omega)
                rw [hnj] at hsj hao
                obtain ⟨sj, hse⟩ : ∃ sj, sj = foldF_s zeroF_s ((r.map fun j => nth L1 j.toNat).take j) := ⟨_, rfl⟩
                rw [← hse] at hsj hao ⊢
                have HSJ := Lib.hid hsj
                have HKr := Lib.hid (show ∀ wx : World, Below wz.heap.size wz wx → wx.cell? ⟨w.heap.size, 2, none⟩ = some (.slice (some ⟨ba, oa, none⟩) n3 c3) ∧ wx.cell? ⟨rb, ro + t, none⟩ = some (.slice (some ⟨qb, qo, none⟩) rm rd') ∧ wx.cell? ⟨qb, qo + j, none⟩ = some (.int .i64 (i1 : Int)) ∧ wx.cell? ⟨ba, oa + i1, none⟩ = some (.string v1) from fun wx hb => by
                  have F := Fc.below hb
                  refine ⟨F.ra.cell 2, (hb.cell (p := ⟨rb, ro + t, none⟩) HRC.out.1).trans HRC.out.2, ?_, ?_⟩
                  · have := (hb.cell (p := ⟨qb, qo + j, none⟩) hqb).trans (hqc j hjt)
                    rw [hi1] at this
                    exact this
                  · rw [hv1]; exact (hb.cell (p := ⟨ba, oa + i1, none⟩) hba).trans (hca i1 hn1))
                have G5 : Below wz.heap.size wz ws.drew := hGs.trans (below_drewN (Below.refl _ _) 1)
                have g2 := (HKr.out _ hGs).2.1
                have HSS := Lib.hid hbs
                have hz2 : (0 : Int) ≤ (i1 : Int) := by omega
                have hz3 : (i1 : Int) < (n3 : Int) := by omega
                have hz4 : (0 : Int) ≤ (j : Int) := by omega
                have hz5 : (j : Int) < (rm : Int) := by omega
                have hna := aheadAdd_s
                have hma := methodAdd_s
                clear hi1 hv1 hnj hsj hse hca hqc hlen hGs hbs Fc
                go_wp2_with fail
                clear g2
                have G0 := HKr.out _ G5
--R24
                refine wp_region_lastL (S := fun w' => w'.cell? ⟨w.heap.size, 2, none⟩ = some (.slice (some ⟨ba, oa, none⟩) n3 c3) ∧ w'.cell? ⟨rb, ro + t, none⟩ = some (.slice (some ⟨qb, qo, none⟩) rm rd') ∧ w'.cell? ⟨qb, qo + j, none⟩ = some (.int .i64 (i1 : Int)) ∧ w'.cell? ⟨ba, oa + i1, none⟩ = some (.string v1)) 17 17 (by kernel_rfl) rfl rfl rfl (by kernel_rfl) ?hS201 (fun hHeld => ?rest201)
                case hS201 => (first | assumption | exact HKr.out _ G5 | exact HKr.out _ G6 | go_keep)
                refine wpAnyH_takeL (i := 0) (v := ?v202) rfl (by kernel_rfl) (by kernel_rfl) (by kernel_rfl) (fun _ _ _ h => h) (by rfl) ?hy202 (by assumption) ?rest202
                case hy202 => (intro w hSw; (try dsimp only at hSw); go_simp; try with_reducible rfl)
                try simp only [Act.put, List.setIfInBounds_toArray, List.set_cons_zero, List.set_cons_succ]
                refine wpAnyH_takeL (i := 1) (v := ?v203) rfl (by kernel_rfl) (by kernel_rfl) (by kernel_rfl) (fun _ _ _ h => h) (by rfl) ?hy203 (by assumption) ?rest203
                case hy203 => (intro w hSw; (try dsimp only at hSw); go_simp; try with_reducible rfl)
                try simp only [Act.put, List.setIfInBounds_toArray, List.set_cons_zero, List.set_cons_succ]
                refine wpAnyH_takeL (i := 2) (v := ?v204) rfl (by kernel_rfl) (by kernel_rfl) (by kernel_rfl) (fun _ _ _ h => h) (by rfl) ?hy204 (by assumption) ?rest204
                case hy204 => (intro w hSw; (try dsimp only at hSw); go_simp; try with_reducible rfl)
                try simp only [Act.put, List.setIfInBounds_toArray, List.set_cons_zero, List.set_cons_succ]
                refine wpAnyH_takeL (i := 3) (v := ?v205) rfl (by kernel_rfl) (by kernel_rfl) (by kernel_rfl) (fun _ _ _ h => h) (by rfl) ?hy205 (by assumption) ?rest205
                case hy205 => (intro w hSw; (try dsimp only at hSw); go_simp; try with_reducible rfl)
                try simp only [Act.put, List.setIfInBounds_toArray, List.set_cons_zero, List.set_cons_succ]
                refine wpAnyH_takeL (i := 4) (v := ?v206) rfl (by kernel_rfl) (by kernel_rfl) (by kernel_rfl) (fun _ _ _ h => h) (by rfl) ?hy206 (by assumption) ?rest206
                case hy206 => (intro w hSw; (try dsimp only at hSw); go_simp; try with_reducible rfl)
                try simp only [Act.put, List.setIfInBounds_toArray, List.set_cons_zero, List.set_cons_succ]
                refine wpAnyH_takeL (i := 5) (v := ?v207) rfl (by kernel_rfl) (by kernel_rfl) (by kernel_rfl) (fun _ _ _ h => h) (by rfl) ?hy207 (by assumption) ?rest207
                case hy207 => (intro w hSw; (try dsimp only at hSw); go_simp; try with_reducible rfl)
                try simp only [Act.put, List.setIfInBounds_toArray, List.set_cons_zero, List.set_cons_succ]
                refine wpAnyH_takeL (i := 6) (v := ?v208) rfl (by kernel_rfl) (by kernel_rfl) (by kernel_rfl) (fun _ _ _ h => h) (by rfl) ?hy208 (by assumption) ?rest208
                case hy208 => (intro w hSw; (try dsimp only at hSw); go_simp; try with_reducible rfl)
                try simp only [Act.put, List.setIfInBounds_toArray, List.set_cons_zero, List.set_cons_succ]
                refine wpAnyH_takeL (i := 7) (v := ?v209) rfl (by kernel_rfl) (by kernel_rfl) (by kernel_rfl) (fun _ _ _ h => h) (by rfl) ?hy209 (by assumption) ?rest209
                case hy209 => (intro w hSw; (try dsimp only at hSw); go_simp; try with_reducible rfl)
                try simp only [Act.put, List.setIfInBounds_toArray, List.set_cons_zero, List.set_cons_succ]
                refine wpAnyH_takeL (i := 8) (v := ?v210) rfl (by kernel_rfl) (by kernel_rfl) (by kernel_rfl) (fun _ _ _ h => h) (by rfl) ?hy210 (by assumption) ?rest210
                case hy210 => (intro w hSw; (try dsimp only at hSw); go_simp; try with_reducible rfl)
                try simp only [Act.put, List.setIfInBounds_toArray, List.set_cons_zero, List.set_cons_succ]
                refine wpAnyH_takeL (i := 9) (v := ?v211) rfl (by kernel_rfl) (by kernel_rfl) (by kernel_rfl) (fun _ _ _ h => h) (by rfl) ?hy211 (by assumption) ?rest211
                case hy211 => (intro w hSw; (try dsimp only at hSw); go_simp; try with_reducible rfl)
                try simp only [Act.put, List.setIfInBounds_toArray, List.set_cons_zero, List.set_cons_succ]
                refine wpAnyH_takeL (i := 10) (v := ?v212) rfl (by kernel_rfl) (by kernel_rfl) (by kernel_rfl) (fun _ _ _ h => h) (by rfl) ?hy212 (by assumption) ?rest212
                case hy212 => (intro w hSw; (try dsimp only at hSw); go_simp; try with_reducible rfl)
                try simp only [Act.put, List.setIfInBounds_toArray, List.set_cons_zero, List.set_cons_succ]
                refine wpAnyH_takeL (i := 11) (v := ?v213) rfl (by kernel_rfl) (by kernel_rfl) (by kernel_rfl) (fun _ _ _ h => h) (by rfl) ?hy213 (by assumption) ?rest213
                case hy213 => (intro w hSw; (try dsimp only at hSw); go_simp; try with_reducible rfl)
                try simp only [Act.put, List.setIfInBounds_toArray, List.set_cons_zero, List.set_cons_succ]
                refine wpAnyH_takeL (i := 12) (v := ?v214) rfl (by kernel_rfl) (by kernel_rfl) (by kernel_rfl) (fun _ _ _ h => h) (by rfl) ?hy214 (by assumption) ?rest214
                case hy214 => (intro w hSw; (try dsimp only at hSw); go_simp; try with_reducible rfl)
                try simp only [Act.put, List.setIfInBounds_toArray, List.set_cons_zero, List.set_cons_succ]
                refine wpAnyH_takeL (i := 13) (v := ?v215) rfl (by kernel_rfl) (by kernel_rfl) (by kernel_rfl) (fun _ _ _ h => h) (by rfl) ?hy215 (by assumption) ?rest215
                case hy215 => (intro w hSw; (try dsimp only at hSw); go_simp; try with_reducible rfl)
                try simp only [Act.put, List.setIfInBounds_toArray, List.set_cons_zero, List.set_cons_succ]
                refine wpAnyH_takeL (i := 14) (v := ?v216) rfl (by kernel_rfl) (by kernel_rfl) (by kernel_rfl) (fun _ _ _ h => h) (by rfl) ?hy216 (by assumption) ?rest216
                case hy216 => (intro w hSw; (try dsimp only at hSw); go_simp; try with_reducible rfl)
                try simp only [Act.put, List.setIfInBounds_toArray, List.set_cons_zero, List.set_cons_succ]
                refine wpAnyH_takeL (i := 15) (v := ?v217) rfl (by kernel_rfl) (by kernel_rfl) (by kernel_rfl) (fun _ _ _ h => h) (by rfl) ?hy217 (by assumption) ?rest217
                case hy217 => (intro w hSw; (try dsimp only at hSw); go_simp; try with_reducible rfl)
                try simp only [Act.put, List.setIfInBounds_toArray, List.set_cons_zero, List.set_cons_succ]
                refine wpAnyH_ready (rs := [16]) (by kernel_rfl) (by simp) (consL rfl (fun K hK => ?step218))
                (go_simp; (refine (addC_s sj v1 _ hao).mono ?_); (rintro e w6 ⟨rfl, hb6⟩); (have G6 := G5.trans (hb6.mono G5.size)))
                refine hK.out _ _ ?hS218 (fun hHeld => ?rest218)
                case hS218 => (first | assumption | exact HKr.out _ G5 | exact HKr.out _ G6 | go_keep)
                clear hK K
                try simp only [Act.put, List.setIfInBounds_toArray, List.set_cons_zero, List.set_cons_succ]
                refine wpAnyH_done (by kernel_rfl) ?_ _
                unfold AheadOf
                go_simp
                have HR := Lib.hid (HSS.out.trans ((below_drewN (Below.refl _ _) 1 : Below ws.heap.size ws ws.drew).trans hb6 |>.mono HSS.out.size))
                clear G6 G5 hb6
                go_wp2_with fail
                exact ⟨⟨j + 1, HJ.out, by go_num, by rw [HSJ.out], HR.out⟩, by have := HJ.out; simp [intOf]; omega⟩
--R24E
              · as_aux_lemma =>
                obtain rfl : j = rm := by omega
                have hlen : (r.map fun j => nth L1 j.toNat).length = j := by rw [List.length_map]; exact hrm
                rw [← hlen, List.take_length, hlen]
                have g2 := (hGs.cell (p := ⟨rb, ro + t, none⟩) HRC.out.1).trans HRC.out.2
                obtain ⟨sv, hsv⟩ : ∃ sv, sv = foldF_s zeroF_s (r.map fun j => nth L1 j.toNat) := ⟨_, rfl⟩
                rw [← hsv]
                have hys := HW.out.2.2.1
                rw [← hsv] at hys
                have ho1 := ((HW.out.1.below (Nat.le_refl _) hbs)).alloc (.cells #[.string sv] 9)
                have hba := hGs.alloc hGs.size (.cells #[.string sv] 9)
                have hsz := hba.size
                have hq : (t + 1) * 16 ≤ 140737488355328 := by have := HP2.out.1; omega
                have HA := Lib.hid (And.intro hba hys)
                have hRL := HP2.out.1
                clear hys hba hsv hlen hbs hGs
                go_wp2_with (first
                  | (at_builtin; refine wpList_app _ eiSt Value.string (fun _ => rfl) rfl _ _ rfl wz.heap.size _ _ _ _ rfl ho1 _ _ _ _ rfl (Sl.one (enc := Value.string) _ _ _) hq hsz ?_)
                  | fail)
                intro D9 q9 w9 ho9 _ hb9 _
                have HR := Lib.hid (And.intro ho9 (HA.out.1.trans hb9))
                clear ho9 hb9 ho1 hsz hq g2
                go_wp2_with fail
                exact ⟨⟨t + 1, D9, q9, by omega, rfl, by go_num, by rw [HA.out.2]; exact HR.out.1, HR.out.2⟩, by simp [intOf]; omega⟩
          · as_aux_lemma =>
            obtain rfl : t = RL.length := by omega
            rw [List.take_length] at hO
            have HS3 := Lib.hid (And.intro hO hbr)
            clear hO hbr hlt
            have hGw : Below ww.heap.size ww wr := HN3.out.2.2.1.trans (HS3.out.2.mono HN3.out.2.2.1.size)
            have F := HF.out.below hGw
            have C1 := F.copy1 (by omega) b2 b3
            have u0 := F.rc.cell 0
            have u1 := F.rc.cell 1
            have u2 := F.rc.cell 2
            have HGw := Lib.hid hGw
            clear F hGw
            go_wp2_with fail
            refine (HOU.out M1 M2 M3 n1 p1 n2 p2 n3 p3 _ C1.1 C1.2.1 C1.2.2.1 (by omega) C1.2.2.2).mono ?_
            clear C1 u0 u1 u2
            rintro e r1 ⟨J1, j1, J2, j2, J3, j3, rfl, TJ, hb1⟩
            have hre := (HN3.out.2.2.2.2.1.below' HS3.out.2).below' hb1
            have x0 := hre.cell 0
            have x1 := hre.cell 1
            have x2 := hre.cell 2
            have fx0 := hre.frozen 0
            have fx1 := hre.frozen 1
            have fx2 := hre.frozen 2
            have HJ1 := Lib.hid (And.intro TJ (And.intro hb1 hre))
            clear TJ hb1 hre
            go_upto_region 27 with fail
            clear x0 x1 x2 fx0 fx1 fx2
--REST
            obtain ⟨wj, hwj⟩ : ∃ wj, wj = (((r1.setCell ⟨ge, 0, none⟩ (.slice J1 U2.length j1)).setCell ⟨ge, 1, none⟩ (.slice J2 U2.length j2)).setCell ⟨ge, 2, none⟩ (.slice J3 RL.length j3)) := ⟨_, rfl⟩
            have HM := Lib.hid (chk_mid HGw.out HGE.out (HN3.out.2.2.2.2.1.below' HS3.out.2) (HN3.out.2.2.2.2.2.1.below' HS3.out.2) HJ1.out.2.1 hwj)
            rw [← hwj]
            have HWJ := Lib.hid hwj
            clear hwj
            have C1 := (HF.out.below HM.out.1).copy1 (by omega) b2 b3
            have u0 := (HF.out.below HM.out.1).rc.cell 0
            have u1 := (HF.out.below HM.out.1).rc.cell 1
            have u2 := (HF.out.below HM.out.1).rc.cell 2
            go_wp2_with fail
            refine (HOU.out M1 M2 M3 n1 p1 n2 p2 n3 p3 _ C1.1 C1.2.1 C1.2.2.1 (by omega) C1.2.2.2).mono ?_
            clear C1 u0 u1 u2
            rintro e s1 ⟨K1, k1, K2, k2, K3, k3, rfl, TK, hb2⟩
            have hrf := HM.out.2.below' hb2
            have x0 := hrf.cell 0
            have x1 := hrf.cell 1
            have x2 := hrf.cell 2
            have fx0 := hrf.frozen 0
            have fx1 := hrf.frozen 1
            have fx2 := hrf.frozen 2
            have HTK := Lib.hid (And.intro TK hb2)
            clear TK hb2 hrf
            go_upto_region 28 with fail
            clear x0 x1 x2 fx0 fx1 fx2
            obtain ⟨wk, hwk⟩ : ∃ wk, wk = (((s1.setCell ⟨gf, 0, none⟩ (.slice K1 U2.length k1)).setCell ⟨gf, 1, none⟩ (.slice K2 U2.length k2)).setCell ⟨gf, 2, none⟩ (.slice K3 RL.length k3)) := ⟨_, rfl⟩
            rw [← hwk]
            have hUs : U2.length ≤ 140737488351232 := by have := HP2.out.2.2.1; have := HL.out.1; omega
            have hUb : (U2.length + 1) * 8 ≤ 140737488351232 := by have := HP2.out.2.2.1; have := HL.out.1; omega
            have hPs2 : RL.length ≤ 2147483647 := HP2.out.1
            have hPs : RL.length ≤ 140737488351232 := by omega
            have HK0 := Lib.hid (chk_two HGw.out HN3.out.1 HGE.out HN3.out.2.1.1 HN3.out.2.1.2 (HN3.out.2.2.2.1.below' HS3.out.2) (HN3.out.2.2.2.2.1.below' HS3.out.2) (HN3.out.2.2.2.2.2.1.below' HS3.out.2) (HN3.out.2.2.2.2.2.2.1.below (Nat.le_refl _) HS3.out.2) (HN3.out.2.2.2.2.2.2.2.1.below (Nat.le_refl _) HS3.out.2) HS3.out.1 hUs hPs HJ1.out.1 HJ1.out.2.1 HWJ.out HTK.out.1 HTK.out.2 hwk)
            clear hwk HJ1 HTK HWJ HM HS3 
            obtain ⟨Y2, hY2⟩ : ∃ Y2, Y2 = RL.map (sumR L1) := ⟨_, rfl⟩
            rw [← hY2] at HK0
            clear hY2

            have x0 := HK0.out.1.re.cell 0
            have x1 := HK0.out.1.re.cell 1
            have x2 := HK0.out.1.re.cell 2
            have z0 := HK0.out.1.rs.cell 0
            have z1 := HK0.out.1.rs.cell 1
            have z2 := HK0.out.1.rs.cell 2
            go_wp2_with fail
            refine (is_t J1 J2 J3 A' B' D2 U2.length j1 U2.length j2 RL.length j3 U2.length c' U2.length d' RL.length q2' M' U2 UZ2 Y2 _ (HK0.out.1.te.o1.sl hUs) (HK0.out.1.te.o2.sl hUs) (HK0.out.1.te.o3.sl hPs) HK0.out.1.sA HK0.out.1.sB HK0.out.1.sD).mono ?_
            rintro e t3 ⟨rfl, hb3⟩
            have K1 := HK0.out.1.below hb3
            have HK1 := Lib.hid (And.intro K1 (HK0.out.2.trans (hb3.mono HK0.out.2.size)))
            clear x0 x1 x2 z0 z1 z2 hb3 HK0
            have x0 := K1.rf.cell 0
            have x1 := K1.rf.cell 1
            have x2 := K1.rf.cell 2
            have z0 := K1.rs.cell 0
            have z1 := K1.rs.cell 1
            have z2 := K1.rs.cell 2
            clear K1
            go_wp2_with fail
            refine (is_t K1 K2 K3 A' B' D2 U2.length k1 U2.length k2 RL.length k3 U2.length c' U2.length d' RL.length q2' M' U2 UZ2 Y2 _ (HK1.out.1.tf.o1.sl hUs) (HK1.out.1.tf.o2.sl hUs) (HK1.out.1.tf.o3.sl hPs) HK1.out.1.sA HK1.out.1.sB HK1.out.1.sD).mono ?_
            rintro e t4 ⟨rfl, hb4⟩
            have K2 := HK1.out.1.below hb4
            have HK2 := Lib.hid (And.intro K2 (HK1.out.2.trans (hb4.mono HK1.out.2.size)))
            clear x0 x1 x2 z0 z1 z2 hb4 HK1
            have x0 := K2.re.cell 0
            have x1 := K2.re.cell 1
            have x2 := K2.re.cell 2
            clear K2
            go_wp2_with fail
            refine (spoilt_s _ J1 J2 J3 U2.length j1 j2 RL.length j3 U2 UZ2 Y2 mark _ HK2.out.1.te ?_ (by omega) (by omega)).mono ?_
            · exact HK2.out.1.sz
            rintro e t5 ⟨rfl, ht5⟩
            have HK3 := Lib.hid (And.intro (HK2.out.1.spoil ht5) (HK2.out.2.trans (ht5.below HK2.out.2.size (fun y h1 h2 => by have := HK2.out.1.aE y h2; have := HK2.out.1.b0be; omega))))
            clear x0 x1 x2 ht5 HK2
            obtain ⟨⟨rs, re, rf⟩, _, _⟩ := HK3.out.1
            have x0 := rf.cell 0
            have x1 := rf.cell 1
            have x2 := rf.cell 2
            have z0 := rs.cell 0
            have z1 := rs.cell 1
            have z2 := rs.cell 2
            clear rs re rf
            go_wp2_with fail
            refine (is_t K1 K2 K3 A' B' D2 U2.length k1 U2.length k2 RL.length k3 U2.length c' U2.length d' RL.length q2' M' U2 UZ2 Y2 _ (HK3.out.1.2.2.o1.sl hUs) (HK3.out.1.2.2.o2.sl hUs) (HK3.out.1.2.2.o3.sl hPs) HK3.out.1.2.1.1 HK3.out.1.2.1.2.1 HK3.out.1.2.1.2.2).mono ?_
            rintro e t6 ⟨rfl, hb6⟩
            have G6 := HK3.out.2.trans (hb6.mono HK3.out.2.size)
            have R6 := And.intro (HK3.out.1.1.1.below' hb6) (And.intro (HK3.out.1.1.2.1.below' hb6) (HK3.out.1.1.2.2.below' hb6))
            clear x0 x1 x2 z0 z1 z2 hb6 HK3

            have HN := Lib.hid (And.intro HN3.out.1 (And.intro G6 R6))
            clear G6 R6 HN3 HRO HOU HP2 hUs hUb hPs hPs2 HGw
            obtain ⟨err3, U3, UZ3, GL, hGL, hUZ3, hUl3, hgj, hrg, hgv⟩ := given_u S1 Z1 L1 fv fx
            have HRG := Lib.hid hrg
            have HGV := Lib.hid hgv
            have HP3 := Lib.hid (And.intro hGL (And.intro hUZ3 (And.intro hUl3 hgj)))
            clear hrg hgv hGL hUZ3 hUl3 hgj
            have HKg := Lib.hid (show ∀ wx : World, Below ww.heap.size ww wx → (wx.cell? ⟨w.heap.size, 0, none⟩ = some (.slice A1 n1 c1) ∧ wx.cell? ⟨w.heap.size, 1, none⟩ = some (.slice A2 n2 c2) ∧ wx.cell? ⟨w.heap.size, 2, none⟩ = some (.slice A3 n3 c3)) ∧ wx.cell? ⟨w.heap.size + 1 + 1, 0, none⟩ = some (.int .i64 fv) ∧ wx.cell? ⟨w.heap.size + 1 + 1, 1, none⟩ = some (.int .i64 fx) from fun wx hb => by
              have F := HF.out.below hb
              exact ⟨⟨F.ra.cell 0, F.ra.cell 1, F.ra.cell 2⟩, F.rf.cell 0, F.rf.cell 1⟩)
            have G : Below ww.heap.size ww t6.drew := HN.out.2.1.trans (below_drewN (Below.refl _ _) 1)
            have hR := And.intro HN.out.2.2.1.drew (And.intro HN.out.2.2.2.1.drew HN.out.2.2.2.2.drew)
            have hgg := HN.out.1
            clear HN
            go_upto_region 30 with fail
            refine wp_region_lastLB (S := fun w' => (w'.cell? ⟨w.heap.size, 0, none⟩ = some (.slice A1 n1 c1) ∧ w'.cell? ⟨w.heap.size, 1, none⟩ = some (.slice A2 n2 c2) ∧ w'.cell? ⟨w.heap.size, 2, none⟩ = some (.slice A3 n3 c3)) ∧ w'.cell? ⟨w.heap.size + 1 + 1, 0, none⟩ = some (.int .i64 fv) ∧ w'.cell? ⟨w.heap.size + 1 + 1, 1, none⟩ = some (.int .i64 fx)) 10 10 (by kernel_rfl) rfl rfl rfl (by kernel_rfl) ?hS301 (fun hHeld => ?rest301)
            case hS301 => (first | assumption | exact HKg.out _ G | go_keep)
            refine wpAnyH_takeL (i := 0) (v := ?v302) rfl (by kernel_rfl) (by kernel_rfl) (by kernel_rfl) (fun _ _ _ h => h) (by rfl) ?hy302 (by assumption) ?rest302
            case hy302 => (intro w hSw; (try dsimp only at hSw); go_simp; try with_reducible rfl)
            try simp only [Act.put, List.setIfInBounds_toArray, List.set_cons_zero, List.set_cons_succ]
            refine wpAnyH_takeL (i := 2) (v := ?v303) rfl (by kernel_rfl) (by kernel_rfl) (by kernel_rfl) (fun _ _ _ h => h) (by rfl) ?hy303 (by assumption) ?rest303
            case hy303 => (intro w hSw; (try dsimp only at hSw); go_simp; try with_reducible rfl)
            try simp only [Act.put, List.setIfInBounds_toArray, List.set_cons_zero, List.set_cons_succ]
            refine wpAnyH_ready (rs := [1]) (by kernel_rfl) (by simp) (consL rfl (fun K hK => ?step304))
            (go_simp; (refine (shape_s A1 A2 A3 n1 c1 n2 c2 n3 c3 _).mono ?_); (rintro e v1 ⟨rfl, hb⟩); (have G := G.trans (hb.mono G.size)); (have hR := And.intro (hR.1.below' hb) (And.intro (hR.2.1.below' hb) (hR.2.2.below' hb))); clear hb)
            refine hK.out _ _ ?hS304 (fun hHeld => ?rest304)
            case hS304 => (first | assumption | exact HKg.out _ G | go_keep)
            clear hK K
            try simp only [Act.put, List.setIfInBounds_toArray, List.set_cons_zero, List.set_cons_succ]
            refine wpAnyH_ready (rs := [3]) (by kernel_rfl) (by simp) (consL rfl (fun K hK => ?step305))
            (go_simp; (refine (HRG.out A1 A2 n1 c1 n2 c2 n3 _ (HF.out.below G).h1 (HF.out.below G).h2 (by omega) HL.out.2.2.1.symm).mono ?_); (rintro e v2 ⟨A3', c3', B3', d3', C3', k3', M3', rfl, sA, sB, sC, hb⟩); (have hlt := And.intro (And.intro hR.1.lt (And.intro hR.2.1.lt hR.2.2.lt)) hb.size); (have G := G.trans (hb.mono G.size)); (have hR := And.intro (hR.1.below' hb) (And.intro (hR.2.1.below' hb) (hR.2.2.below' hb))); clear hb)
            refine hK.out _ _ ?hS305 (fun hHeld => ?rest305)
            case hS305 => (first | assumption | exact HKg.out _ G | go_keep)
            clear hK K
            try simp only [Act.put, List.setIfInBounds_toArray, List.set_cons_zero, List.set_cons_succ]
            refine wpAnyH_takeL (i := 4) (v := ?v306) rfl (by kernel_rfl) (by kernel_rfl) (by kernel_rfl) (fun _ _ _ h => h) (by rfl) ?hy306 (by assumption) ?rest306
            case hy306 => (intro w hSw; (try dsimp only at hSw); go_simp; try with_reducible rfl)
            try simp only [Act.put, List.setIfInBounds_toArray, List.set_cons_zero, List.set_cons_succ]
            refine wpAnyH_takeL (i := 5) (v := ?v307) rfl (by kernel_rfl) (by kernel_rfl) (by kernel_rfl) (fun _ _ _ h => h) (by rfl) ?hy307 (by assumption) ?rest307
            case hy307 => (intro w hSw; (try dsimp only at hSw); go_simp; try with_reducible rfl)
            try simp only [Act.put, List.setIfInBounds_toArray, List.set_cons_zero, List.set_cons_succ]
            refine wpAnyH_takeL (i := 6) (v := ?v308) rfl (by kernel_rfl) (by kernel_rfl) (by kernel_rfl) (fun _ _ _ h => h) (by rfl) ?hy308 (by assumption) ?rest308
            case hy308 => (intro w hSw; (try dsimp only at hSw); go_simp; try with_reducible rfl)
            try simp only [Act.put, List.setIfInBounds_toArray, List.set_cons_zero, List.set_cons_succ]
            refine wpAnyH_takeL (i := 7) (v := ?v309) rfl (by kernel_rfl) (by kernel_rfl) (by kernel_rfl) (fun _ _ _ h => h) (by rfl) ?hy309 (by assumption) ?rest309
            case hy309 => (intro w hSw; (try dsimp only at hSw); go_simp; try with_reducible rfl)
            try simp only [Act.put, List.setIfInBounds_toArray, List.set_cons_zero, List.set_cons_succ]
            refine wpAnyH_ready (rs := [8]) (by kernel_rfl) (by simp) (consL rfl (fun K hK => ?step310))
            ((have z0 := hR.1.cell 0); (have z1 := hR.1.cell 1); (have z2 := hR.1.cell 2); (have f0 := hR.1.frozen 0); (have f1 := hR.1.frozen 1); (have f2 := hR.1.frozen 2); go_simp; (clear z0 z1 z2 f0 f1 f2); (obtain ⟨wv, hwv⟩ : ∃ wv, wv = (((v2.setCell ⟨g, 0, none⟩ (.slice A3' U3.length c3')).setCell ⟨g, 1, none⟩ (.slice B3' U3.length d3')).setCell ⟨g, 2, none⟩ (.int .i64 M3')) := ⟨_, rfl⟩); (obtain ⟨_, _, _, hbz, htz⟩ := set3 G hR.1 hgg hwv); (have HZ : RowC wv g 29 [.slice A3' U3.length c3', .slice B3' U3.length d3', .int .i64 M3'] := by rw [hwv]; exact ((hR.1.put 0 _).put 1 _).put 2 _); (rw [← hwv]); (clear hwv); (have G := hbz))
            refine hK.out _ _ ?hS310 (fun hHeld => ?rest310)
            case hS310 => (first | assumption | exact HKg.out _ G | go_keep)
            clear hK K
            try simp only [Act.put, List.setIfInBounds_toArray, List.set_cons_zero, List.set_cons_succ]
            refine wpAnyH_takeL (i := 9) (v := ?v311) rfl (by kernel_rfl) (by kernel_rfl) (by kernel_rfl) (fun _ _ _ h => h) (by rfl) ?hy311 (by assumption) ?rest311
            case hy311 => (intro w hSw; (try dsimp only at hSw); go_simp; try with_reducible rfl)
            try simp only [Act.put, List.setIfInBounds_toArray, List.set_cons_zero, List.set_cons_succ]
            refine wpAnyH_done (by kernel_rfl) ?_ _
            unfold AheadOf
            go_simp

            have HG1 := Lib.hid (show g < v1.heap.size ∧ ge < v1.heap.size ∧ gf < v1.heap.size from hlt.1)
            have HG2 := Lib.hid (show v1.heap.size ≤ wv.heap.size from Nat.le_trans hlt.2 htz.size)
            have HG3 := Lib.hid (show RowC wv ge 33 _ ∧ RowC wv gf 33 _ ∧ OwnR (Value.int .i64) wv v1.heap.size 3 A3' U3.length c3' U3 ∧ OwnR (Value.int .i64) wv v1.heap.size 3 B3' U3.length d3' UZ3 ∧ OwnR (Value.int .i64) wv v1.heap.size 3 C3' GL.length k3' GL from ⟨hR.2.1.turn htz (hR.1.apart hR.2.1 (by decide)), hR.2.2.turn htz (hR.1.apart hR.2.2 (by decide)), sA.turn htz (fun q e e2 => by have := sA.geT e; omega), sB.turn htz (fun q e e2 => by have := sB.geT e; omega), sC.turn htz (fun q e e2 => by have := sC.geT e; omega)⟩)
            have HG4 := Lib.hid (And.intro G HZ)
            have HGG := Lib.hid hgg
            have hGL := HP3.out.1
            clear hlt htz hR sA sB sC G HZ hbz hgg HRG HKg
            go_wp2_with fail
            go_loopw [20, 31] (fun l x wr => ∃ (t : Nat) (D : Option Addr) (q : Nat), t ≤ GL.length ∧ l = .slice D t q ∧ x = .int .i64 (t : Nat) ∧ OwnR Value.string wr wv.heap.size 9 D t q ((GL.take t).map fun j => nth L1 j.toNat) ∧ Below wv.heap.size wv wr) (fun _ x _ => GL.length - (intOf x).toNat)
            case atStart => exact ⟨0, none, 0, Nat.zero_le _, rfl, rfl, OwnR.nil _ _ _ _, Below.refl _ _⟩
            case round =>
              obtain ⟨t3, D3, q3', ht3, rfl, rfl, hO, hbr⟩ := hrel
              by_cases hlt : t3 < GL.length
              · as_aux_lemma =>
                obtain ⟨wo, hwo⟩ : ∃ wo : World, wo = wr := ⟨_, rfl⟩
                subst hwo
                obtain ⟨i1, hi1⟩ : ∃ i1 : Nat, nth GL t3 = (i1 : Int) := ⟨(nth GL t3).toNat, by have := HP3.out.2.2.2 _ (nth_mem hlt); omega⟩
                have hn1 : i1 < n3 := by have := HP3.out.2.2.2 _ (nth_mem hlt); have := HL.out.2.2.1; omega
                have Fc := HF.out.below HG4.out.1
                obtain ⟨ba, oa, eA3, hba, hca⟩ := Fc.h3.at' (by omega)
                obtain ⟨bp, op, eC, hbp, hcp⟩ := (HG3.out.2.2.2.2.sl (by omega)).at' (by omega)
                subst eC eA3
                obtain ⟨y1, hv1⟩ : ∃ y1, y1 = nth L1 i1 := ⟨_, rfl⟩
                have HKp := Lib.hid (show ∀ wx : World, Below wv.heap.size wv wx → wx.cell? ⟨w.heap.size, 2, none⟩ = some (.slice (some ⟨ba, oa, none⟩) n3 c3) ∧ wx.cell? ⟨bp, op + t3, none⟩ = some (.int .i64 (i1 : Int)) ∧ wx.cell? ⟨ba, oa + i1, none⟩ = some (.string y1) from fun wx hb => by
                  have F := Fc.below hb
                  refine ⟨F.ra.cell 2, ?_, ?_⟩
                  · have := (hb.cell (p := ⟨bp, op + t3, none⟩) hbp).trans (hcp t3 hlt)
                    rw [hi1] at this
                    exact this
                  · rw [hv1]; exact (hb.cell (p := ⟨ba, oa + i1, none⟩) hba).trans (hca i1 hn1))
                have hys : ((GL.take (t3 + 1)).map fun j => nth L1 j.toNat) = ((GL.take t3).map fun j => nth L1 j.toNat) ++ [y1] := by
                  rw [take_snoc hlt, List.map_append, List.map_singleton, hi1, Int.toNat_natCast, hv1]
                obtain ⟨ys, hye⟩ : ∃ ys, ys = ((GL.take t3).map fun j => nth L1 j.toNat) := ⟨_, rfl⟩
                rw [← hye] at hO hys
                have HY := Lib.hid hys
                have HO := Lib.hid hO
                have G5 : Below wv.heap.size wv wo.drew := hbr.trans (below_drewN (Below.refl _ _) 1)
                have hk1 : t3 + 1 ≤ maxLen := by unfold maxLen; omega
                have hk2 : (t3 + 1) * 16 ≤ 140737488355328 := by omega
                have hz0 : (0 : Int) ≤ (t3 : Int) := by omega
                have hz1 : (t3 : Int) < (GL.length : Int) := by omega
                have hz2 : (0 : Int) ≤ (i1 : Int) := by omega
                have hz3 : (i1 : Int) < (n3 : Int) := by omega
                obtain ⟨⟨ix, e1, e2, e3, e4, e5⟩, _, _⟩ := eiSt
                clear hi1 hv1 hca hcp hye hys hO hbr Fc
                go_wp2_with fail
                refine wp_region_lastL (S := fun w' => w'.cell? ⟨w.heap.size, 2, none⟩ = some (.slice (some ⟨ba, oa, none⟩) n3 c3) ∧ w'.cell? ⟨bp, op + t3, none⟩ = some (.int .i64 (i1 : Int)) ∧ w'.cell? ⟨ba, oa + i1, none⟩ = some (.string y1)) 11 11 (by kernel_rfl) rfl rfl rfl (by kernel_rfl) ?hS401 (fun hHeld => ?rest401)
                case hS401 => (first | assumption | exact HKp.out _ G5 | exact HKp.out _ G7 | exact HKp.out _ G9 | go_keep)
                refine wpAnyH_takeL (i := 0) (v := ?v402) rfl (by kernel_rfl) (by kernel_rfl) (by kernel_rfl) (fun _ _ _ h => h) (by rfl) ?hy402 (by assumption) ?rest402
                case hy402 => (intro w hSw; (try dsimp only at hSw); go_simp; try with_reducible rfl)
                try simp only [Act.put, List.setIfInBounds_toArray, List.set_cons_zero, List.set_cons_succ]
                refine wpAnyH_takeL (i := 1) (v := ?v403) rfl (by kernel_rfl) (by kernel_rfl) (by kernel_rfl) (fun _ _ _ h => h) (by rfl) ?hy403 (by assumption) ?rest403
                case hy403 => (intro w hSw; (try dsimp only at hSw); go_simp; try with_reducible rfl)
                try simp only [Act.put, List.setIfInBounds_toArray, List.set_cons_zero, List.set_cons_succ]
                refine wpAnyH_takeL (i := 2) (v := ?v404) rfl (by kernel_rfl) (by kernel_rfl) (by kernel_rfl) (fun _ _ _ h => h) (by rfl) ?hy404 (by assumption) ?rest404
                case hy404 => (intro w hSw; (try dsimp only at hSw); go_simp; try with_reducible rfl)
                try simp only [Act.put, List.setIfInBounds_toArray, List.set_cons_zero, List.set_cons_succ]
                refine wpAnyH_takeL (i := 3) (v := ?v405) rfl (by kernel_rfl) (by kernel_rfl) (by kernel_rfl) (fun _ _ _ h => h) (by rfl) ?hy405 (by assumption) ?rest405
                case hy405 => (intro w hSw; (try dsimp only at hSw); go_simp; try with_reducible rfl)
                try simp only [Act.put, List.setIfInBounds_toArray, List.set_cons_zero, List.set_cons_succ]
                refine wpAnyH_takeL (i := 4) (v := ?v406) rfl (by kernel_rfl) (by kernel_rfl) (by kernel_rfl) (fun _ _ _ h => h) (by rfl) ?hy406 (by assumption) ?rest406
                case hy406 => (intro w hSw; (try dsimp only at hSw); go_simp; try with_reducible rfl)
                try simp only [Act.put, List.setIfInBounds_toArray, List.set_cons_zero, List.set_cons_succ]
                refine wpAnyH_takeL (i := 5) (v := ?v407) rfl (by kernel_rfl) (by kernel_rfl) (by kernel_rfl) (fun _ _ _ h => h) (by rfl) ?hy407 (by assumption) ?rest407
                case hy407 => (intro w hSw; (try dsimp only at hSw); go_simp; try with_reducible rfl)
                try simp only [Act.put, List.setIfInBounds_toArray, List.set_cons_zero, List.set_cons_succ]
                refine wpAnyH_takeL (i := 6) (v := ?v408) rfl (by kernel_rfl) (by kernel_rfl) (by kernel_rfl) (fun _ _ _ h => h) (by rfl) ?hy408 (by assumption) ?rest408
                case hy408 => (intro w hSw; (try dsimp only at hSw); go_simp; try with_reducible rfl)
                try simp only [Act.put, List.setIfInBounds_toArray, List.set_cons_zero, List.set_cons_succ]
                refine wpAnyH_takeL (i := 7) (v := ?v409) rfl (by kernel_rfl) (by kernel_rfl) (by kernel_rfl) (fun _ _ _ h => h) (by rfl) ?hy409 (by assumption) ?rest409
                case hy409 => (intro w hSw; (try dsimp only at hSw); go_simp; try with_reducible rfl)
                try simp only [Act.put, List.setIfInBounds_toArray, List.set_cons_zero, List.set_cons_succ]
                refine wpAnyH_takeL (i := 8) (v := ?v410) rfl (by kernel_rfl) (by kernel_rfl) (by kernel_rfl) (fun _ _ _ h => h) (by rfl) ?hy410 (by assumption) ?rest410
                case hy410 => (intro w hSw; (try dsimp only at hSw); go_simp; try with_reducible rfl)
                try simp only [Act.put, List.setIfInBounds_toArray, List.set_cons_zero, List.set_cons_succ]
                refine wpAnyH_ready (rs := [9]) (by kernel_rfl) (by simp) (consL rfl (fun K hK => ?step411))
                (go_simp; (have G7 : Below wv.heap.size wv (wo.alloc (.cells #[.string y1] 9)).drew := G5.alloc G5.size (.cells #[.string y1] 9)); (have ho7 : OwnR Value.string (wo.alloc (.cells #[.string y1] 9)).drew wv.heap.size 9 D3 t3 q3' ys := (HO.out.drewN 1).alloc (.cells #[.string y1] 9)); (have hz7 := G7.size); (have s7 : Sl Value.string (wo.alloc (.cells #[.string y1] 9)).drew (some ⟨wo.heap.size, 0, none⟩) 1 [y1] := Sl.one (enc := Value.string) wo.drew 9 y1); (generalize (wo.alloc (.cells #[.string y1] 9)).drew = w7 at G7 ho7 hz7 s7 ⊢))
                refine hK.out _ _ ?hS411 (fun hHeld => ?rest411)
                case hS411 => (first | assumption | exact HKp.out _ G5 | exact HKp.out _ G7 | exact HKp.out _ G9 | go_keep)
                clear hK K
                try simp only [Act.put, List.setIfInBounds_toArray, List.set_cons_zero, List.set_cons_succ]
                refine wpAnyH_ready (rs := [10]) (by kernel_rfl) (by simp) (consL rfl (fun K hK => ?step412))
                (refine step_append_sl _ Value.string (fun _ => rfl) (by rfl) (.tmp 254) (.tmp 263) 31 (by rfl) wv.heap.size 9 ix (.string ⟨#[]⟩) 16 e1 e2 e3 e4 e5 (by rfl) D3 t3 q3' ys (by rfl) ho7 _ 1 1 [y1] (by rfl) s7 hk1 hk2 hz7 ?_; intro D9 q9 w9 ho9 _ hb9 _; have G9 := G7.trans hb9)
                refine hK.out _ _ ?hS412 (fun hHeld => ?rest412)
                case hS412 => (first | assumption | exact HKp.out _ G5 | exact HKp.out _ G7 | exact HKp.out _ G9 | go_keep)
                clear hK K
                try simp only [Act.put, List.setIfInBounds_toArray, List.set_cons_zero, List.set_cons_succ]
                refine wpAnyH_done (by kernel_rfl) ?_ _
                unfold AheadOf
                go_simp

                have HR := Lib.hid (And.intro ho9 G9)
                clear ho9 G9 hb9 ho7 hz7 s7 G7 G5 hk1 hk2
                go_wp2_with fail
                refine ⟨⟨t3 + 1, D9, q9, by omega, rfl, by go_num, by rw [HY.out]; exact HR.out.1, HR.out.2⟩, by simp [intOf]; omega⟩
              · as_aux_lemma =>
                obtain rfl : t3 = GL.length := by omega
                rw [List.take_length] at hO
                have HS4 := Lib.hid (And.intro hO hbr)
                clear hO hbr hlt
                have hGw : Below ww.heap.size ww wr := HG4.out.1.trans (HS4.out.2.mono HG4.out.1.size)
                have C1 := (HF.out.below hGw).copy1 (by omega) b2 b3
                have u0 := (HF.out.below hGw).rc.cell 0
                have u1 := (HF.out.below hGw).rc.cell 1
                have u2 := (HF.out.below hGw).rc.cell 2
                have v0 := (HF.out.below hGw).rf.cell 0
                have v1 := (HF.out.below hGw).rf.cell 1
                have HGw := Lib.hid hGw
                clear hGw
                go_wp2_with fail
                refine (HGV.out M1 M2 M3 n1 p1 n2 p2 n3 p3 _ C1.1 C1.2.1 C1.2.2.1 (by omega) C1.2.2.2).mono ?_
                clear C1 u0 u1 u2 v0 v1
                rintro e r1 ⟨J1, j1, J2, j2, J3, j3, rfl, TJ, hb1⟩
                have hre := (HG3.out.1.below' HS4.out.2).below' hb1
                have x0 := hre.cell 0
                have x1 := hre.cell 1
                have x2 := hre.cell 2
                have fx0 := hre.frozen 0
                have fx1 := hre.frozen 1
                have fx2 := hre.frozen 2
                have HJ1 := Lib.hid (And.intro TJ hb1)
                clear TJ hb1 hre
                go_upto_region 37 with fail
                clear x0 x1 x2 fx0 fx1 fx2
                obtain ⟨wj, hwj⟩ : ∃ wj, wj = (((r1.setCell ⟨ge, 0, none⟩ (.slice J1 U3.length j1)).setCell ⟨ge, 1, none⟩ (.slice J2 U3.length j2)).setCell ⟨ge, 2, none⟩ (.slice J3 GL.length j3)) := ⟨_, rfl⟩
                have HM := Lib.hid (chk_mid HGw.out HGE.out (HG3.out.1.below' HS4.out.2) (HG3.out.2.1.below' HS4.out.2) HJ1.out.2 hwj)
                rw [← hwj]
                have HWJ := Lib.hid hwj
                clear hwj
                have C1 := (HF.out.below HM.out.1).copy1 (by omega) b2 b3
                have u0 := (HF.out.below HM.out.1).rc.cell 0
                have u1 := (HF.out.below HM.out.1).rc.cell 1
                have u2 := (HF.out.below HM.out.1).rc.cell 2
                have v0 := (HF.out.below HM.out.1).rf.cell 0
                have v1 := (HF.out.below HM.out.1).rf.cell 1
                go_wp2_with fail
                refine (HGV.out M1 M2 M3 n1 p1 n2 p2 n3 p3 _ C1.1 C1.2.1 C1.2.2.1 (by omega) C1.2.2.2).mono ?_
                clear C1 u0 u1 u2 v0 v1
                rintro e s1 ⟨K1, k1, K2, k2, K3, k3, rfl, TK, hb2⟩
                have hrf := HM.out.2.below' hb2
                have x0 := hrf.cell 0
                have x1 := hrf.cell 1
                have x2 := hrf.cell 2
                have fx0 := hrf.frozen 0
                have fx1 := hrf.frozen 1
                have fx2 := hrf.frozen 2
                have HTK := Lib.hid (And.intro TK hb2)
                clear TK hb2 hrf
                go_upto_region 38 with fail
                clear x0 x1 x2 fx0 fx1 fx2
                obtain ⟨wk, hwk⟩ : ∃ wk, wk = (((s1.setCell ⟨gf, 0, none⟩ (.slice K1 U3.length k1)).setCell ⟨gf, 1, none⟩ (.slice K2 U3.length k2)).setCell ⟨gf, 2, none⟩ (.slice K3 GL.length k3)) := ⟨_, rfl⟩
                rw [← hwk]
                have hUs : U3.length ≤ 140737488351232 := by have := HP3.out.2.2.1; have := HL.out.1; omega
                have hUb : (U3.length + 1) * 8 ≤ 140737488351232 := by have := HP3.out.2.2.1; have := HL.out.1; omega
                have hPs2 : GL.length ≤ 2147483647 := HP3.out.1
                have hPs : GL.length ≤ 140737488351232 := by omega
                have HK0 := Lib.hid (chk_two HGw.out HGG.out HGE.out HG1.out HG2.out (HG4.out.2.below' HS4.out.2) (HG3.out.1.below' HS4.out.2) (HG3.out.2.1.below' HS4.out.2) (HG3.out.2.2.1.below (Nat.le_refl _) HS4.out.2) (HG3.out.2.2.2.1.below (Nat.le_refl _) HS4.out.2) HS4.out.1 hUs hPs HJ1.out.1 HJ1.out.2 HWJ.out HTK.out.1 HTK.out.2 hwk)
                clear hwk HJ1 HTK HWJ HM HS4
                obtain ⟨Y3, hY3⟩ : ∃ Y3, Y3 = (GL.map fun j => nth L1 j.toNat) := ⟨_, rfl⟩
                rw [← hY3] at HK0
                clear hY3

                have x0 := HK0.out.1.re.cell 0
                have x1 := HK0.out.1.re.cell 1
                have x2 := HK0.out.1.re.cell 2
                have z0 := HK0.out.1.rs.cell 0
                have z1 := HK0.out.1.rs.cell 1
                have z2 := HK0.out.1.rs.cell 2
                go_wp2_with fail
                refine (is_t J1 J2 J3 A3' B3' D3 U3.length j1 U3.length j2 GL.length j3 U3.length c3' U3.length d3' GL.length q3' M3' U3 UZ3 Y3 _ (HK0.out.1.te.o1.sl hUs) (HK0.out.1.te.o2.sl hUs) (HK0.out.1.te.o3.sl hPs) HK0.out.1.sA HK0.out.1.sB HK0.out.1.sD).mono ?_
                rintro e z3 ⟨rfl, hb3⟩
                have K1 := HK0.out.1.below hb3
                have HK1 := Lib.hid (And.intro K1 (HK0.out.2.trans (hb3.mono HK0.out.2.size)))
                clear x0 x1 x2 z0 z1 z2 hb3 HK0
                have x0 := K1.rf.cell 0
                have x1 := K1.rf.cell 1
                have x2 := K1.rf.cell 2
                have z0 := K1.rs.cell 0
                have z1 := K1.rs.cell 1
                have z2 := K1.rs.cell 2
                clear K1
                go_wp2_with fail
                refine (is_t K1 K2 K3 A3' B3' D3 U3.length k1 U3.length k2 GL.length k3 U3.length c3' U3.length d3' GL.length q3' M3' U3 UZ3 Y3 _ (HK1.out.1.tf.o1.sl hUs) (HK1.out.1.tf.o2.sl hUs) (HK1.out.1.tf.o3.sl hPs) HK1.out.1.sA HK1.out.1.sB HK1.out.1.sD).mono ?_
                rintro e z4 ⟨rfl, hb4⟩
                have K2 := HK1.out.1.below hb4
                have HK2 := Lib.hid (And.intro K2 (HK1.out.2.trans (hb4.mono HK1.out.2.size)))
                clear x0 x1 x2 z0 z1 z2 hb4 HK1
                have x0 := K2.re.cell 0
                have x1 := K2.re.cell 1
                have x2 := K2.re.cell 2
                clear K2
                go_wp2_with fail
                refine (spoilt_s _ J1 J2 J3 U3.length j1 j2 GL.length j3 U3 UZ3 Y3 mark _ HK2.out.1.te ?_ (by omega) (by omega)).mono ?_
                · exact HK2.out.1.sz
                rintro e z5 ⟨rfl, ht5⟩
                have HK3 := Lib.hid (And.intro (HK2.out.1.spoil ht5) (HK2.out.2.trans (ht5.below HK2.out.2.size (fun y h1 h2 => by have := HK2.out.1.aE y h2; have := HK2.out.1.b0be; omega))))
                clear x0 x1 x2 ht5 HK2
                obtain ⟨⟨rs, re, rf⟩, _, _⟩ := HK3.out.1
                have x0 := rf.cell 0
                have x1 := rf.cell 1
                have x2 := rf.cell 2
                have z0 := rs.cell 0
                have z1 := rs.cell 1
                have z2 := rs.cell 2
                clear rs re rf
                go_wp2_with fail
                refine (is_t K1 K2 K3 A3' B3' D3 U3.length k1 U3.length k2 GL.length k3 U3.length c3' U3.length d3' GL.length q3' M3' U3 UZ3 Y3 _ (HK3.out.1.2.2.o1.sl hUs) (HK3.out.1.2.2.o2.sl hUs) (HK3.out.1.2.2.o3.sl hPs) HK3.out.1.2.1.1 HK3.out.1.2.1.2.1 HK3.out.1.2.1.2.2).mono ?_
                rintro e z6 ⟨rfl, hb6⟩
                have G6 := HK3.out.2.trans (hb6.mono HK3.out.2.size)
                have R6 := And.intro (HK3.out.1.1.1.below' hb6) (And.intro (HK3.out.1.1.2.1.below' hb6) (HK3.out.1.1.2.2.below' hb6))
                clear x0 x1 x2 z0 z1 z2 hb6 HK3

                have HG6 := Lib.hid G6
                clear G6 R6 HG1 HG2 HG3 HG4 HGG HGV HP3 hUs hUb hPs hPs2 HGw HGE hGL ht3
                have a0 := (HF.out.below HG6.out).ra.cell 0
                have a1 := (HF.out.below HG6.out).ra.cell 1
                have a2 := (HF.out.below HG6.out).ra.cell 2
                go_wp2_with fail
                refine (shape_s A1 A2 A3 n1 c1 n2 c2 n3 c3 _).mono ?_
                rintro e wq1 ⟨rfl, hb⟩
                have HG7 := Lib.hid (HG6.out.trans (hb.mono HG6.out.size))
                clear HG6 hb a0 a1 a2
                go_wp2_with fail
                refine (rcell_any A1 A2 X n1 c1 n2 c2 n3 nx cx S1 Z1 XS _ (HF.out.below HG7.out).h1 (HF.out.below HG7.out).h2 (HF.out.below HG7.out).hx).mono ?_
                rintro e wq2 ⟨rfl, hb⟩
                have HG8 := Lib.hid (HG7.out.trans (hb.mono HG7.out.size))
                clear HG7 hb
                have C1 := (HF.out.below HG8.out).copy1 (by omega) b2 b3
                have u0 := (HF.out.below HG8.out).rc.cell 0
                have u1 := (HF.out.below HG8.out).rc.cell 1
                have u2 := (HF.out.below HG8.out).rc.cell 2
                obtain ⟨hcu, hcv⟩ := cell_u S1 Z1 L1 XS
                have hl3 := HL.out.2.2.1
                rw [hl3] at hcu hcv
                generalize (rcellF S1 Z1 n3 XS).1 = at4 at hcv ⊢
                generalize (rcellF S1 Z1 n3 XS).2 = err4 at hcu ⊢
                have HCU := Lib.hid (And.intro hcu hcv)
                clear hcu hcv
                go_wp2_with fail
                refine (cell_s M1 M2 M3 X n1 p1 n2 p2 n3 p3 nx cx S1 Z1 L1 XS _ C1.1 C1.2.1 C1.2.2.1 (HF.out.below HG8.out).hx).mono ?_
                clear C1 u0 u1 u2
                intro e wq3 hce0
                obtain ⟨hcu, hcv⟩ := HCU.out
                have hce : (∃ cv : ByteArray, e = .returned (.tuple #[.string cv, .int .i64 err4]) ∧ (err4 = 0 → ∃ i : Nat, at4 = (i : Int) ∧ i < n3 ∧ cv = nth L1 i)) ∧ Below wq2.heap.size wq2 wq3 := by
                  obtain ⟨h, hb⟩ := hce0
                  rw [hl3] at h
                  refine ⟨?_, hb⟩
                  rcases h with ⟨h0, h1⟩ | ⟨h0, h1⟩
                  · exact ⟨_, by rw [hcu]; exact h1, fun e0 => absurd (hcu.symm.trans e0) h0⟩
                  · exact ⟨_, by rw [hcu, h0]; exact h1, fun _ => ⟨_, (hcv h0).1, (hcv h0).2, rfl⟩⟩
                clear hce0
                obtain ⟨⟨cv, rfl, hcw⟩, hb⟩ := hce
                have HG9 := Lib.hid (HG8.out.trans (hb.mono HG8.out.size))
                have HCW := Lib.hid hcw
                clear HG8 HCU hb hcw hcu hcv hl3
                go_upto_region 42 with fail
                go_cut [19, 23, 32, 33, 349] from 316 to 348 (fun _ _ _ _ s wx => s = .bool false ∧ Below ww.heap.size ww wx)
                case first => as_aux_lemma =>
                  by_cases he : err4 = 0
                  · subst he
                    obtain ⟨i, rfl, hi, rfl⟩ := HCW.out rfl
                    have Fc := HF.out.below HG9.out
                    obtain ⟨ba, oa, eA3, hba, hca⟩ := Fc.h3.at' (by omega)
                    have HEA := Lib.hid eA3
                    clear eA3
                    obtain ⟨y1, hv1⟩ : ∃ y1, y1 = nth L1 i := ⟨_, rfl⟩
                    have HKq := Lib.hid (show ∀ wx : World, Below ww.heap.size ww wx → wx.cell? ⟨w.heap.size, 2, none⟩ = some (.slice (some ⟨ba, oa, none⟩) n3 c3) ∧ wx.cell? ⟨ba, oa + i, none⟩ = some (.string y1) from fun wx hb => by
                      have F := HF.out.below hb
                      have hc := F.h3
                      have hr := F.ra.cell 2
                      rw [HEA.out] at hc
                      simp only [HEA.out] at hr
                      have hc := hc.cellS (j := i) hi
                      rw [← hv1] at hc
                      exact ⟨hr, hc⟩)
                    have hz2 : (0 : Int) ≤ (i : Int) := by omega
                    have hz3 : (i : Int) < (n3 : Int) := by omega
                    have hna := aheadSame_s
                    have hma := methodSame_s
                    have hself : sameF_s y1 y1 = true := by simp [sameF_s]
                    rw [← hv1]
                    clear hca hv1 Fc hi
                    have G0 : Below ww.heap.size ww wq3.drew := HG9.out.trans (below_drewN (Below.refl _ _) 1)
                    refine wp_region_held_drew (S := fun w' => w'.cell? ⟨w.heap.size, 2, none⟩ = some (.slice (some ⟨ba, oa, none⟩) n3 c3) ∧ w'.cell? ⟨ba, oa + i, none⟩ = some (.string y1)) (by kernel_rfl) ?hS501 (fun hHeld => ?rest501)
                    case hS501 => (first | assumption | exact HKq.out _ G0 | go_keep)
                    refine wpAnyH_takeL (i := 0) (v := ?v502) rfl (by kernel_rfl) (by kernel_rfl) (by kernel_rfl) (fun _ _ _ h => h) (by rfl) ?hy502 (by assumption) ?rest502
                    case hy502 => (intro w hSw; (try dsimp only at hSw); go_simp; try with_reducible rfl)
                    try simp only [Act.put, List.setIfInBounds_toArray, List.set_cons_zero, List.set_cons_succ]
                    refine wpAnyH_takeL (i := 1) (v := ?v503) rfl (by kernel_rfl) (by kernel_rfl) (by kernel_rfl) (fun _ _ _ h => h) (by rfl) ?hy503 (by assumption) ?rest503
                    case hy503 => (intro w hSw; (try dsimp only at hSw); go_simp; try with_reducible rfl)
                    try simp only [Act.put, List.setIfInBounds_toArray, List.set_cons_zero, List.set_cons_succ]
                    refine wpAnyH_takeL (i := 2) (v := ?v504) rfl (by kernel_rfl) (by kernel_rfl) (by kernel_rfl) (fun _ _ _ h => h) (by rfl) ?hy504 (by assumption) ?rest504
                    case hy504 => (intro w hSw; (try dsimp only at hSw); go_simp; try with_reducible rfl)
                    try simp only [Act.put, List.setIfInBounds_toArray, List.set_cons_zero, List.set_cons_succ]
                    refine wpAnyH_takeL (i := 3) (v := ?v505) rfl (by kernel_rfl) (by kernel_rfl) (by kernel_rfl) (fun _ _ _ h => h) (by rfl) ?hy505 (by assumption) ?rest505
                    case hy505 => (intro w hSw; (try dsimp only at hSw); go_simp; try with_reducible rfl)
                    try simp only [Act.put, List.setIfInBounds_toArray, List.set_cons_zero, List.set_cons_succ]
                    refine wpAnyH_takeL (i := 4) (v := ?v506) rfl (by kernel_rfl) (by kernel_rfl) (by kernel_rfl) (fun _ _ _ h => h) (by rfl) ?hy506 (by assumption) ?rest506
                    case hy506 => (intro w hSw; (try dsimp only at hSw); go_simp; try with_reducible rfl)
                    try simp only [Act.put, List.setIfInBounds_toArray, List.set_cons_zero, List.set_cons_succ]
                    refine wpAnyH_takeL (i := 5) (v := ?v507) rfl (by kernel_rfl) (by kernel_rfl) (by kernel_rfl) (fun _ _ _ h => h) (by rfl) ?hy507 (by assumption) ?rest507
                    case hy507 => (intro w hSw; (try dsimp only at hSw); go_simp; try with_reducible rfl)
                    try simp only [Act.put, List.setIfInBounds_toArray, List.set_cons_zero, List.set_cons_succ]
                    refine wpAnyH_takeL (i := 6) (v := ?v508) rfl (by kernel_rfl) (by kernel_rfl) (by kernel_rfl) (fun _ _ _ h => h) (by rfl) ?hy508 (by assumption) ?rest508
                    case hy508 => (intro w hSw; (try dsimp only at hSw); go_simp; try with_reducible rfl)
                    try simp only [Act.put, List.setIfInBounds_toArray, List.set_cons_zero, List.set_cons_succ]
                    refine wpAnyH_takeL (i := 7) (v := ?v509) rfl (by kernel_rfl) (by kernel_rfl) (by kernel_rfl) (fun _ _ _ h => h) (by rfl) ?hy509 (by assumption) ?rest509
                    case hy509 => (intro w hSw; (try dsimp only at hSw); go_simp; try with_reducible rfl)
                    try simp only [Act.put, List.setIfInBounds_toArray, List.set_cons_zero, List.set_cons_succ]
                    refine wpAnyH_takeL (i := 8) (v := ?v510) rfl (by kernel_rfl) (by kernel_rfl) (by kernel_rfl) (fun _ _ _ h => h) (by rfl) ?hy510 (by assumption) ?rest510
                    case hy510 => (intro w hSw; (try dsimp only at hSw); go_simp; try with_reducible rfl)
                    try simp only [Act.put, List.setIfInBounds_toArray, List.set_cons_zero, List.set_cons_succ]
                    refine wpAnyH_takeL (i := 9) (v := ?v511) rfl (by kernel_rfl) (by kernel_rfl) (by kernel_rfl) (fun _ _ _ h => h) (by rfl) ?hy511 (by assumption) ?rest511
                    case hy511 => (intro w hSw; (try dsimp only at hSw); go_simp; try with_reducible rfl)
                    try simp only [Act.put, List.setIfInBounds_toArray, List.set_cons_zero, List.set_cons_succ]
                    refine wpAnyH_takeL (i := 10) (v := ?v512) rfl (by kernel_rfl) (by kernel_rfl) (by kernel_rfl) (fun _ _ _ h => h) (by rfl) ?hy512 (by assumption) ?rest512
                    case hy512 => (intro w hSw; (try dsimp only at hSw); go_simp; try with_reducible rfl)
                    try simp only [Act.put, List.setIfInBounds_toArray, List.set_cons_zero, List.set_cons_succ]
                    refine wpAnyH_takeL (i := 11) (v := ?v513) rfl (by kernel_rfl) (by kernel_rfl) (by kernel_rfl) (fun _ _ _ h => h) (by rfl) ?hy513 (by assumption) ?rest513
                    case hy513 => (intro w hSw; (try dsimp only at hSw); go_simp; try with_reducible rfl)
                    try simp only [Act.put, List.setIfInBounds_toArray, List.set_cons_zero, List.set_cons_succ]
                    refine wpAnyH_takeL (i := 12) (v := ?v514) rfl (by kernel_rfl) (by kernel_rfl) (by kernel_rfl) (fun _ _ _ h => h) (by rfl) ?hy514 (by assumption) ?rest514
                    case hy514 => (intro w hSw; (try dsimp only at hSw); go_simp; try with_reducible rfl)
                    try simp only [Act.put, List.setIfInBounds_toArray, List.set_cons_zero, List.set_cons_succ]
                    refine wpAnyH_takeL (i := 13) (v := ?v515) rfl (by kernel_rfl) (by kernel_rfl) (by kernel_rfl) (fun _ _ _ h => h) (by rfl) ?hy515 (by assumption) ?rest515
                    case hy515 => (intro w hSw; (try dsimp only at hSw); go_simp; try with_reducible rfl)
                    try simp only [Act.put, List.setIfInBounds_toArray, List.set_cons_zero, List.set_cons_succ]
                    refine wpAnyH_takeL (i := 14) (v := ?v516) rfl (by kernel_rfl) (by kernel_rfl) (by kernel_rfl) (fun _ _ _ h => h) (by rfl) ?hy516 (by assumption) ?rest516
                    case hy516 => (intro w hSw; (try dsimp only at hSw); go_simp; try with_reducible rfl)
                    try simp only [Act.put, List.setIfInBounds_toArray, List.set_cons_zero, List.set_cons_succ]
                    refine wpAnyH_takeL (i := 15) (v := ?v517) rfl (by kernel_rfl) (by kernel_rfl) (by kernel_rfl) (fun _ _ _ h => h) (by rfl) ?hy517 (by assumption) ?rest517
                    case hy517 => (intro w hSw; (try dsimp only at hSw); go_simp; try with_reducible rfl)
                    try simp only [Act.put, List.setIfInBounds_toArray, List.set_cons_zero, List.set_cons_succ]
                    refine wpAnyH_takeL (i := 16) (v := ?v518) rfl (by kernel_rfl) (by kernel_rfl) (by kernel_rfl) (fun _ _ _ h => h) (by rfl) ?hy518 (by assumption) ?rest518
                    case hy518 => (intro w hSw; (try dsimp only at hSw); go_simp; try with_reducible rfl)
                    try simp only [Act.put, List.setIfInBounds_toArray, List.set_cons_zero, List.set_cons_succ]
                    refine wpAnyH_ready (rs := [17]) (by kernel_rfl) (by simp) (consL rfl (fun K hK => ?step519))
                    (go_simp; (refine (sameC_s y1 y1 _).mono ?_); (rintro e wq4 ⟨rfl, hb4⟩); (have G0 := G0.trans (hb4.mono G0.size)))
                    refine hK.out _ _ ?hS519 (fun hHeld => ?rest519)
                    case hS519 => (first | assumption | exact HKq.out _ G0 | go_keep)
                    clear hK K
                    try simp only [Act.put, List.setIfInBounds_toArray, List.set_cons_zero, List.set_cons_succ]
                    refine wpAnyH_takeL (i := 18) (v := ?v520) rfl (by kernel_rfl) (by kernel_rfl) (by kernel_rfl) (fun _ _ _ h => h) (by rfl) ?hy520 (by assumption) ?rest520
                    case hy520 => (intro w hSw; (try dsimp only at hSw); go_simp; try with_reducible rfl)
                    try simp only [Act.put, List.setIfInBounds_toArray, List.set_cons_zero, List.set_cons_succ]
                    refine wpAnyH_takeL (i := 19) (v := ?v521) rfl (by kernel_rfl) (by kernel_rfl) (by kernel_rfl) (fun _ _ _ h => h) (by rfl) ?hy521 (by assumption) ?rest521
                    case hy521 => (intro w hSw; (try dsimp only at hSw); go_simp; try with_reducible rfl)
                    try simp only [Act.put, List.setIfInBounds_toArray, List.set_cons_zero, List.set_cons_succ]
                    refine wpAnyH_takeL (i := 20) (v := ?v522) rfl (by kernel_rfl) (by kernel_rfl) (by kernel_rfl) (fun _ _ _ h => h) (by rfl) ?hy522 (by assumption) ?rest522
                    case hy522 => (intro w hSw; (try dsimp only at hSw); go_simp; try with_reducible rfl)
                    try simp only [Act.put, List.setIfInBounds_toArray, List.set_cons_zero, List.set_cons_succ]
                    refine wpAnyH_done (by kernel_rfl) ?_ _
                    go_simp
                    (try go_wp2_with fail)
                    go_meet
                    case rel => exact ⟨rfl, G0⟩
                  · have hne : (decide (err4 = 0)) = false := by simpa using he
                    have hne' : (err4 == 0) = false := by simpa using he
                    have G0 : Below ww.heap.size ww wq3.drew := HG9.out.trans (below_drewN (Below.refl _ _) 1)
                    refine wp_region_held_drew (S := fun w' => True) (by kernel_rfl) ?hS523 (fun hHeld => ?rest523)
                    case hS523 => trivial
                    refine wpAnyH_takeL (i := 0) (v := ?v524) rfl (by kernel_rfl) (by kernel_rfl) (by kernel_rfl) (fun _ _ _ h => h) (by rfl) ?hy524 (by assumption) ?rest524
                    case hy524 => (intro w hSw; (try dsimp only at hSw); go_simp; try with_reducible rfl)
                    try simp only [Act.put, List.setIfInBounds_toArray, List.set_cons_zero, List.set_cons_succ]
                    refine wpAnyH_takeL (i := 1) (v := ?v525) rfl (by kernel_rfl) (by kernel_rfl) (by kernel_rfl) (fun _ _ _ h => h) (by rfl) ?hy525 (by assumption) ?rest525
                    case hy525 => (intro w hSw; (try dsimp only at hSw); go_simp; try with_reducible rfl)
                    try simp only [Act.put, List.setIfInBounds_toArray, List.set_cons_zero, List.set_cons_succ]
                    refine wpAnyH_takeL (i := 2) (v := ?v526) rfl (by kernel_rfl) (by kernel_rfl) (by kernel_rfl) (fun _ _ _ h => h) (by rfl) ?hy526 (by assumption) ?rest526
                    case hy526 => (intro w hSw; (try dsimp only at hSw); go_simp; try with_reducible rfl)
                    try simp only [Act.put, List.setIfInBounds_toArray, List.set_cons_zero, List.set_cons_succ]
                    refine wpAnyH_takeL (i := 3) (v := ?v527) rfl (by kernel_rfl) (by kernel_rfl) (by kernel_rfl) (fun _ _ _ h => h) (by rfl) ?hy527 (by assumption) ?rest527
                    case hy527 => (intro w hSw; (try dsimp only at hSw); go_simp; try with_reducible rfl)
                    try simp only [Act.put, List.setIfInBounds_toArray, List.set_cons_zero, List.set_cons_succ]
                    refine wpAnyH_takeL (i := 4) (v := ?v528) rfl (by kernel_rfl) (by kernel_rfl) (by kernel_rfl) (fun _ _ _ h => h) (by rfl) ?hy528 (by assumption) ?rest528
                    case hy528 => (intro w hSw; (try dsimp only at hSw); go_simp; try with_reducible rfl)
                    try simp only [Act.put, List.setIfInBounds_toArray, List.set_cons_zero, List.set_cons_succ]
                    refine wpAnyH_takeL (i := 5) (v := ?v529) rfl (by kernel_rfl) (by kernel_rfl) (by kernel_rfl) (fun _ _ _ h => h) (by rfl) ?hy529 (by assumption) ?rest529
                    case hy529 => (intro w hSw; (try dsimp only at hSw); go_simp; try with_reducible rfl)
                    try simp only [Act.put, List.setIfInBounds_toArray, List.set_cons_zero, List.set_cons_succ]
                    refine wpAnyH_takeL (i := 6) (v := ?v530) rfl (by kernel_rfl) (by kernel_rfl) (by kernel_rfl) (fun _ _ _ h => h) (by rfl) ?hy530 (by assumption) ?rest530
                    case hy530 => (intro w hSw; (try dsimp only at hSw); go_simp; try with_reducible rfl)
                    try simp only [Act.put, List.setIfInBounds_toArray, List.set_cons_zero, List.set_cons_succ]
                    refine wpAnyH_skipL (i := 7) rfl (by kernel_rfl) (by kernel_rfl) (by kernel_rfl) (fun _ _ _ h => h) (by rfl) (by assumption) ?rest531
                    try simp only [Act.put, List.setIfInBounds_toArray, List.set_cons_zero, List.set_cons_succ]
                    refine wpAnyH_skipL (i := 8) rfl (by kernel_rfl) (by kernel_rfl) (by kernel_rfl) (fun _ _ _ h => h) (by rfl) (by assumption) ?rest532
                    try simp only [Act.put, List.setIfInBounds_toArray, List.set_cons_zero, List.set_cons_succ]
                    refine wpAnyH_skipL (i := 9) rfl (by kernel_rfl) (by kernel_rfl) (by kernel_rfl) (fun _ _ _ h => h) (by rfl) (by assumption) ?rest533
                    try simp only [Act.put, List.setIfInBounds_toArray, List.set_cons_zero, List.set_cons_succ]
                    refine wpAnyH_skipL (i := 10) rfl (by kernel_rfl) (by kernel_rfl) (by kernel_rfl) (fun _ _ _ h => h) (by rfl) (by assumption) ?rest534
                    try simp only [Act.put, List.setIfInBounds_toArray, List.set_cons_zero, List.set_cons_succ]
                    refine wpAnyH_skipL (i := 11) rfl (by kernel_rfl) (by kernel_rfl) (by kernel_rfl) (fun _ _ _ h => h) (by rfl) (by assumption) ?rest535
                    try simp only [Act.put, List.setIfInBounds_toArray, List.set_cons_zero, List.set_cons_succ]
                    refine wpAnyH_skipL (i := 12) rfl (by kernel_rfl) (by kernel_rfl) (by kernel_rfl) (fun _ _ _ h => h) (by rfl) (by assumption) ?rest536
                    try simp only [Act.put, List.setIfInBounds_toArray, List.set_cons_zero, List.set_cons_succ]
                    refine wpAnyH_skipL (i := 13) rfl (by kernel_rfl) (by kernel_rfl) (by kernel_rfl) (fun _ _ _ h => h) (by rfl) (by assumption) ?rest537
                    try simp only [Act.put, List.setIfInBounds_toArray, List.set_cons_zero, List.set_cons_succ]
                    refine wpAnyH_skipL (i := 14) rfl (by kernel_rfl) (by kernel_rfl) (by kernel_rfl) (fun _ _ _ h => h) (by rfl) (by assumption) ?rest538
                    try simp only [Act.put, List.setIfInBounds_toArray, List.set_cons_zero, List.set_cons_succ]
                    refine wpAnyH_skipL (i := 15) rfl (by kernel_rfl) (by kernel_rfl) (by kernel_rfl) (fun _ _ _ h => h) (by rfl) (by assumption) ?rest539
                    try simp only [Act.put, List.setIfInBounds_toArray, List.set_cons_zero, List.set_cons_succ]
                    refine wpAnyH_skipL (i := 16) rfl (by kernel_rfl) (by kernel_rfl) (by kernel_rfl) (fun _ _ _ h => h) (by rfl) (by assumption) ?rest540
                    try simp only [Act.put, List.setIfInBounds_toArray, List.set_cons_zero, List.set_cons_succ]
                    refine wpAnyH_skipL (i := 17) rfl (by kernel_rfl) (by kernel_rfl) (by kernel_rfl) (fun _ _ _ h => h) (by rfl) (by assumption) ?rest541
                    try simp only [Act.put, List.setIfInBounds_toArray, List.set_cons_zero, List.set_cons_succ]
                    refine wpAnyH_skipL (i := 18) rfl (by kernel_rfl) (by kernel_rfl) (by kernel_rfl) (fun _ _ _ h => h) (by rfl) (by assumption) ?rest542
                    try simp only [Act.put, List.setIfInBounds_toArray, List.set_cons_zero, List.set_cons_succ]
                    refine wpAnyH_takeL (i := 19) (v := ?v543) rfl (by kernel_rfl) (by kernel_rfl) (by kernel_rfl) (fun _ _ _ h => h) (by rfl) ?hy543 (by assumption) ?rest543
                    case hy543 => (intro w hSw; (try dsimp only at hSw); go_simp; try with_reducible rfl)
                    try simp only [Act.put, List.setIfInBounds_toArray, List.set_cons_zero, List.set_cons_succ]
                    refine wpAnyH_takeL (i := 20) (v := ?v544) rfl (by kernel_rfl) (by kernel_rfl) (by kernel_rfl) (fun _ _ _ h => h) (by rfl) ?hy544 (by assumption) ?rest544
                    case hy544 => (intro w hSw; (try dsimp only at hSw); go_simp; try with_reducible rfl)
                    try simp only [Act.put, List.setIfInBounds_toArray, List.set_cons_zero, List.set_cons_succ]
                    refine wpAnyH_done (by kernel_rfl) ?_ _
                    go_simp
                    (try go_wp2_with fail)
                    go_meet
                    case rel => exact ⟨rfl, G0⟩
                case rest =>
                  obtain ⟨rfl, hG⟩ := hcut
                  obtain ⟨wcc, hwcc⟩ : ∃ wcc : World, wcc = wc := ⟨_, rfl⟩
                  subst hwcc
                  have HGA := Lib.hid hG
                  clear hG HG9 HCW
                  obtain ⟨k1, hk1⟩ : ∃ k, checkC S1 Z1 n3 = k := ⟨_, rfl⟩
                  obtain ⟨k2, hk2⟩ : ∃ k, checkC S2 Z2 m3 = k := ⟨_, rfl⟩
                  obtain ⟨al, hal⟩ : ∃ al : Bool, al = (decide (k1 = 0) && (decide (k2 = 0) && (decide (S2 = S1) && decide (Z2 = Z1) && decide (L2 = L1)))) := ⟨_, rfl⟩
                  have hsa : sameT_s S1 Z1 L1 S2 Z2 L2 = al := by rw [hal, sameT_eq, HL.out.2.2.1, HL.out.2.2.2.2.2, hk1, hk2]
                  have hsx : sameT_s S1 Z1 L1 S1 Z1 L1 = decide (k1 = 0) := by rw [sameT_eq, HL.out.2.2.1, hk1]; simp
                  have HC := Lib.hid (And.intro hk1 hk2)
                  have HAL := Lib.hid hal
                  have HSS := Lib.hid (And.intro hsa hsx)
                  clear hk1 hk2 hal hsa hsx
                  have HK4 := Lib.hid (show ∀ wx : World, Below ww.heap.size ww wx → ((wx.cell? ⟨w.heap.size, 0, none⟩ = some (.slice A1 n1 c1) ∧ wx.cell? ⟨w.heap.size, 1, none⟩ = some (.slice A2 n2 c2) ∧ wx.cell? ⟨w.heap.size, 2, none⟩ = some (.slice A3 n3 c3)) ∧ wx.cell? ⟨w.heap.size + 1, 0, none⟩ = some (.slice B1 m1 d1) ∧ wx.cell? ⟨w.heap.size + 1, 1, none⟩ = some (.slice B2 m2 d2) ∧ wx.cell? ⟨w.heap.size + 1, 2, none⟩ = some (.slice B3 m3 d3)) ∧ (wx.cell? ⟨g3, 0, none⟩ = some (.slice M1 n1 p1) ∧ wx.cell? ⟨g3, 1, none⟩ = some (.slice M2 n2 p2) ∧ wx.cell? ⟨g3, 2, none⟩ = some (.slice M3 n3 p3)) ∧ wx.cell? ⟨g4, 0, none⟩ = some (.slice N1 m1 q1) ∧ wx.cell? ⟨g4, 1, none⟩ = some (.slice N2 m2 q2) ∧ wx.cell? ⟨g4, 2, none⟩ = some (.slice N3 m3 q3) from fun wx hb => by
                    have F := HF.out.below hb
                    exact ⟨⟨⟨F.ra.cell 0, F.ra.cell 1, F.ra.cell 2⟩, F.rb.cell 0, F.rb.cell 1, F.rb.cell 2⟩, ⟨F.rc.cell 0, F.rc.cell 1, F.rc.cell 2⟩, F.rd.cell 0, F.rd.cell 1, F.rd.cell 2⟩)
                  go_upto_region 44 with fail
                  go_cut [34] from 350 to 368 (fun s wx => s = .bool al ∧ Below ww.heap.size ww wx)
                  case first => as_aux_lemma =>
                    have G0 : Below ww.heap.size ww wcc.drew := HGA.out.trans (below_drewN (Below.refl _ _) 1)
                    by_cases h1 : k1 = 0
                    · by_cases h2 : k2 = 0
                      · subst h1 h2
                        refine wp_region_held_drew (S := fun w' => (w'.cell? ⟨w.heap.size, 0, none⟩ = some (.slice A1 n1 c1) ∧ w'.cell? ⟨w.heap.size, 1, none⟩ = some (.slice A2 n2 c2) ∧ w'.cell? ⟨w.heap.size, 2, none⟩ = some (.slice A3 n3 c3)) ∧ w'.cell? ⟨w.heap.size + 1, 0, none⟩ = some (.slice B1 m1 d1) ∧ w'.cell? ⟨w.heap.size + 1, 1, none⟩ = some (.slice B2 m2 d2) ∧ w'.cell? ⟨w.heap.size + 1, 2, none⟩ = some (.slice B3 m3 d3)) (by kernel_rfl) ?hS643 (fun hHeld => ?rest643)
                        case hS643 => (first | assumption | exact (HK4.out _ G0).1 | exact HK4.out _ G0 | go_keep)
                        refine wpAnyH_takeL (i := 0) (v := ?v644) rfl (by kernel_rfl) (by kernel_rfl) (by kernel_rfl) (fun _ _ _ h => h) (by rfl) ?hy644 (by assumption) ?rest644
                        case hy644 => (intro w hSw; (try dsimp only at hSw); go_simp; try with_reducible rfl)
                        try simp only [Act.put, List.setIfInBounds_toArray, List.set_cons_zero, List.set_cons_succ]
                        refine wpAnyH_ready (rs := [1]) (by kernel_rfl) (by simp) (consL rfl (fun K hK => ?step645))
                        (go_simp; (refine (shape_s A1 A2 A3 n1 c1 n2 c2 n3 c3 _).mono ?_); (rintro e v4 ⟨rfl, hb⟩); (have G0 := G0.trans (hb.mono G0.size)); clear hb)
                        refine hK.out _ _ ?hS645 (fun hHeld => ?rest645)
                        case hS645 => (first | assumption | exact (HK4.out _ G0).1 | exact HK4.out _ G0 | go_keep)
                        clear hK K
                        try simp only [Act.put, List.setIfInBounds_toArray, List.set_cons_zero, List.set_cons_succ]
                        refine wpAnyH_ready (rs := [2]) (by kernel_rfl) (by simp) (consL rfl (fun K hK => ?step646))
                        (go_simp; (refine (rcheck_any A1 A2 n1 c1 n2 c2 n3 S1 Z1 _ (HF.out.below G0).h1 (HF.out.below G0).h2).mono ?_); (rintro e v4 ⟨he, hb⟩); (rw [HC.out.1] at he); (subst he); (have G0 := G0.trans (hb.mono G0.size)); clear hb)
                        refine hK.out _ _ ?hS646 (fun hHeld => ?rest646)
                        case hS646 => (first | assumption | exact (HK4.out _ G0).1 | exact HK4.out _ G0 | go_keep)
                        clear hK K
                        try simp only [Act.put, List.setIfInBounds_toArray, List.set_cons_zero, List.set_cons_succ]
                        refine wpAnyH_takeL (i := 3) (v := ?v647) rfl (by kernel_rfl) (by kernel_rfl) (by kernel_rfl) (fun _ _ _ h => h) (by rfl) ?hy647 (by assumption) ?rest647
                        case hy647 => (intro w hSw; (try dsimp only at hSw); go_simp; try with_reducible rfl)
                        try simp only [Act.put, List.setIfInBounds_toArray, List.set_cons_zero, List.set_cons_succ]
                        refine wpAnyH_takeL (i := 4) (v := ?v648) rfl (by kernel_rfl) (by kernel_rfl) (by kernel_rfl) (fun _ _ _ h => h) (by rfl) ?hy648 (by assumption) ?rest648
                        case hy648 => (intro w hSw; (try dsimp only at hSw); go_simp; try with_reducible rfl)
                        try simp only [Act.put, List.setIfInBounds_toArray, List.set_cons_zero, List.set_cons_succ]
                        refine wpAnyH_takeL (i := 5) (v := ?v649) rfl (by kernel_rfl) (by kernel_rfl) (by kernel_rfl) (fun _ _ _ h => h) (by rfl) ?hy649 (by assumption) ?rest649
                        case hy649 => (intro w hSw; (try dsimp only at hSw); go_simp; try with_reducible rfl)
                        try simp only [Act.put, List.setIfInBounds_toArray, List.set_cons_zero, List.set_cons_succ]
                        refine wpAnyH_ready (rs := [6]) (by kernel_rfl) (by simp) (consL rfl (fun K hK => ?step650))
                        (go_simp; (refine (shape_s B1 B2 B3 m1 d1 m2 d2 m3 d3 _).mono ?_); (rintro e v4 ⟨rfl, hb⟩); (have G0 := G0.trans (hb.mono G0.size)); clear hb)
                        refine hK.out _ _ ?hS650 (fun hHeld => ?rest650)
                        case hS650 => (first | assumption | exact (HK4.out _ G0).1 | exact HK4.out _ G0 | go_keep)
                        clear hK K
                        try simp only [Act.put, List.setIfInBounds_toArray, List.set_cons_zero, List.set_cons_succ]
                        refine wpAnyH_ready (rs := [7]) (by kernel_rfl) (by simp) (consL rfl (fun K hK => ?step651))
                        (go_simp; (refine (rcheck_any B1 B2 m1 d1 m2 d2 m3 S2 Z2 _ (HF.out.below G0).k1 (HF.out.below G0).k2).mono ?_); (rintro e v4 ⟨he, hb⟩); (rw [HC.out.2] at he); (subst he); (have G0 := G0.trans (hb.mono G0.size)); clear hb)
                        refine hK.out _ _ ?hS651 (fun hHeld => ?rest651)
                        case hS651 => (first | assumption | exact (HK4.out _ G0).1 | exact HK4.out _ G0 | go_keep)
                        clear hK K
                        try simp only [Act.put, List.setIfInBounds_toArray, List.set_cons_zero, List.set_cons_succ]
                        refine wpAnyH_takeL (i := 8) (v := ?v652) rfl (by kernel_rfl) (by kernel_rfl) (by kernel_rfl) (fun _ _ _ h => h) (by rfl) ?hy652 (by assumption) ?rest652
                        case hy652 => (intro w hSw; (try dsimp only at hSw); go_simp; try with_reducible rfl)
                        try simp only [Act.put, List.setIfInBounds_toArray, List.set_cons_zero, List.set_cons_succ]
                        refine wpAnyH_takeL (i := 9) (v := ?v653) rfl (by kernel_rfl) (by kernel_rfl) (by kernel_rfl) (fun _ _ _ h => h) (by rfl) ?hy653 (by assumption) ?rest653
                        case hy653 => (intro w hSw; (try dsimp only at hSw); go_simp; try with_reducible rfl)
                        try simp only [Act.put, List.setIfInBounds_toArray, List.set_cons_zero, List.set_cons_succ]
                        refine wpAnyH_takeL (i := 10) (v := ?v654) rfl (by kernel_rfl) (by kernel_rfl) (by kernel_rfl) (fun _ _ _ h => h) (by rfl) ?hy654 (by assumption) ?rest654
                        case hy654 => (intro w hSw; (try dsimp only at hSw); go_simp; try with_reducible rfl)
                        try simp only [Act.put, List.setIfInBounds_toArray, List.set_cons_zero, List.set_cons_succ]
                        refine wpAnyH_takeL (i := 11) (v := ?v655) rfl (by kernel_rfl) (by kernel_rfl) (by kernel_rfl) (fun _ _ _ h => h) (by rfl) ?hy655 (by assumption) ?rest655
                        case hy655 => (intro w hSw; (try dsimp only at hSw); go_simp; try with_reducible rfl)
                        try simp only [Act.put, List.setIfInBounds_toArray, List.set_cons_zero, List.set_cons_succ]
                        refine wpAnyH_takeL (i := 12) (v := ?v656) rfl (by kernel_rfl) (by kernel_rfl) (by kernel_rfl) (fun _ _ _ h => h) (by rfl) ?hy656 (by assumption) ?rest656
                        case hy656 => (intro w hSw; (try dsimp only at hSw); go_simp; try with_reducible rfl)
                        try simp only [Act.put, List.setIfInBounds_toArray, List.set_cons_zero, List.set_cons_succ]
                        refine wpAnyH_takeL (i := 13) (v := ?v657) rfl (by kernel_rfl) (by kernel_rfl) (by kernel_rfl) (fun _ _ _ h => h) (by rfl) ?hy657 (by assumption) ?rest657
                        case hy657 => (intro w hSw; (try dsimp only at hSw); go_simp; try with_reducible rfl)
                        try simp only [Act.put, List.setIfInBounds_toArray, List.set_cons_zero, List.set_cons_succ]
                        refine wpAnyH_takeL (i := 15) (v := ?v658) rfl (by kernel_rfl) (by kernel_rfl) (by kernel_rfl) (fun _ _ _ h => h) (by rfl) ?hy658 (by assumption) ?rest658
                        case hy658 => (intro w hSw; (try dsimp only at hSw); go_simp; try with_reducible rfl)
                        try simp only [Act.put, List.setIfInBounds_toArray, List.set_cons_zero, List.set_cons_succ]
                        refine wpAnyH_takeL (i := 16) (v := ?v659) rfl (by kernel_rfl) (by kernel_rfl) (by kernel_rfl) (fun _ _ _ h => h) (by rfl) ?hy659 (by assumption) ?rest659
                        case hy659 => (intro w hSw; (try dsimp only at hSw); go_simp; try with_reducible rfl)
                        try simp only [Act.put, List.setIfInBounds_toArray, List.set_cons_zero, List.set_cons_succ]
                        refine wpAnyH_ready (rs := [14]) (by kernel_rfl) (by simp) (consL rfl (fun K hK => ?step660))
                        (go_simp; (refine (shape_s A1 A2 A3 n1 c1 n2 c2 n3 c3 _).mono ?_); (rintro e v4 ⟨rfl, hb⟩); (have G0 := G0.trans (hb.mono G0.size)); clear hb)
                        refine hK.out _ _ ?hS660 (fun hHeld => ?rest660)
                        case hS660 => (first | assumption | exact (HK4.out _ G0).1 | exact HK4.out _ G0 | go_keep)
                        clear hK K
                        try simp only [Act.put, List.setIfInBounds_toArray, List.set_cons_zero, List.set_cons_succ]
                        refine wpAnyH_ready (rs := [17]) (by kernel_rfl) (by simp) (consL rfl (fun K hK => ?step661))
                        (go_simp; (refine (is_s B1 B2 B3 A1 A2 A3 m1 d1 m2 d2 m3 d3 n1 c1 n2 c2 n3 c3 n3 S2 Z2 S1 Z1 L2 L1 _ (HF.out.below G0).k1 (HF.out.below G0).k2 (HF.out.below G0).k3 (HF.out.below G0).h1 (HF.out.below G0).h2 (HF.out.below G0).h3).mono ?_); (rintro e v4 ⟨rfl, hb⟩); (have G0 := G0.trans (hb.mono G0.size)); clear hb)
                        refine hK.out _ _ ?hS661 (fun hHeld => ?rest661)
                        case hS661 => (first | assumption | exact (HK4.out _ G0).1 | exact HK4.out _ G0 | go_keep)
                        clear hK K
                        try simp only [Act.put, List.setIfInBounds_toArray, List.set_cons_zero, List.set_cons_succ]
                        refine wpAnyH_takeL (i := 18) (v := ?v662) rfl (by kernel_rfl) (by kernel_rfl) (by kernel_rfl) (fun _ _ _ h => h) (by rfl) ?hy662 (by assumption) ?rest662
                        case hy662 => (intro w hSw; (try dsimp only at hSw); go_simp; try with_reducible rfl)
                        try simp only [Act.put, List.setIfInBounds_toArray, List.set_cons_zero, List.set_cons_succ]
                        refine wpAnyH_takeL (i := 19) (v := ?v663) rfl (by kernel_rfl) (by kernel_rfl) (by kernel_rfl) (fun _ _ _ h => h) (by rfl) ?hy663 (by assumption) ?rest663
                        case hy663 => (intro w hSw; (try dsimp only at hSw); go_simp; try with_reducible rfl)
                        try simp only [Act.put, List.setIfInBounds_toArray, List.set_cons_zero, List.set_cons_succ]
                        refine wpAnyH_done (by kernel_rfl) ?_ _
                        go_simp
                        (try go_wp2_with fail)
                        go_meet
                        case rel => exact ⟨by rw [HAL.out]; simp, G0⟩
                      · have hn := decide_eq_false h2
                        have hn' : (k2 == 0) = false := by simpa using h2
                        subst h1
                        refine wp_region_held_drew (S := fun w' => (w'.cell? ⟨w.heap.size, 0, none⟩ = some (.slice A1 n1 c1) ∧ w'.cell? ⟨w.heap.size, 1, none⟩ = some (.slice A2 n2 c2) ∧ w'.cell? ⟨w.heap.size, 2, none⟩ = some (.slice A3 n3 c3)) ∧ w'.cell? ⟨w.heap.size + 1, 0, none⟩ = some (.slice B1 m1 d1) ∧ w'.cell? ⟨w.heap.size + 1, 1, none⟩ = some (.slice B2 m2 d2) ∧ w'.cell? ⟨w.heap.size + 1, 2, none⟩ = some (.slice B3 m3 d3)) (by kernel_rfl) ?hS622 (fun hHeld => ?rest622)
                        case hS622 => (first | assumption | exact (HK4.out _ G0).1 | exact HK4.out _ G0 | go_keep)
                        refine wpAnyH_takeL (i := 0) (v := ?v623) rfl (by kernel_rfl) (by kernel_rfl) (by kernel_rfl) (fun _ _ _ h => h) (by rfl) ?hy623 (by assumption) ?rest623
                        case hy623 => (intro w hSw; (try dsimp only at hSw); go_simp; try with_reducible rfl)
                        try simp only [Act.put, List.setIfInBounds_toArray, List.set_cons_zero, List.set_cons_succ]
                        refine wpAnyH_ready (rs := [1]) (by kernel_rfl) (by simp) (consL rfl (fun K hK => ?step624))
                        (go_simp; (refine (shape_s A1 A2 A3 n1 c1 n2 c2 n3 c3 _).mono ?_); (rintro e v4 ⟨rfl, hb⟩); (have G0 := G0.trans (hb.mono G0.size)); clear hb)
                        refine hK.out _ _ ?hS624 (fun hHeld => ?rest624)
                        case hS624 => (first | assumption | exact (HK4.out _ G0).1 | exact HK4.out _ G0 | go_keep)
                        clear hK K
                        try simp only [Act.put, List.setIfInBounds_toArray, List.set_cons_zero, List.set_cons_succ]
                        refine wpAnyH_ready (rs := [2]) (by kernel_rfl) (by simp) (consL rfl (fun K hK => ?step625))
                        (go_simp; (refine (rcheck_any A1 A2 n1 c1 n2 c2 n3 S1 Z1 _ (HF.out.below G0).h1 (HF.out.below G0).h2).mono ?_); (rintro e v4 ⟨he, hb⟩); (rw [HC.out.1] at he); (subst he); (have G0 := G0.trans (hb.mono G0.size)); clear hb)
                        refine hK.out _ _ ?hS625 (fun hHeld => ?rest625)
                        case hS625 => (first | assumption | exact (HK4.out _ G0).1 | exact HK4.out _ G0 | go_keep)
                        clear hK K
                        try simp only [Act.put, List.setIfInBounds_toArray, List.set_cons_zero, List.set_cons_succ]
                        refine wpAnyH_takeL (i := 3) (v := ?v626) rfl (by kernel_rfl) (by kernel_rfl) (by kernel_rfl) (fun _ _ _ h => h) (by rfl) ?hy626 (by assumption) ?rest626
                        case hy626 => (intro w hSw; (try dsimp only at hSw); go_simp; try with_reducible rfl)
                        try simp only [Act.put, List.setIfInBounds_toArray, List.set_cons_zero, List.set_cons_succ]
                        refine wpAnyH_takeL (i := 4) (v := ?v627) rfl (by kernel_rfl) (by kernel_rfl) (by kernel_rfl) (fun _ _ _ h => h) (by rfl) ?hy627 (by assumption) ?rest627
                        case hy627 => (intro w hSw; (try dsimp only at hSw); go_simp; try with_reducible rfl)
                        try simp only [Act.put, List.setIfInBounds_toArray, List.set_cons_zero, List.set_cons_succ]
                        refine wpAnyH_takeL (i := 5) (v := ?v628) rfl (by kernel_rfl) (by kernel_rfl) (by kernel_rfl) (fun _ _ _ h => h) (by rfl) ?hy628 (by assumption) ?rest628
                        case hy628 => (intro w hSw; (try dsimp only at hSw); go_simp; try with_reducible rfl)
                        try simp only [Act.put, List.setIfInBounds_toArray, List.set_cons_zero, List.set_cons_succ]
                        refine wpAnyH_ready (rs := [6]) (by kernel_rfl) (by simp) (consL rfl (fun K hK => ?step629))
                        (go_simp; (refine (shape_s B1 B2 B3 m1 d1 m2 d2 m3 d3 _).mono ?_); (rintro e v4 ⟨rfl, hb⟩); (have G0 := G0.trans (hb.mono G0.size)); clear hb)
                        refine hK.out _ _ ?hS629 (fun hHeld => ?rest629)
                        case hS629 => (first | assumption | exact (HK4.out _ G0).1 | exact HK4.out _ G0 | go_keep)
                        clear hK K
                        try simp only [Act.put, List.setIfInBounds_toArray, List.set_cons_zero, List.set_cons_succ]
                        refine wpAnyH_ready (rs := [7]) (by kernel_rfl) (by simp) (consL rfl (fun K hK => ?step630))
                        (go_simp; (refine (rcheck_any B1 B2 m1 d1 m2 d2 m3 S2 Z2 _ (HF.out.below G0).k1 (HF.out.below G0).k2).mono ?_); (rintro e v4 ⟨he, hb⟩); (rw [HC.out.2] at he); (subst he); (have G0 := G0.trans (hb.mono G0.size)); clear hb)
                        refine hK.out _ _ ?hS630 (fun hHeld => ?rest630)
                        case hS630 => (first | assumption | exact (HK4.out _ G0).1 | exact HK4.out _ G0 | go_keep)
                        clear hK K
                        try simp only [Act.put, List.setIfInBounds_toArray, List.set_cons_zero, List.set_cons_succ]
                        refine wpAnyH_takeL (i := 8) (v := ?v631) rfl (by kernel_rfl) (by kernel_rfl) (by kernel_rfl) (fun _ _ _ h => h) (by rfl) ?hy631 (by assumption) ?rest631
                        case hy631 => (intro w hSw; (try dsimp only at hSw); go_simp; try with_reducible rfl)
                        try simp only [Act.put, List.setIfInBounds_toArray, List.set_cons_zero, List.set_cons_succ]
                        refine wpAnyH_takeL (i := 9) (v := ?v632) rfl (by kernel_rfl) (by kernel_rfl) (by kernel_rfl) (fun _ _ _ h => h) (by rfl) ?hy632 (by assumption) ?rest632
                        case hy632 => (intro w hSw; (try dsimp only at hSw); go_simp; try with_reducible rfl)
                        try simp only [Act.put, List.setIfInBounds_toArray, List.set_cons_zero, List.set_cons_succ]
                        refine wpAnyH_takeL (i := 10) (v := ?v633) rfl (by kernel_rfl) (by kernel_rfl) (by kernel_rfl) (fun _ _ _ h => h) (by rfl) ?hy633 (by assumption) ?rest633
                        case hy633 => (intro w hSw; (try dsimp only at hSw); go_simp; try with_reducible rfl)
                        try simp only [Act.put, List.setIfInBounds_toArray, List.set_cons_zero, List.set_cons_succ]
                        refine wpAnyH_skipL (i := 11) rfl (by kernel_rfl) (by kernel_rfl) (by kernel_rfl) (fun _ _ _ h => h) (by rfl) (by assumption) ?rest634
                        try simp only [Act.put, List.setIfInBounds_toArray, List.set_cons_zero, List.set_cons_succ]
                        refine wpAnyH_skipL (i := 12) rfl (by kernel_rfl) (by kernel_rfl) (by kernel_rfl) (fun _ _ _ h => h) (by rfl) (by assumption) ?rest635
                        try simp only [Act.put, List.setIfInBounds_toArray, List.set_cons_zero, List.set_cons_succ]
                        refine wpAnyH_skipL (i := 13) rfl (by kernel_rfl) (by kernel_rfl) (by kernel_rfl) (fun _ _ _ h => h) (by rfl) (by assumption) ?rest636
                        try simp only [Act.put, List.setIfInBounds_toArray, List.set_cons_zero, List.set_cons_succ]
                        refine wpAnyH_skipL (i := 14) rfl (by kernel_rfl) (by kernel_rfl) (by kernel_rfl) (fun _ _ _ h => h) (by rfl) (by assumption) ?rest637
                        try simp only [Act.put, List.setIfInBounds_toArray, List.set_cons_zero, List.set_cons_succ]
                        refine wpAnyH_skipL (i := 15) rfl (by kernel_rfl) (by kernel_rfl) (by kernel_rfl) (fun _ _ _ h => h) (by rfl) (by assumption) ?rest638
                        try simp only [Act.put, List.setIfInBounds_toArray, List.set_cons_zero, List.set_cons_succ]
                        refine wpAnyH_skipL (i := 16) rfl (by kernel_rfl) (by kernel_rfl) (by kernel_rfl) (fun _ _ _ h => h) (by rfl) (by assumption) ?rest639
                        try simp only [Act.put, List.setIfInBounds_toArray, List.set_cons_zero, List.set_cons_succ]
                        refine wpAnyH_skipL (i := 17) rfl (by kernel_rfl) (by kernel_rfl) (by kernel_rfl) (fun _ _ _ h => h) (by rfl) (by assumption) ?rest640
                        try simp only [Act.put, List.setIfInBounds_toArray, List.set_cons_zero, List.set_cons_succ]
                        refine wpAnyH_takeL (i := 18) (v := ?v641) rfl (by kernel_rfl) (by kernel_rfl) (by kernel_rfl) (fun _ _ _ h => h) (by rfl) ?hy641 (by assumption) ?rest641
                        case hy641 => (intro w hSw; (try dsimp only at hSw); go_simp; try with_reducible rfl)
                        try simp only [Act.put, List.setIfInBounds_toArray, List.set_cons_zero, List.set_cons_succ]
                        refine wpAnyH_takeL (i := 19) (v := ?v642) rfl (by kernel_rfl) (by kernel_rfl) (by kernel_rfl) (fun _ _ _ h => h) (by rfl) ?hy642 (by assumption) ?rest642
                        case hy642 => (intro w hSw; (try dsimp only at hSw); go_simp; try with_reducible rfl)
                        try simp only [Act.put, List.setIfInBounds_toArray, List.set_cons_zero, List.set_cons_succ]
                        refine wpAnyH_done (by kernel_rfl) ?_ _
                        go_simp
                        (try go_wp2_with fail)
                        go_meet
                        case rel => exact ⟨by rw [HAL.out]; simp [h2], G0⟩
                    · have hn := decide_eq_false h1
                      have hn' : (k1 == 0) = false := by simpa using h1
                      refine wp_region_held_drew (S := fun w' => (w'.cell? ⟨w.heap.size, 0, none⟩ = some (.slice A1 n1 c1) ∧ w'.cell? ⟨w.heap.size, 1, none⟩ = some (.slice A2 n2 c2) ∧ w'.cell? ⟨w.heap.size, 2, none⟩ = some (.slice A3 n3 c3)) ∧ w'.cell? ⟨w.heap.size + 1, 0, none⟩ = some (.slice B1 m1 d1) ∧ w'.cell? ⟨w.heap.size + 1, 1, none⟩ = some (.slice B2 m2 d2) ∧ w'.cell? ⟨w.heap.size + 1, 2, none⟩ = some (.slice B3 m3 d3)) (by kernel_rfl) ?hS601 (fun hHeld => ?rest601)
                      case hS601 => (first | assumption | exact (HK4.out _ G0).1 | exact HK4.out _ G0 | go_keep)
                      refine wpAnyH_takeL (i := 0) (v := ?v602) rfl (by kernel_rfl) (by kernel_rfl) (by kernel_rfl) (fun _ _ _ h => h) (by rfl) ?hy602 (by assumption) ?rest602
                      case hy602 => (intro w hSw; (try dsimp only at hSw); go_simp; try with_reducible rfl)
                      try simp only [Act.put, List.setIfInBounds_toArray, List.set_cons_zero, List.set_cons_succ]
                      refine wpAnyH_ready (rs := [1]) (by kernel_rfl) (by simp) (consL rfl (fun K hK => ?step603))
                      (go_simp; (refine (shape_s A1 A2 A3 n1 c1 n2 c2 n3 c3 _).mono ?_); (rintro e v4 ⟨rfl, hb⟩); (have G0 := G0.trans (hb.mono G0.size)); clear hb)
                      refine hK.out _ _ ?hS603 (fun hHeld => ?rest603)
                      case hS603 => (first | assumption | exact (HK4.out _ G0).1 | exact HK4.out _ G0 | go_keep)
                      clear hK K
                      try simp only [Act.put, List.setIfInBounds_toArray, List.set_cons_zero, List.set_cons_succ]
                      refine wpAnyH_ready (rs := [2]) (by kernel_rfl) (by simp) (consL rfl (fun K hK => ?step604))
                      (go_simp; (refine (rcheck_any A1 A2 n1 c1 n2 c2 n3 S1 Z1 _ (HF.out.below G0).h1 (HF.out.below G0).h2).mono ?_); (rintro e v4 ⟨he, hb⟩); (rw [HC.out.1] at he); (subst he); (have G0 := G0.trans (hb.mono G0.size)); clear hb)
                      refine hK.out _ _ ?hS604 (fun hHeld => ?rest604)
                      case hS604 => (first | assumption | exact (HK4.out _ G0).1 | exact HK4.out _ G0 | go_keep)
                      clear hK K
                      try simp only [Act.put, List.setIfInBounds_toArray, List.set_cons_zero, List.set_cons_succ]
                      refine wpAnyH_takeL (i := 3) (v := ?v605) rfl (by kernel_rfl) (by kernel_rfl) (by kernel_rfl) (fun _ _ _ h => h) (by rfl) ?hy605 (by assumption) ?rest605
                      case hy605 => (intro w hSw; (try dsimp only at hSw); go_simp; try with_reducible rfl)
                      try simp only [Act.put, List.setIfInBounds_toArray, List.set_cons_zero, List.set_cons_succ]
                      refine wpAnyH_takeL (i := 4) (v := ?v606) rfl (by kernel_rfl) (by kernel_rfl) (by kernel_rfl) (fun _ _ _ h => h) (by rfl) ?hy606 (by assumption) ?rest606
                      case hy606 => (intro w hSw; (try dsimp only at hSw); go_simp; try with_reducible rfl)
                      try simp only [Act.put, List.setIfInBounds_toArray, List.set_cons_zero, List.set_cons_succ]
                      refine wpAnyH_skipL (i := 5) rfl (by kernel_rfl) (by kernel_rfl) (by kernel_rfl) (fun _ _ _ h => h) (by rfl) (by assumption) ?rest607
                      try simp only [Act.put, List.setIfInBounds_toArray, List.set_cons_zero, List.set_cons_succ]
                      refine wpAnyH_skipL (i := 6) rfl (by kernel_rfl) (by kernel_rfl) (by kernel_rfl) (fun _ _ _ h => h) (by rfl) (by assumption) ?rest608
                      try simp only [Act.put, List.setIfInBounds_toArray, List.set_cons_zero, List.set_cons_succ]
                      refine wpAnyH_skipL (i := 7) rfl (by kernel_rfl) (by kernel_rfl) (by kernel_rfl) (fun _ _ _ h => h) (by rfl) (by assumption) ?rest609
                      try simp only [Act.put, List.setIfInBounds_toArray, List.set_cons_zero, List.set_cons_succ]
                      refine wpAnyH_skipL (i := 8) rfl (by kernel_rfl) (by kernel_rfl) (by kernel_rfl) (fun _ _ _ h => h) (by rfl) (by assumption) ?rest610
                      try simp only [Act.put, List.setIfInBounds_toArray, List.set_cons_zero, List.set_cons_succ]
                      refine wpAnyH_takeL (i := 9) (v := ?v611) rfl (by kernel_rfl) (by kernel_rfl) (by kernel_rfl) (fun _ _ _ h => h) (by rfl) ?hy611 (by assumption) ?rest611
                      case hy611 => (intro w hSw; (try dsimp only at hSw); go_simp; try with_reducible rfl)
                      try simp only [Act.put, List.setIfInBounds_toArray, List.set_cons_zero, List.set_cons_succ]
                      refine wpAnyH_takeL (i := 10) (v := ?v612) rfl (by kernel_rfl) (by kernel_rfl) (by kernel_rfl) (fun _ _ _ h => h) (by rfl) ?hy612 (by assumption) ?rest612
                      case hy612 => (intro w hSw; (try dsimp only at hSw); go_simp; try with_reducible rfl)
                      try simp only [Act.put, List.setIfInBounds_toArray, List.set_cons_zero, List.set_cons_succ]
                      refine wpAnyH_skipL (i := 11) rfl (by kernel_rfl) (by kernel_rfl) (by kernel_rfl) (fun _ _ _ h => h) (by rfl) (by assumption) ?rest613
                      try simp only [Act.put, List.setIfInBounds_toArray, List.set_cons_zero, List.set_cons_succ]
                      refine wpAnyH_skipL (i := 12) rfl (by kernel_rfl) (by kernel_rfl) (by kernel_rfl) (fun _ _ _ h => h) (by rfl) (by assumption) ?rest614
                      try simp only [Act.put, List.setIfInBounds_toArray, List.set_cons_zero, List.set_cons_succ]
                      refine wpAnyH_skipL (i := 13) rfl (by kernel_rfl) (by kernel_rfl) (by kernel_rfl) (fun _ _ _ h => h) (by rfl) (by assumption) ?rest615
                      try simp only [Act.put, List.setIfInBounds_toArray, List.set_cons_zero, List.set_cons_succ]
                      refine wpAnyH_skipL (i := 14) rfl (by kernel_rfl) (by kernel_rfl) (by kernel_rfl) (fun _ _ _ h => h) (by rfl) (by assumption) ?rest616
                      try simp only [Act.put, List.setIfInBounds_toArray, List.set_cons_zero, List.set_cons_succ]
                      refine wpAnyH_skipL (i := 15) rfl (by kernel_rfl) (by kernel_rfl) (by kernel_rfl) (fun _ _ _ h => h) (by rfl) (by assumption) ?rest617
                      try simp only [Act.put, List.setIfInBounds_toArray, List.set_cons_zero, List.set_cons_succ]
                      refine wpAnyH_skipL (i := 16) rfl (by kernel_rfl) (by kernel_rfl) (by kernel_rfl) (fun _ _ _ h => h) (by rfl) (by assumption) ?rest618
                      try simp only [Act.put, List.setIfInBounds_toArray, List.set_cons_zero, List.set_cons_succ]
                      refine wpAnyH_skipL (i := 17) rfl (by kernel_rfl) (by kernel_rfl) (by kernel_rfl) (fun _ _ _ h => h) (by rfl) (by assumption) ?rest619
                      try simp only [Act.put, List.setIfInBounds_toArray, List.set_cons_zero, List.set_cons_succ]
                      refine wpAnyH_takeL (i := 18) (v := ?v620) rfl (by kernel_rfl) (by kernel_rfl) (by kernel_rfl) (fun _ _ _ h => h) (by rfl) ?hy620 (by assumption) ?rest620
                      case hy620 => (intro w hSw; (try dsimp only at hSw); go_simp; try with_reducible rfl)
                      try simp only [Act.put, List.setIfInBounds_toArray, List.set_cons_zero, List.set_cons_succ]
                      refine wpAnyH_takeL (i := 19) (v := ?v621) rfl (by kernel_rfl) (by kernel_rfl) (by kernel_rfl) (fun _ _ _ h => h) (by rfl) ?hy621 (by assumption) ?rest621
                      case hy621 => (intro w hSw; (try dsimp only at hSw); go_simp; try with_reducible rfl)
                      try simp only [Act.put, List.setIfInBounds_toArray, List.set_cons_zero, List.set_cons_succ]
                      refine wpAnyH_done (by kernel_rfl) ?_ _
                      go_simp
                      (try go_wp2_with fail)
                      go_meet
                      case rel => exact ⟨by rw [HAL.out]; simp [h1], G0⟩
                  case rest =>
                    obtain ⟨rfl, hG⟩ := hcut
                    have HGB := Lib.hid hG
                    clear hG HGA
                    obtain ⟨wcd, hwcd⟩ : ∃ wcd : World, wcd = wc := ⟨_, rfl⟩
                    subst hwcd
                    have hsx := HSS.out.2
                    obtain ⟨sx, hx1⟩ : ∃ sx, decide (k1 = 0) = sx := ⟨_, rfl⟩
                    have hx2 : (k1 == 0) = sx := by rw [← hx1]; by_cases h : k1 = 0 <;> simp [h]
                    rw [hx1] at hsx
                    have HSX := Lib.hid hsx
                    clear hsx
                    have G0 : Below ww.heap.size ww wcd.drew := HGB.out.trans (below_drewN (Below.refl _ _) 1)
                    go_wp2_with fail
                    refine wp_region_held_drew (S := fun w' => ((w'.cell? ⟨w.heap.size, 0, none⟩ = some (.slice A1 n1 c1) ∧ w'.cell? ⟨w.heap.size, 1, none⟩ = some (.slice A2 n2 c2) ∧ w'.cell? ⟨w.heap.size, 2, none⟩ = some (.slice A3 n3 c3)) ∧ w'.cell? ⟨w.heap.size + 1, 0, none⟩ = some (.slice B1 m1 d1) ∧ w'.cell? ⟨w.heap.size + 1, 1, none⟩ = some (.slice B2 m2 d2) ∧ w'.cell? ⟨w.heap.size + 1, 2, none⟩ = some (.slice B3 m3 d3)) ∧ (w'.cell? ⟨g3, 0, none⟩ = some (.slice M1 n1 p1) ∧ w'.cell? ⟨g3, 1, none⟩ = some (.slice M2 n2 p2) ∧ w'.cell? ⟨g3, 2, none⟩ = some (.slice M3 n3 p3)) ∧ w'.cell? ⟨g4, 0, none⟩ = some (.slice N1 m1 q1) ∧ w'.cell? ⟨g4, 1, none⟩ = some (.slice N2 m2 q2) ∧ w'.cell? ⟨g4, 2, none⟩ = some (.slice N3 m3 q3)) (by kernel_rfl) ?hS701 (fun hHeld => ?rest701)
                    case hS701 => (first | assumption | exact HK4.out _ G0 | go_keep)
                    refine wpAnyH_takeL (i := 0) (v := ?v702) rfl (by kernel_rfl) (by kernel_rfl) (by kernel_rfl) (fun _ _ _ h => h) (by rfl) ?hy702 (by assumption) ?rest702
                    case hy702 => (intro w hSw; (try dsimp only at hSw); go_simp; try with_reducible rfl)
                    try simp only [Act.put, List.setIfInBounds_toArray, List.set_cons_zero, List.set_cons_succ]
                    refine wpAnyH_takeL (i := 1) (v := ?v703) rfl (by kernel_rfl) (by kernel_rfl) (by kernel_rfl) (fun _ _ _ h => h) (by rfl) ?hy703 (by assumption) ?rest703
                    case hy703 => (intro w hSw; (try dsimp only at hSw); go_simp; try with_reducible rfl)
                    try simp only [Act.put, List.setIfInBounds_toArray, List.set_cons_zero, List.set_cons_succ]
                    refine wpAnyH_takeL (i := 2) (v := ?v704) rfl (by kernel_rfl) (by kernel_rfl) (by kernel_rfl) (fun _ _ _ h => h) (by rfl) ?hy704 (by assumption) ?rest704
                    case hy704 => (intro w hSw; (try dsimp only at hSw); go_simp; try with_reducible rfl)
                    try simp only [Act.put, List.setIfInBounds_toArray, List.set_cons_zero, List.set_cons_succ]
                    refine wpAnyH_takeL (i := 4) (v := ?v705) rfl (by kernel_rfl) (by kernel_rfl) (by kernel_rfl) (fun _ _ _ h => h) (by rfl) ?hy705 (by assumption) ?rest705
                    case hy705 => (intro w hSw; (try dsimp only at hSw); go_simp; try with_reducible rfl)
                    try simp only [Act.put, List.setIfInBounds_toArray, List.set_cons_zero, List.set_cons_succ]
                    refine wpAnyH_ready (rs := [3]) (by kernel_rfl) (by simp) (consL rfl (fun K hK => ?step706))
                    (go_simp; (have C1 := (HF.out.below G0).copy1 (by omega) b2 b3); (have C2 := (HF.out.below G0).copy2 (by omega) b4 b5); (refine (sameT_any_s M1 M2 M3 N1 N2 N3 n1 p1 n2 p2 n3 p3 m1 q1 m2 q2 m3 q3 S1 Z1 S2 Z2 L1 L2 _ C1.1 C1.2.1 C1.2.2.1 C2.1 C2.2.1 C2.2.2.1).mono ?_); clear C1 C2; (rintro e v4 ⟨he, hb⟩); (rw [HSS.out.1] at he); (subst he); (have G0 := G0.trans (hb.mono G0.size)); clear hb)
                    refine hK.out _ _ ?hS706 (fun hHeld => ?rest706)
                    case hS706 => (first | assumption | exact HK4.out _ G0 | go_keep)
                    clear hK K
                    try simp only [Act.put, List.setIfInBounds_toArray, List.set_cons_zero, List.set_cons_succ]
                    refine wpAnyH_takeL (i := 5) (v := ?v707) rfl (by kernel_rfl) (by kernel_rfl) (by kernel_rfl) (fun _ _ _ h => h) (by rfl) ?hy707 (by assumption) ?rest707
                    case hy707 => (intro w hSw; (try dsimp only at hSw); go_simp; try with_reducible rfl)
                    try simp only [Act.put, List.setIfInBounds_toArray, List.set_cons_zero, List.set_cons_succ]
                    refine wpAnyH_takeL (i := 6) (v := ?v708) rfl (by kernel_rfl) (by kernel_rfl) (by kernel_rfl) (fun _ _ _ h => h) (by rfl) ?hy708 (by assumption) ?rest708
                    case hy708 => (intro w hSw; (try dsimp only at hSw); go_simp; try with_reducible rfl)
                    try simp only [Act.put, List.setIfInBounds_toArray, List.set_cons_zero, List.set_cons_succ]
                    refine wpAnyH_takeL (i := 7) (v := ?v709) rfl (by kernel_rfl) (by kernel_rfl) (by kernel_rfl) (fun _ _ _ h => h) (by rfl) ?hy709 (by assumption) ?rest709
                    case hy709 => (intro w hSw; (try dsimp only at hSw); go_simp; try with_reducible rfl)
                    try simp only [Act.put, List.setIfInBounds_toArray, List.set_cons_zero, List.set_cons_succ]
                    refine wpAnyH_takeL (i := 8) (v := ?v710) rfl (by kernel_rfl) (by kernel_rfl) (by kernel_rfl) (fun _ _ _ h => h) (by rfl) ?hy710 (by assumption) ?rest710
                    case hy710 => (intro w hSw; (try dsimp only at hSw); go_simp; try with_reducible rfl)
                    try simp only [Act.put, List.setIfInBounds_toArray, List.set_cons_zero, List.set_cons_succ]
                    refine wpAnyH_takeL (i := 9) (v := ?v711) rfl (by kernel_rfl) (by kernel_rfl) (by kernel_rfl) (fun _ _ _ h => h) (by rfl) ?hy711 (by assumption) ?rest711
                    case hy711 => (intro w hSw; (try dsimp only at hSw); go_simp; try with_reducible rfl)
                    try simp only [Act.put, List.setIfInBounds_toArray, List.set_cons_zero, List.set_cons_succ]
                    refine wpAnyH_takeL (i := 11) (v := ?v712) rfl (by kernel_rfl) (by kernel_rfl) (by kernel_rfl) (fun _ _ _ h => h) (by rfl) ?hy712 (by assumption) ?rest712
                    case hy712 => (intro w hSw; (try dsimp only at hSw); go_simp; try with_reducible rfl)
                    try simp only [Act.put, List.setIfInBounds_toArray, List.set_cons_zero, List.set_cons_succ]
                    refine wpAnyH_ready (rs := [10]) (by kernel_rfl) (by simp) (consL rfl (fun K hK => ?step713))
                    (go_simp; (have C1 := (HF.out.below G0).copy1 (by omega) b2 b3); (refine (sameT_any_s M1 M2 M3 M1 M2 M3 n1 p1 n2 p2 n3 p3 n1 p1 n2 p2 n3 p3 S1 Z1 S1 Z1 L1 L1 _ C1.1 C1.2.1 C1.2.2.1 C1.1 C1.2.1 C1.2.2.1).mono ?_); clear C1; (rintro e v4 ⟨he, hb⟩); (rw [HSX.out] at he); (subst he); (have G0 := G0.trans (hb.mono G0.size)); clear hb)
                    refine hK.out _ _ ?hS713 (fun hHeld => ?rest713)
                    case hS713 => (first | assumption | exact HK4.out _ G0 | go_keep)
                    clear hK K
                    try simp only [Act.put, List.setIfInBounds_toArray, List.set_cons_zero, List.set_cons_succ]
                    refine wpAnyH_ready (rs := [12]) (by kernel_rfl) (by simp) (consL rfl (fun K hK => ?step714))
                    (go_simp; (refine (shape_s A1 A2 A3 n1 c1 n2 c2 n3 c3 _).mono ?_); (rintro e v4 ⟨rfl, hb⟩); (have G0 := G0.trans (hb.mono G0.size)); clear hb)
                    refine hK.out _ _ ?hS714 (fun hHeld => ?rest714)
                    case hS714 => (first | assumption | exact HK4.out _ G0 | go_keep)
                    clear hK K
                    try simp only [Act.put, List.setIfInBounds_toArray, List.set_cons_zero, List.set_cons_succ]
                    refine wpAnyH_ready (rs := [13]) (by kernel_rfl) (by simp) (consL rfl (fun K hK => ?step715))
                    (go_simp; (refine (rcheck_any A1 A2 n1 c1 n2 c2 n3 S1 Z1 _ (HF.out.below G0).h1 (HF.out.below G0).h2).mono ?_); (rintro e v4 ⟨he, hb⟩); (rw [HC.out.1] at he); (subst he); (have G0 := G0.trans (hb.mono G0.size)); clear hb)
                    refine hK.out _ _ ?hS715 (fun hHeld => ?rest715)
                    case hS715 => (first | assumption | exact HK4.out _ G0 | go_keep)
                    clear hK K
                    try simp only [Act.put, List.setIfInBounds_toArray, List.set_cons_zero, List.set_cons_succ]
                    refine wpAnyH_takeL (i := 14) (v := ?v716) rfl (by kernel_rfl) (by kernel_rfl) (by kernel_rfl) (fun _ _ _ h => h) (by rfl) ?hy716 (by assumption) ?rest716
                    case hy716 => (intro w hSw; (try dsimp only at hSw); go_simp; try with_reducible rfl)
                    try simp only [Act.put, List.setIfInBounds_toArray, List.set_cons_zero, List.set_cons_succ]
                    refine wpAnyH_takeL (i := 15) (v := ?v717) rfl (by kernel_rfl) (by kernel_rfl) (by kernel_rfl) (fun _ _ _ h => h) (by rfl) ?hy717 (by assumption) ?rest717
                    case hy717 => (intro w hSw; (try dsimp only at hSw); go_simp; try with_reducible rfl)
                    try simp only [Act.put, List.setIfInBounds_toArray, List.set_cons_zero, List.set_cons_succ]
                    refine wpAnyH_takeL (i := 16) (v := ?v718) rfl (by kernel_rfl) (by kernel_rfl) (by kernel_rfl) (fun _ _ _ h => h) (by rfl) ?hy718 (by assumption) ?rest718
                    case hy718 => (intro w hSw; (try dsimp only at hSw); go_simp; try with_reducible rfl)
                    try simp only [Act.put, List.setIfInBounds_toArray, List.set_cons_zero, List.set_cons_succ]
                    refine wpAnyH_takeL (i := 17) (v := ?v719) rfl (by kernel_rfl) (by kernel_rfl) (by kernel_rfl) (fun _ _ _ h => h) (by rfl) ?hy719 (by assumption) ?rest719
                    case hy719 => (intro w hSw; (try dsimp only at hSw); go_simp; try with_reducible rfl)
                    try simp only [Act.put, List.setIfInBounds_toArray, List.set_cons_zero, List.set_cons_succ]
                    refine wpAnyH_takeL (i := 18) (v := ?v720) rfl (by kernel_rfl) (by kernel_rfl) (by kernel_rfl) (fun _ _ _ h => h) (by rfl) ?hy720 (by assumption) ?rest720
                    case hy720 => (intro w hSw; (try dsimp only at hSw); go_simp; try with_reducible rfl)
                    try simp only [Act.put, List.setIfInBounds_toArray, List.set_cons_zero, List.set_cons_succ]
                    refine wpAnyH_takeL (i := 19) (v := ?v721) rfl (by kernel_rfl) (by kernel_rfl) (by kernel_rfl) (fun _ _ _ h => h) (by rfl) ?hy721 (by assumption) ?rest721
                    case hy721 => (intro w hSw; (try dsimp only at hSw); go_simp; try with_reducible rfl)
                    try simp only [Act.put, List.setIfInBounds_toArray, List.set_cons_zero, List.set_cons_succ]
                    refine wpAnyH_takeL (i := 20) (v := ?v722) rfl (by kernel_rfl) (by kernel_rfl) (by kernel_rfl) (fun _ _ _ h => h) (by rfl) ?hy722 (by assumption) ?rest722
                    case hy722 => (intro w hSw; (try dsimp only at hSw); go_simp; try with_reducible rfl)
                    try simp only [Act.put, List.setIfInBounds_toArray, List.set_cons_zero, List.set_cons_succ]
                    refine wpAnyH_takeL (i := 21) (v := ?v723) rfl (by kernel_rfl) (by kernel_rfl) (by kernel_rfl) (fun _ _ _ h => h) (by rfl) ?hy723 (by assumption) ?rest723
                    case hy723 => (intro w hSw; (try dsimp only at hSw); go_simp; try with_reducible rfl)
                    try simp only [Act.put, List.setIfInBounds_toArray, List.set_cons_zero, List.set_cons_succ]
                    refine wpAnyH_ready (rs := [22]) (by kernel_rfl) (by simp) (consL rfl (fun K hK => ?step724))
                    (go_simp; (refine (kept_s _ M1 M2 M3 A1 A2 A3 n1 p1 p2 p3 c1 n2 c2 n3 c3 S1 Z1 L1 mark _ (HF.out.below G0).tc (HF.out.below G0).h1 (HF.out.below G0).h2 (HF.out.below G0).h3 (by omega) (by omega) (by omega)).mono ?_); (rintro e v4 ⟨rfl, hb⟩); (have G0 := G0.trans (hb.mono G0.size)); clear hb)
                    refine hK.out _ _ ?hS724 (fun hHeld => ?rest724)
                    case hS724 => (first | assumption | exact HK4.out _ G0 | go_keep)
                    clear hK K
                    try simp only [Act.put, List.setIfInBounds_toArray, List.set_cons_zero, List.set_cons_succ]
                    refine wpAnyH_takeL (i := 23) (v := ?v725) rfl (by kernel_rfl) (by kernel_rfl) (by kernel_rfl) (fun _ _ _ h => h) (by rfl) ?hy725 (by assumption) ?rest725
                    case hy725 => (intro w hSw; (try dsimp only at hSw); go_simp; try with_reducible rfl)
                    try simp only [Act.put, List.setIfInBounds_toArray, List.set_cons_zero, List.set_cons_succ]
                    refine wpAnyH_takeL (i := 24) (v := ?v726) rfl (by kernel_rfl) (by kernel_rfl) (by kernel_rfl) (fun _ _ _ h => h) (by rfl) ?hy726 (by assumption) ?rest726
                    case hy726 => (intro w hSw; (try dsimp only at hSw); go_simp; try with_reducible rfl)
                    try simp only [Act.put, List.setIfInBounds_toArray, List.set_cons_zero, List.set_cons_succ]
                    refine wpAnyH_takeL (i := 25) (v := ?v727) rfl (by kernel_rfl) (by kernel_rfl) (by kernel_rfl) (fun _ _ _ h => h) (by rfl) ?hy727 (by assumption) ?rest727
                    case hy727 => (intro w hSw; (try dsimp only at hSw); go_simp; try with_reducible rfl)
                    try simp only [Act.put, List.setIfInBounds_toArray, List.set_cons_zero, List.set_cons_succ]
                    refine wpAnyH_takeL (i := 26) (v := ?v728) rfl (by kernel_rfl) (by kernel_rfl) (by kernel_rfl) (fun _ _ _ h => h) (by rfl) ?hy728 (by assumption) ?rest728
                    case hy728 => (intro w hSw; (try dsimp only at hSw); go_simp; try with_reducible rfl)
                    try simp only [Act.put, List.setIfInBounds_toArray, List.set_cons_zero, List.set_cons_succ]
                    refine wpAnyH_takeL (i := 27) (v := ?v729) rfl (by kernel_rfl) (by kernel_rfl) (by kernel_rfl) (fun _ _ _ h => h) (by rfl) ?hy729 (by assumption) ?rest729
                    case hy729 => (intro w hSw; (try dsimp only at hSw); go_simp; try with_reducible rfl)
                    try simp only [Act.put, List.setIfInBounds_toArray, List.set_cons_zero, List.set_cons_succ]
                    refine wpAnyH_takeL (i := 28) (v := ?v730) rfl (by kernel_rfl) (by kernel_rfl) (by kernel_rfl) (fun _ _ _ h => h) (by rfl) ?hy730 (by assumption) ?rest730
                    case hy730 => (intro w hSw; (try dsimp only at hSw); go_simp; try with_reducible rfl)
                    try simp only [Act.put, List.setIfInBounds_toArray, List.set_cons_zero, List.set_cons_succ]
                    refine wpAnyH_ready (rs := [29]) (by kernel_rfl) (by simp) (consL rfl (fun K hK => ?step731))
                    (go_simp; (refine (kept_s _ N1 N2 N3 B1 B2 B3 m1 q1 q2 q3 d1 m2 d2 m3 d3 S2 Z2 L2 mark _ (HF.out.below G0).td (HF.out.below G0).k1 (HF.out.below G0).k2 (HF.out.below G0).k3 (by omega) (by omega) (by omega)).mono ?_); (rintro e v4 ⟨rfl, hb⟩); (have G0 := G0.trans (hb.mono G0.size)); clear hb)
                    refine hK.out _ _ ?hS731 (fun hHeld => ?rest731)
                    case hS731 => (first | assumption | exact HK4.out _ G0 | go_keep)
                    clear hK K
                    try simp only [Act.put, List.setIfInBounds_toArray, List.set_cons_zero, List.set_cons_succ]
                    refine wpAnyH_takeL (i := 30) (v := ?v732) rfl (by kernel_rfl) (by kernel_rfl) (by kernel_rfl) (fun _ _ _ h => h) (by rfl) ?hy732 (by assumption) ?rest732
                    case hy732 => (intro w hSw; (try dsimp only at hSw); go_simp; try with_reducible rfl)
                    try simp only [Act.put, List.setIfInBounds_toArray, List.set_cons_zero, List.set_cons_succ]
                    refine wpAnyH_takeL (i := 31) (v := ?v733) rfl (by kernel_rfl) (by kernel_rfl) (by kernel_rfl) (fun _ _ _ h => h) (by rfl) ?hy733 (by assumption) ?rest733
                    case hy733 => (intro w hSw; (try dsimp only at hSw); go_simp; try with_reducible rfl)
                    try simp only [Act.put, List.setIfInBounds_toArray, List.set_cons_zero, List.set_cons_succ]
                    refine wpAnyH_done (by kernel_rfl) ?_ _
                    go_simp
                    go_wp2_with fail
                    go_ret
                    exact ⟨ret_bool rfl, (HF.out.below G0).bel⟩
--RESTE
end Go.Proofs.Ytgmchedfgdgenaa
