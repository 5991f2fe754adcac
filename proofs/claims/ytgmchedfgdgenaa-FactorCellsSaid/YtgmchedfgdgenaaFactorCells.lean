/- credencelaw13.FactorCells, walked: it returns true. Condition: the lists read. -/
import Derived.Test.YtgmchedfgdgenaaAlive13
import Derived.Test.YtgmchedfgdgenaaFCellsM
namespace Go.Proofs.Ytgmchedfgdgenaa.FactorCells
open Go.RowKit
attribute [local go_sem] Oper.semAt_some

set_option maxRecDepth 100000 in
set_option maxHeartbeats 4000000 in
theorem law (A1 A2 A3 B1 B2 B3 : Option Addr) (n1 c1 n2 c2 n3 c3 m1 d1 m2 d2 m3 d3 : Nat) (S1 L1 S2 L2 : List Int) (place : Int) (w : World)
    (h1 : Sl (Value.int .i64) w A1 n1 S1) (h3 : Sl (Value.int .i64) w A3 n3 L1) (k1 : Sl (Value.int .i64) w B1 m1 S2) (k3 : Sl (Value.int .i64) w B3 m3 L2) :
    Calls Try.prog 5 #[.agg #[.slice A1 n1 c1, .slice A2 n2 c2, .slice A3 n3 c3], .agg #[.slice B1 m1 d1, .slice B2 m2 d2, .slice B3 m3 d3], .int .i64 place] w fun e w' => e = .returned (.bool true) ∧ Below w.heap.size w w' := by
  have H0 := ((((((Held.init w).sl h1).sl h3).sl k1).sl k3).new 24 [.slice A1 n1 c1, .slice A2 n2 c2, .slice A3 n3 c3]).new 24 [.slice B1 m1 d1, .slice B2 m2 d2, .slice B3 m3 d3]
  simp only [World.size_alloc] at H0
  clear h1 h3 k1 k3
  go_enter Try.func5, Try.ntmps5
  go_wp2_with fail
  refine (alive13_any _).mono ?_
  rintro e w1 ⟨rfl, hb1⟩
  have H1 := H0.step hb1
  clear H0 hb1
  have a0 := H1.has.2.1.cell 0
  have a1 := H1.has.2.1.cell 1
  have a2 := H1.has.2.1.cell 2
  go_wp2_with fail
  refine (mended_any A1 A2 A3 n1 c1 n2 c2 n3 c3 S1 L1 _ H1.has.2.2.2.2.2.1 H1.has.2.2.2.2.1).mono ?_
  rintro e w2 ⟨XA, xa, XB, xb, XC, xc, N1, hN1, rfl, tr, hb⟩
  have H2 := (((H1.step hb).own tr.o1).own tr.o2).own tr.o3
  clear H1 hb tr a0 a1 a2
  obtain ⟨x1, hx1⟩ : ∃ x1, x1 = (mendS S1 8).length := ⟨_, rfl⟩
  rw [← hx1] at H2 ⊢
  have H3 := H2.new 24 [.slice XA x1 xa, .slice XB x1 xb, .slice XC N1 xc]
  have b0 := H3.has.2.2.2.2.1.cell 0
  have b1 := H3.has.2.2.2.2.1.cell 1
  have b2 := H3.has.2.2.2.2.1.cell 2
  clear H2
  have HX := Lib.hid (And.intro hx1 hN1)
  clear hx1 hN1
  go_wp2_with fail
  refine (mended_any B1 B2 B3 m1 d1 m2 d2 m3 d3 S2 L2 _ H3.has.2.2.2.2.2.2.2.1 H3.has.2.2.2.2.2.2.1).mono ?_
  rintro e w3 ⟨YA, ya, YB, yb, YC, yc, N2, hN2, rfl, tr, hb⟩
  have H4 := (((H3.step hb).own tr.o1).own tr.o2).own tr.o3
  clear H3 hb tr b0 b1 b2
  obtain ⟨y1, hy1⟩ : ∃ y1, y1 = (mendS S2 8).length := ⟨_, rfl⟩
  rw [← hy1] at H4 ⊢
  have H5 := H4.new 24 [.slice YA y1 ya, .slice YB y1 yb, .slice YC N2 yc]
  have q0 := H5.has.1.cell 0
  have q1 := H5.has.1.cell 1
  have q2 := H5.has.1.cell 2
  have p0 := H5.has.2.2.2.2.1.cell 0
  have p1 := H5.has.2.2.2.2.1.cell 1
  have p2 := H5.has.2.2.2.2.1.cell 2
  clear H4
  have HY := Lib.hid (And.intro hy1 hN2)
  clear hy1 hN2
  have hx8 : x1 ≤ 8 := by rw [HX.out.1]; exact mendS_length_le _ _
  have hy8 : y1 ≤ 8 := by rw [HY.out.1]; exact mendS_length_le _ _
  have hNx : N1 ≤ 6561 := by have h1 := HX.out.2; have := rise_cells (inB S1); have h2 := (mend_is S1 8).2; rw [h2] at h1; omega
  have hNy : N2 ≤ 6561 := by have h1 := HY.out.2; have := rise_cells (inB S2); have h2 := (mend_is S2 8).2; rw [h2] at h1; omega
  go_wp2_with fail
  refine (times_i XA XB XC YA YB YC x1 xa x1 xb N1 xc y1 ya y1 yb N2 yc (mendS S1 8) (mendZ S1 8) (mendS S2 8) (mendZ S2 8) (mendL L1 N1) (mendL L2 N2) _ (H5.has.2.2.2.2.2.2.2.1.sl (by omega)) (H5.has.2.2.2.2.2.2.1.sl (by omega)) (H5.has.2.2.2.2.2.1.sl (by omega)) (H5.has.2.2.2.1.sl (by omega)) (H5.has.2.2.1.sl (by omega)) (H5.has.2.1.sl (by omega)) (by omega) (fun _ _ _ _ => trivial)).mono ?_
  intro e w4 hp
  unfold TimesPost_i at hp
  rw [mendL_length, mendL_length, mend_err HX.out.2 HY.out.2] at hp
  rcases hp with ⟨h, _⟩ | ⟨_, PA, pa, PB, pb, PC, pc, N, hN, rfl, tr, hb⟩
  · exact absurd rfl h
  have hNc := rise_cells (fun v => inB S1 v || inB S2 v)
  rw [mend_uniZ'] at hN
  obtain ⟨PL, hPL⟩ : ∃ PL, PL = prod_i (mendS S1 8) (mendZ S1 8) (mendL L1 N1) (mendS S2 8) (mendZ S2 8) (mendL L2 N2) N := ⟨_, rfl⟩
  rw [mend_uni, mend_uniZ', ← hPL] at tr
  rw [mend_uni]
  obtain ⟨f, hf⟩ : ∃ f, f = fun v => inB S1 v || inB S2 v := ⟨_, rfl⟩
  rw [← hf] at hN hNc tr ⊢
  obtain ⟨u, hu⟩ : ∃ u, u = (riseS f 8).length := ⟨_, rfl⟩
  have hu8 : u ≤ 8 := by rw [hu]; exact riseS_length_le _ _
  rw [← hu] at tr ⊢
  have hN1 : 1 ≤ N := by omega
  have hNb : N ≤ 6561 := by omega
  have H6 := (((H5.step hb).own tr.o1).own tr.o2).own tr.o3
  have H7 := H6.new 24 [.slice PA u pa, .slice PB u pb, .slice PC N pc]
  have HP := Lib.hid (And.intro hN (And.intro hPL (And.intro hf hu)))
  clear H5 H6 tr hb q0 q1 q2 p0 p1 p2 hN hPL hf hu hNc
  have p0 := H7.has.1.cell 0
  have p1 := H7.has.1.cell 1
  have p2 := H7.has.1.cell 2
  have hN0 : ((N : Int) == 0) = false := by simp; omega
  have hN0' : ¬ N = 0 := by omega
  obtain ⟨ap, hap⟩ : ∃ ap : Nat, absF place = (ap : Int) := ⟨(absF place).toNat, by have := (absF_le place).1; omega⟩
  obtain ⟨q, hq⟩ : ∃ q, q = ap % N := ⟨_, rfl⟩
  have hqN : q < N := by rw [hq]; exact Nat.mod_lt _ (by omega)
  have ht1 : Int.tmod (ap : Int) (N : Int) = (q : Int) := by rw [hq, Int.tmod_eq_emod_of_nonneg (by omega)]; simp
  have ht2 : (ap : Int) % (N : Int) = (q : Int) := by rw [hq]; simp
  clear hq
  go_wp2_with fail
  go_quiet ((go_at_call 24; exact Calls.quiet_of_same ((abs_any _ _).mono fun _ _ ⟨h1, h2⟩ => ⟨h1, h2.symm⟩)))
  have H8 := H7.drewN nq
  clear H7 p0 p1 p2 ht1 ht2 hN0
  obtain ⟨wp, hwp⟩ : ∃ wp, wp = (w4.alloc (.cells #[.slice PA u pa, .slice PB u pb, .slice PC N pc] 24)).drewN nq := ⟨_, rfl⟩
  have H8 : Held w _ wp := hwp ▸ H8
  rw [← hwp]
  clear hwp
  have p0 := H8.has.1.cell 0
  have hmk : 8 * u ≤ 281474976710656 := by omega
  go_wp2_with (first
    | (at_make; refine wpList_mk _ eiI (Value.int .i64) 0 rfl rfl _ _ rfl u rfl rfl hmk ?_)
    | fail)
  intro wv hr hbv
  have H9 := H8.step hbv
  clear p0
  have p0 := H9.has.1.cell 0
  have HR := Lib.hid (And.intro hr hbv)
  have HQ := Lib.hid H8
  clear hr hbv H8 H9
  go_wp2_with fail
  clear p0
  have hUl : (riseZ f 8).length = u := by rw [HP.out.2.2.2, rise_length]
  have HU := Lib.hid hUl
  clear hUl
  go_loopw [14, 15] (fun r i wr => ∃ m : Nat, m ≤ u ∧ i = .int .i64 ((m : Int) - 1) ∧ r = .int .i64 ((qF (riseZ f 8) q (u - m) : Nat) : Int) ∧ qF (riseZ f 8) q (u - m) ≤ q ∧ RowAt (Value.int .i64) wr wp.heap.size 3 (dgFrom (riseZ f 8) q m) [] ∧ Below wp.heap.size wp wr) (fun _ i _ => (intOf i + 1).toNat)
  case atStart => exact ⟨u, Nat.le_refl _, rfl, by rw [Nat.sub_self]; rfl, by rw [Nat.sub_self]; exact Nat.le_refl _, by rw [← HU.out, dgFrom_all, HU.out]; exact HR.out.1, HR.out.2⟩
  case round =>
    obtain ⟨m, hm, rfl, rfl, hqle, hrow, hbr⟩ := hrel
    have H := HQ.out.step hbr
    have p1 := H.has.1.cell 1
    rcases m with _ | m
    · rw [dgFrom_zero] at hrow
      have sv : Sl (Value.int .i64) wr (some ⟨wp.heap.size, 0, none⟩) u (dgL (riseZ f 8) q) := by
        have h1 := hrow.sl (by rw [dgL_length, HU.out]; omega)
        rw [dgL_length, HU.out] at h1
        exact h1
      have HS := Lib.hid (H.sl sv)
      have hbS := H.size
      clear H sv hrow hbr p1
      have p0 := HS.out.has.2.1.cell 0
      have p1 := HS.out.has.2.1.cell 1
      have p2 := HS.out.has.2.1.cell 2
      have e0 : ((0 : Nat) : Int) - 1 = -1 := rfl
      rw [e0]
      clear e0
      go_wp2_with fail
      refine (cell_i PA PB PC (some ⟨wp.heap.size, 0, none⟩) u pa u pb N pc u u (riseS f 8) (riseZ f 8) PL (dgL (riseZ f 8) q) _ (HS.out.has.2.2.2.2.1.sl (by omega)) (HS.out.has.2.2.2.1.sl (by omega)) (HS.out.has.2.2.1.sl (by omega)) HS.out.has.1).mono ?_
      intro e w5 hp
      have hwl := whole_law HP.out.1 hqN
      obtain ⟨c0, hc0⟩ : ∃ c0, c0 = nth PL q := ⟨_, rfl⟩
      unfold CellPost_i at hp
      rw [show PL.length = N by rw [HP.out.2.1]; exact prod_length, hwl.1, hwl.2, ← hc0] at hp
      obtain ⟨hp, hb5⟩ := hp
      obtain rfl : e = .returned (.tuple #[.int .i64 c0, .int .i64 0]) := by
        rcases hp with ⟨h, _⟩ | ⟨_, h⟩
        · exact absurd rfl h
        · exact h
      have G5 := HS.out.step hb5
      have HC := Lib.hid hc0
      have HD := Lib.hid G5.drew
      clear hp hb5 hwl hc0 p0 p1 p2
      have p0 := G5.has.2.1.cell 0
      have t0 := G5.has.2.2.2.2.2.2.2.2.2.1.cell 0
      have t1 := G5.has.2.2.2.2.2.2.2.2.2.1.cell 1
      have t2 := G5.has.2.2.2.2.2.2.2.2.2.1.cell 2
      have HFx : Hid (∀ v, inB S1 v = true → f v = true) := Lib.hid (fun v hv => by rw [HP.out.2.2.1]; simp [hv])
      have HFy : Hid (∀ v, inB S2 v = true → f v = true) := Lib.hid (fun v hv => by rw [HP.out.2.2.1]; simp [hv])
      clear G5
      go_wp2_with fail
      go_region_held3 (fun w' => w'.cell? ⟨w4.heap.size, 0, none⟩ = some (.slice PA u pa) ∧ w'.cell? ⟨w2.heap.size, 0, none⟩ = some (.slice XA x1 xa) ∧ w'.cell? ⟨w2.heap.size, 1, none⟩ = some (.slice XB x1 xb) ∧ w'.cell? ⟨w2.heap.size, 2, none⟩ = some (.slice XC N1 xc)) (first | assumption | exact ⟨p0, t0, t1, t2⟩ | go_keep)
        (first
          | ((go_at_call 26); (refine (some_part (f := f) (g := inB S1) HFx.out HX.out.2 q PA (some ⟨wp.heap.size, 0, none⟩) XA u pa u x1 xa HX.out.1 HP.out.2.2.2 _ (HD.out.has.2.2.2.2.1.sl (by omega)) HD.out.has.1 (HD.out.has.2.2.2.2.2.2.2.2.2.2.2.2.1.sl (by omega))).mono ?_); (rintro e w6 ⟨Dx, kx, rfl, hoD, hbD⟩); (have GS := (HD.out.step hbD).own hoD); (have p0 := GS.has.2.2.1.cell 0); (have t0 := GS.has.2.2.2.2.2.2.2.2.2.2.1.cell 0); (have t1 := GS.has.2.2.2.2.2.2.2.2.2.2.1.cell 1); (have t2 := GS.has.2.2.2.2.2.2.2.2.2.2.1.cell 2))
          | ((go_at_call 25); (refine (cell_part (f := f) (g := inB S1) HFx.out HX.out.2 q XA XB XC Dx x1 xa x1 xb xc x1 kx (mendL L1 N1) (mendL_length _ _) _ (GS.has.2.2.2.2.2.2.2.2.2.2.2.2.2.1.sl (by omega)) (GS.has.2.2.2.2.2.2.2.2.2.2.2.2.1.sl (by omega)) (GS.has.2.2.2.2.2.2.2.2.2.2.2.1.sl (by omega)) (GS.has.1.sl (by omega))).mono ?_); (rintro e w7 ⟨rfl, hbE⟩); (have GC := GS.step hbE); (have p0 := GC.has.2.2.1.cell 0); (have t0 := GC.has.2.2.2.2.2.2.2.2.2.2.1.cell 0); (have t1 := GC.has.2.2.2.2.2.2.2.2.2.2.1.cell 1); (have t2 := GC.has.2.2.2.2.2.2.2.2.2.2.1.cell 2)))
      obtain ⟨vx, hvx⟩ : ∃ vx, vx = nth (mendL L1 N1) (atS (riseZ (inB S1) 8) (partD f (inB S1) q)).toNat := ⟨_, rfl⟩
      rw [← hvx]
      have HVX := Lib.hid hvx
      clear p0 t0 t1 t2 hvx GS hoD hbD hbE
      have HD2 := Lib.hid GC.drew
      have p0 := GC.has.2.2.1.cell 0
      have t0 := GC.has.2.2.2.2.2.2.1.cell 0
      have t1 := GC.has.2.2.2.2.2.2.1.cell 1
      have t2 := GC.has.2.2.2.2.2.2.1.cell 2
      clear GC
      go_wp2_with fail
      go_region_held3 (fun w' => w'.cell? ⟨w4.heap.size, 0, none⟩ = some (.slice PA u pa) ∧ w'.cell? ⟨w3.heap.size, 0, none⟩ = some (.slice YA y1 ya) ∧ w'.cell? ⟨w3.heap.size, 1, none⟩ = some (.slice YB y1 yb) ∧ w'.cell? ⟨w3.heap.size, 2, none⟩ = some (.slice YC N2 yc)) (first | assumption | exact ⟨p0, t0, t1, t2⟩ | go_keep)
        (first
          | ((go_at_call 26); (refine (some_part (f := f) (g := inB S2) HFy.out HY.out.2 q PA (some ⟨wp.heap.size, 0, none⟩) YA u pa u y1 ya HY.out.1 HP.out.2.2.2 _ (HD2.out.has.2.2.2.2.2.1.sl (by omega)) HD2.out.has.2.1 (HD2.out.has.2.2.2.2.2.2.2.2.2.1.sl (by omega))).mono ?_); (rintro e w8 ⟨Dy, ky, rfl, hoD, hbD⟩); (have GS := (HD2.out.step hbD).own hoD); (have p0 := GS.has.2.2.2.1.cell 0); (have t0 := GS.has.2.2.2.2.2.2.2.1.cell 0); (have t1 := GS.has.2.2.2.2.2.2.2.1.cell 1); (have t2 := GS.has.2.2.2.2.2.2.2.1.cell 2))
          | ((go_at_call 25); (refine (cell_part (f := f) (g := inB S2) HFy.out HY.out.2 q YA YB YC Dy y1 ya y1 yb yc y1 ky (mendL L2 N2) (mendL_length _ _) _ (GS.has.2.2.2.2.2.2.2.2.2.2.1.sl (by omega)) (GS.has.2.2.2.2.2.2.2.2.2.1.sl (by omega)) (GS.has.2.2.2.2.2.2.2.2.1.sl (by omega)) (GS.has.1.sl (by omega))).mono ?_); (rintro e w9 ⟨rfl, hbE⟩); (have GC := GS.step hbE); (have p0 := GC.has.2.2.2.1.cell 0); (have t0 := GC.has.2.2.2.2.2.2.2.1.cell 0); (have t1 := GC.has.2.2.2.2.2.2.2.1.cell 1); (have t2 := GC.has.2.2.2.2.2.2.2.1.cell 2)))
      obtain ⟨vy, hvy⟩ : ∃ vy, vy = nth (mendL L2 N2) (atS (riseZ (inB S2) 8) (partD f (inB S2) q)).toNat := ⟨_, rfl⟩
      rw [← hvy]
      have hmul : wrap64 (vx * vy) = c0 := by
        rw [HC.out, HP.out.2.1, prod_nth hqN]
        unfold pcell_i
        rw [HVX.out, hvy, mend_uni, mend_uniZ', ← HP.out.2.2.1]
        rfl
      have p2 := GC.has.2.2.2.1.cell 2
      obtain ⟨gp, rp, rfl, _, hrp, _⟩ := GC.has.2.2.2.2.1.row (by omega)
      have g1 := hrp.cell (j := q) (by rw [HP.out.2.1, prod_length]; exact hqN)
      rw [← HC.out] at g1
      have HB := Lib.hid GC.bel
      clear p0 t0 t1 t2 hvy GS hoD hbD hbE GC hrp
      go_wp2_with fail
      go_ret
      exact ⟨rfl, HB.out⟩
    · obtain ⟨z, hz⟩ : ∃ z : Nat, nth (riseZ f 8) m = (z : Int) := ⟨(nth (riseZ f 8) m).toNat, by have := riseZ_one f 8 _ (nth_mem (show m < (riseZ f 8).length by rw [HU.out]; omega)); omega⟩
      have hz1 : 1 ≤ z := by have := riseZ_one f 8 _ (nth_mem (show m < (riseZ f 8).length by rw [HU.out]; omega)); omega
      have sZ := H.has.2.2.1.sl (by omega)
      obtain ⟨bz, oz, rfl, _, hcz⟩ := sZ.at' (by omega)
      have g1 := hcz m (by omega)
      rw [hz] at g1
      obtain ⟨r, hr⟩ : ∃ r, r = qF (riseZ f 8) q (u - (m + 1)) := ⟨_, rfl⟩
      rw [← hr] at hqle ⊢
      obtain ⟨dm, hdm⟩ : ∃ dm, dm = r % z := ⟨_, rfl⟩
      obtain ⟨r2, hr2⟩ : ∃ r2, r2 = r / z := ⟨_, rfl⟩
      have e1 : (r : Int) % (z : Int) = (dm : Int) := by rw [hdm]; simp
      have e2 : (r : Int) / (z : Int) = (r2 : Int) := by rw [hr2]; simp
      have e3 : ((m + 1 : Nat) : Int) - 1 = (m : Int) := by omega
      have hdg : dgAt (riseZ f 8) q m = (dm : Int) := by
        unfold dgAt
        rw [HU.out, hz, hdm, hr, show u - 1 - m = u - (m + 1) by omega]
        simp
      have hset := hrow.set (j := m) (by rw [dgFrom_length, HU.out]; omega) (dm : Int)
      rw [← hdg, dgFrom_step] at hset
      have hqn : qF (riseZ f 8) q (u - m) = r2 := by
        rw [show u - m = (u - (m + 1)) + 1 by omega]
        show qF (riseZ f 8) q (u - (m + 1)) / (nth (riseZ f 8) ((riseZ f 8).length - 1 - (u - (m + 1)))).toNat = r2
        rw [HU.out, show u - 1 - (u - (m + 1)) = m by omega, hz, ← hr, hr2]
        simp
      have hle2 : r2 ≤ q := by rw [hr2]; exact Nat.le_trans (Nat.div_le_self _ _) hqle
      have x0 := hrow.cell (j := m) (by rw [dgFrom_length, HU.out]; omega)
      have f0 := hrow.frozen m
      have hne : ((z : Int) == 0) = false := by simp; omega
      have hne2 : ¬ z = 0 := by omega
      have hmu : m < u := by omega
      have hcw := hbr.setCell (p := ⟨wp.heap.size, m, none⟩) (Nat.le_refl _) (.int .i64 (dm : Int))
      rw [hdg] at hset
      have sZ2 : (wr.setCell ⟨wp.heap.size, m, none⟩ (.int .i64 (dm : Int))).cell? ⟨bz, oz + m, none⟩ = some (.int .i64 (z : Int)) := by
        have hblt : bz < wp.heap.size := by
          have h9 := HQ.out.has.2.2.1.geT (g := bz)
          obtain ⟨g', _, e9, _, _⟩ := HQ.out.has.2.2.1.row (by omega)
          injection e9 with e9
          injection e9 with e9 e10
          subst e10
          exact (h9 (by rw [e9])).2
        rw [cell_farN (by omega)]
        exact g1
      have HE := Lib.hid (And.intro hset (And.intro hqn (And.intro hle2 hcw)))
      have p1b : (wr.setCell ⟨wp.heap.size, m, none⟩ (.int .i64 (dm : Int))).cell? ⟨w4.heap.size, 1, none⟩ = _ := (cell_farN (by have := HQ.out.has.1.lt; omega)).trans p1
      rw [e3]
      clear hr hdm hr2 hdg hset hqn hle2 hcw hrow hbr hcz sZ H hz e3
      go_wp2_with fail
      have hw2 : wrap64 (r2 : Int) = (r2 : Int) := IntWalk.wrap64_in _ ⟨by omega, by have := HE.out.2.2.1; omega⟩
      exact ⟨⟨m, by omega, rfl, by rw [hw2, HE.out.2.1], by rw [HE.out.2.1]; exact HE.out.2.2.1, HE.out.1, HE.out.2.2.2⟩, by simp [intOf]⟩
theorem lawB (A1 : Option Addr) (n1 c1 : Nat) (S1 : List Int) (A2 : Option Addr) (n2 c2 : Nat) (Z1 : List Int) (A3 : Option Addr) (n3 c3 : Nat) (L1 : List Int) (B1 : Option Addr) (m1 d1 : Nat) (S2 : List Int) (B2 : Option Addr) (m2 d2 : Nat) (Z2 : List Int) (B3 : Option Addr) (m3 d3 : Nat) (L2 : List Int) (x : Int) (w : World)
    (h1 : Sl (Value.int .i64) w A1 n1 S1) (_ : Sl (Value.int .i64) w A2 n2 Z1) (h3 : Sl (Value.int .i64) w A3 n3 L1)
    (_ : n1 * 8 ≤ 140737488351232) (_ : n2 * 8 ≤ 140737488351232) (_ : n3 * 8 ≤ 140737488351232) (_ : n1 ≤ c1) (_ : n2 ≤ c2) (_ : n3 ≤ c3) (_ : ∀ y, y ∈ S1 ∨ y ∈ Z1 ∨ y ∈ L1 → (Lit.int .i64 y).wf = true)
    (k1 : Sl (Value.int .i64) w B1 m1 S2) (_ : Sl (Value.int .i64) w B2 m2 Z2) (k3 : Sl (Value.int .i64) w B3 m3 L2)
    (_ : m1 * 8 ≤ 140737488351232) (_ : m2 * 8 ≤ 140737488351232) (_ : m3 * 8 ≤ 140737488351232) (_ : m1 ≤ d1) (_ : m2 ≤ d2) (_ : m3 ≤ d3) (_ : ∀ y, y ∈ S2 ∨ y ∈ Z2 ∨ y ∈ L2 → (Lit.int .i64 y).wf = true) (_ : (Lit.int .i64 x).wf = true) :
    Calls Try.prog 5 #[.agg #[.slice A1 n1 c1, .slice A2 n2 c2, .slice A3 n3 c3], .agg #[.slice B1 m1 d1, .slice B2 m2 d2, .slice B3 m3 d3], .int .i64 x] w fun e w' => e = .returned (.bool true) ∧ Below w.heap.size w w' :=
  law A1 A2 A3 B1 B2 B3 n1 c1 n2 c2 n3 c3 m1 d1 m2 d2 m3 d3 S1 L1 S2 L2 x w h1 h3 k1 k3
end Go.Proofs.Ytgmchedfgdgenaa.FactorCells
