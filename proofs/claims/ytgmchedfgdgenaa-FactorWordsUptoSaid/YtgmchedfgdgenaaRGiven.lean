/- The reference's Given and Cell, walked. Conditions: the lists read, within Go's bound. -/
import Derived.Test.YtgmchedfgdgenaaJ16
import Derived.Test.YtgmchedfgdgenaaJ3
import Derived.Test.YtgmchedfgdgenaaJ12
namespace Go.Proofs.Ytgmchedfgdgenaa
open Go.RowKit
attribute [local go_sem] Oper.semAt_some

def givenL (z step x m : Nat) : List Int := (List.range m).map fun t => (((firstF z step t).toNat + x * step : Nat) : Int)
def RGivenPost (S Z : List Int) (m : Nat) (v x : Int) (w : World) (e : Ending) (w' : World) : Prop :=
  (givenErr S Z m v x ≠ 0 ∧ e = .returned (.tuple #[.agg #[.slice none 0 0, .slice none 0 0, .int .i64 0], .slice none 0 0, .int .i64 (givenErr S Z m v x)]) ∧ Below w.heap.size w w') ∨
  (givenErr S Z m v x = 0 ∧ ∃ p z step P : Nat, OutAt S Z v m p z step P ∧ 0 ≤ x ∧ x < (z : Int) ∧ ∃ A c B d C k, e = .returned (.tuple #[.agg #[.slice A (S.length - 1) c, .slice B (S.length - 1) d, .int .i64 ((P * step : Nat) : Int)], .slice C (P * step) k, .int .i64 0]) ∧
    OwnR (Value.int .i64) w' w.heap.size 3 A (S.length - 1) c (S.take p ++ S.drop (p + 1)) ∧ OwnR (Value.int .i64) w' w.heap.size 3 B (S.length - 1) d (Z.take p ++ Z.drop (p + 1)) ∧ OwnR (Value.int .i64) w' w.heap.size 3 C (P * step) k (givenL z step x.toNat (P * step)) ∧ Below w.heap.size w w')
set_option maxRecDepth 100000 in
set_option maxHeartbeats 4000000 in
theorem rgiven_any (A1 A2 : Option Addr) (n1 c1 n2 c2 m : Nat) (S Z : List Int) (v x : Int) (w : World) (h1 : Sl (Value.int .i64) w A1 n1 S) (h2 : Sl (Value.int .i64) w A2 n2 Z) (hb : (n1 + 1) * 8 ≤ 140737488351232) :
    Calls Try.prog 56 #[.agg #[.slice A1 n1 c1, .slice A2 n2 c2, .int .i64 (m : Int)], .agg #[.int .i64 v, .int .i64 x]] w (RGivenPost S Z m v x w) := by
  have HL := Lib.hid (And.intro h1.len h2.len)
  have HI := Lib.hid (And.intro h1 h2)
  have H0 := (((((Held.init w).sl h1).sl h2).new 29 [.slice A1 n1 c1, .slice A2 n2 c2, .int .i64 (m : Int)]).new 64 [.int .i64 v, .int .i64 x]).new 29 [.slice none 0 0, .slice none 0 0, .int .i64 0]
  simp only [World.size_alloc] at H0
  clear h1 h2
  have a0 := H0.has.2.2.1.cell 0
  have a1 := H0.has.2.2.1.cell 1
  have a2 := H0.has.2.2.1.cell 2
  have b0 := H0.has.2.1.cell 0
  go_enter Try.func56, Try.ntmps56
  go_wp2_with fail
  refine (rout_any A1 A2 n1 c1 n2 c2 m S Z v _ H0.has.2.2.2.2.1 H0.has.2.2.2.1 hb).mono ?_
  intro e w1 hp
  unfold ROutPost at hp
  rcases hp with ⟨hu, rfl, hb1⟩ | ⟨hu, p, z, step, P, hO, A, c, B, d, C, k, rfl, sA, sB, hR, hb1⟩
  · obtain ⟨ue, hue⟩ : ∃ ue, ue = outErr S Z m v := ⟨_, rfl⟩
    have heq : givenErr S Z m v x = ue := by unfold givenErr; rw [if_pos hu, hue]
    rw [← hue] at hu ⊢
    have hnz := hu
    have hne : decide (ue = 0) = false := by simpa using hu
    have HQ := Lib.hid heq
    have H3 := (H0.step hb1).new 29 [.slice none 0 0, .slice none 0 0, .int .i64 0]
    clear hue heq hu hb1 H0 a0 a1 a2 b0
    have x0 := H3.has.2.1.cell 0
    have x1 := H3.has.2.1.cell 1
    have x2 := H3.has.2.1.cell 2
    have f0 := H3.has.2.1.frozen 0
    have f1 := H3.has.2.1.frozen 1
    have f2 := H3.has.2.1.frozen 2
    have HE := Lib.hid H3
    clear H3
    go_wp2_with fail
    obtain ⟨wz, hwz⟩ : ∃ wz, wz = ((((w1.alloc (.cells #[.slice none 0 0, .slice none 0 0, .int .i64 0] 29)).setCell ⟨w.heap.size + 1 + 1, 0, none⟩ (.slice none 0 0)).setCell ⟨w.heap.size + 1 + 1, 1, none⟩ (.slice none 0 0)).setCell ⟨w.heap.size + 1 + 1, 2, none⟩ (.int .i64 0)) := ⟨_, rfl⟩
    obtain ⟨y0, y1, y2, hbz, htz⟩ := set3 HE.out.bel HE.out.has.2.1 (by omega) hwz
    rw [← hwz]
    exact bodyPost_ret (v := .tuple #[.agg #[.slice none 0 0, .slice none 0 0, .int .i64 0], .slice none 0 0, .int .i64 ue]) (by simp [results, Try.results56, go_sem, y0, y1, y2]) rfl (.inl ⟨by rw [HQ.out]; exact hnz, by rw [HQ.out], hbz⟩)
  · obtain ⟨Q, hQ⟩ : ∃ Q, Q = P * step := ⟨_, rfl⟩
    rw [← hQ] at hR ⊢
    have hR := hR.rows
    have hck : checkC S Z m = 0 := by
      unfold outErr at hu
      by_cases h : checkC S Z m = 0
      · exact h
      · rw [if_pos h] at hu; exact absurd hu h
    obtain ⟨T, hN⟩ := checkC_ok hck
    have hfind := hO.find (asc_nodup T.asc)
    have hge : givenErr S Z m v x = if x < 0 ∨ (z : Int) ≤ x then 3 else 0 := by unfold givenErr; rw [hu, hfind]; simp [hO.size]
    have H1 := ((Held.and (Q := fun w => Rows (Value.int .i64) w C Q ((List.range Q).map (rowL z step m))) (H0.step hb1) hR).own sA).own sB
    have hm31 : m ≤ 2147483647 := by have := T.cnt; omega
    have hQm : Q ≤ m := by
      have h1 := hO.m
      rw [← Nat.mul_assoc, ← hQ] at h1
      have h2 : Q * 1 ≤ Q * z := Nat.mul_le_mul_left _ hO.z1
      rw [Nat.mul_one] at h2
      rw [h1]; exact h2
    have hpn : p < n1 := by rw [← HL.out.1]; exact hO.lt
    have hn2 : n2 = n1 := by have := T.len; have := HL.out.1; have := HL.out.2; omega
    have hzz := hO.size
    have HO := Lib.hid (And.intro hO (And.intro hQ (And.intro hfind (And.intro hge (And.intro hR (And.intro T hzz))))))
    clear hu hO hQ hck T hN hfind hge hR hzz sA sB hb1 H0 a0 a1 a2 b0
    subst hn2
    have H2 := H1.new 29 [.slice A (S.length - 1) c, .slice B (S.length - 1) d, .int .i64 (Q : Int)]
    have HC := Lib.hid H2
    have b1 := H2.has.2.2.2.2.2.1.cell 1
    have b0 := H2.has.2.2.2.2.2.1.cell 0
    have a0 := H2.has.2.2.2.2.2.2.1.cell 0
    have a1 := H2.has.2.2.2.2.2.2.1.cell 1
    clear H1 H2
    by_cases hx0 : x < 0
    · have d1 : decide (x < 0) = true := by simpa using hx0
      have heq : givenErr S Z m v x = 3 := by rw [HO.out.2.2.2.1, if_pos (.inl hx0)]
      have hnz : (3 : Int) ≠ 0 := by decide
      have HQ := Lib.hid heq
      clear heq
      go_wp2_with fail
      go_quiet (fail)
      have H3 := HC.out.drewN nq
      clear a0 a1 b0 b1
      have x0 := H3.has.2.2.2.2.1.cell 0
      have x1 := H3.has.2.2.2.2.1.cell 1
      have x2 := H3.has.2.2.2.2.1.cell 2
      have f0 := H3.has.2.2.2.2.1.frozen 0
      have f1 := H3.has.2.2.2.2.1.frozen 1
      have f2 := H3.has.2.2.2.2.1.frozen 2
      have HE := Lib.hid H3
      clear H3
      go_wp2_with fail
      obtain ⟨wz, hwz⟩ : ∃ wz, wz = (((((w1.alloc (.cells #[.slice A (S.length - 1) c, .slice B (S.length - 1) d, .int .i64 (Q : Int)] 29)).drewN nq).setCell ⟨w.heap.size + 1 + 1, 0, none⟩ (.slice none 0 0)).setCell ⟨w.heap.size + 1 + 1, 1, none⟩ (.slice none 0 0)).setCell ⟨w.heap.size + 1 + 1, 2, none⟩ (.int .i64 0)) := ⟨_, rfl⟩
      obtain ⟨y0, y1, y2, hbz, htz⟩ := set3 HE.out.bel HE.out.has.2.2.2.2.1 (by omega) hwz
      rw [← hwz]
      exact bodyPost_ret (v := .tuple #[.agg #[.slice none 0 0, .slice none 0 0, .int .i64 0], .slice none 0 0, .int .i64 3]) (by simp [results, Try.results56, go_sem, y0, y1, y2]) rfl (.inl ⟨by rw [HQ.out]; exact hnz, by rw [HQ.out], hbz⟩)
    · obtain ⟨val, hval⟩ : ∃ val : Nat, x = (val : Int) := ⟨x.toNat, by omega⟩
      subst hval
      have d1 : decide ((val : Int) < 0) = false := by simp
      obtain ⟨b2, o2, rfl, hbw2, hc2⟩ := HI.out.2.at' (by omega)
      have g0 := hc2 p hpn
      rw [HO.out.2.2.2.2.2.2] at g0
      have g2 := (HC.out.bel.cell (p := ⟨b2, o2 + p, none⟩) hbw2).trans g0
      have hfn := HO.out.2.2.1
      have hp0 : (0 : Int) ≤ (p : Int) := by omega
      have hp1 : (p : Int) < (n2 : Int) := by omega
      clear hc2 g0 hx0
      by_cases hxz : z ≤ val
      · have d2 : decide ((z : Int) ≤ (val : Int)) = true := by simpa using hxz
        have heq : givenErr S Z m v (val : Int) = 3 := by rw [HO.out.2.2.2.1, if_pos (.inr (by omega))]
        have hnz : (3 : Int) ≠ 0 := by decide
        have HQ := Lib.hid heq
        clear heq
        go_wp2_with fail
        go_quiet ((go_at_call 75; exact Calls.quiet_of_same ((find_any A1 n2 c1 S v _ ((HC.out.has.2.2.2.2.2.2.2.2.1).drewN _)).mono fun _ _ ⟨h1, h2⟩ => ⟨h1, h2.symm⟩)))
        have H3 := HC.out.drewN nq
        clear a0 a1 b0 b1 g2 hfn
        have x0 := H3.has.2.2.2.2.1.cell 0
        have x1 := H3.has.2.2.2.2.1.cell 1
        have x2 := H3.has.2.2.2.2.1.cell 2
        have f0 := H3.has.2.2.2.2.1.frozen 0
        have f1 := H3.has.2.2.2.2.1.frozen 1
        have f2 := H3.has.2.2.2.2.1.frozen 2
        have HE := Lib.hid H3
        clear H3
        go_wp2_with fail
        obtain ⟨wz, hwz⟩ : ∃ wz, wz = (((((w1.alloc (.cells #[.slice A (S.length - 1) c, .slice B (S.length - 1) d, .int .i64 (Q : Int)] 29)).drewN nq).setCell ⟨w.heap.size + 1 + 1, 0, none⟩ (.slice none 0 0)).setCell ⟨w.heap.size + 1 + 1, 1, none⟩ (.slice none 0 0)).setCell ⟨w.heap.size + 1 + 1, 2, none⟩ (.int .i64 0)) := ⟨_, rfl⟩
        obtain ⟨y0, y1, y2, hbz, htz⟩ := set3 HE.out.bel HE.out.has.2.2.2.2.1 (by omega) hwz
        rw [← hwz]
        exact bodyPost_ret (v := .tuple #[.agg #[.slice none 0 0, .slice none 0 0, .int .i64 0], .slice none 0 0, .int .i64 3]) (by simp [results, Try.results56, go_sem, y0, y1, y2]) rfl (.inl ⟨by rw [HQ.out]; exact hnz, by rw [HQ.out], hbz⟩)
      · have d2 : decide ((z : Int) ≤ (val : Int)) = false := by simp; omega
        have heq : givenErr S Z m v (val : Int) = 0 := by rw [HO.out.2.2.2.1, if_neg (by omega)]
        have HQ := Lib.hid heq
        clear heq
        go_wp2_with fail
        go_quiet ((go_at_call 75; exact Calls.quiet_of_same ((find_any A1 n2 c1 S v _ ((HC.out.has.2.2.2.2.2.2.2.2.1).drewN _)).mono fun _ _ ⟨h1, h2⟩ => ⟨h1, h2.symm⟩)))
        have H3 := HC.out.drewN nq
        obtain ⟨wl, hwl⟩ : ∃ wl, wl = ((w1.alloc (.cells #[.slice A (S.length - 1) c, .slice B (S.length - 1) d, .int .i64 (Q : Int)] 29)).drewN nq) := ⟨_, rfl⟩
        have H3 : Held w _ wl := hwl ▸ H3
        rw [← hwl]
        have HL3 := Lib.hid H3
        clear a0 a1 b0 b1 g2 hfn hwl H3
        go_wp2_with fail
        go_loopw [10, 11] (fun l y wr => ∃ (t : Nat) (D : Option Addr) (dk : Nat), t ≤ Q ∧ y = .int .i64 (t : Nat) ∧ l = .slice D t dk ∧ OwnR (Value.int .i64) wr wl.heap.size 3 D t dk (givenL z step val t) ∧ Below wl.heap.size wl wr) (fun _ y _ => Q - (intOf y).toNat)
        case atStart => exact ⟨0, none, 0, Nat.zero_le _, rfl, rfl, OwnR.nil _ _ _ _, Below.refl _ _⟩
        case round =>
          obtain ⟨t, D, dk, ht, rfl, rfl, hO, hbr⟩ := hrel
          have H := HL3.out.step hbr
          by_cases hlt : t < Q
          · obtain ⟨cb, co, R, rn, rd, rfl, hcl, p0, hrow⟩ := HL3.out.has.2.2.2.1.row hlt
            have p0 := (hbr.cell (p := ⟨cb, co + t, none⟩) hcl).trans p0
            have hnr : nth ((List.range Q).map (rowL z step m)) t = (List.range z).map fun j : Nat => (((firstF z step t).toNat + j * step : Nat) : Int) := by
              rw [nth_map _ (by simpa using hlt), nth_eq (by simpa using hlt)]
              simp only [List.getElem_range]
              exact HO.out.1.rows (by rw [← HO.out.2.1]; exact hlt)
            rw [hnr] at hrow
            have hrn := hrow.len
            rw [List.length_map, List.length_range] at hrn
            obtain ⟨rb, ro, rfl, hrl, hrc⟩ := hrow.at' (by omega)
            have hvr : val < rn := by omega
            have p2 := hrc val hvr
            rw [nth_map _ (by simpa using (show val < z by omega)), nth_eq (by simpa using (show val < z by omega)), List.getElem_range] at p2
            obtain ⟨x, hx⟩ : ∃ x : Int, x = (((firstF z step t).toNat + val * step : Nat) : Int) := ⟨_, rfl⟩
            rw [← hx] at p2
            have p2 := (hbr.cell (p := ⟨rb, ro + val, none⟩) hrl).trans p2
            have hfl : w.heap.size + 1 < wl.heap.size := HL3.out.has.2.2.2.2.2.1.lt
            have hcb : cb < wr.heap.size := Nat.lt_of_lt_of_le hcl hbr.size
            have hrb : rb < wr.heap.size := Nat.lt_of_lt_of_le hrl hbr.size
            have p1 := H.has.2.2.2.2.2.1.cell 1
            have hv0 : (0 : Int) ≤ (val : Int) := by omega
            have hv1 : (val : Int) < (rn : Int) := by omega
            have ht0 : (0 : Int) ≤ (t : Int) := by omega
            have ht1 : (t : Int) < (Q : Int) := by omega
            have hfb : w.heap.size + 1 < wr.heap.size := H.has.2.2.2.2.2.1.lt
            have hgl : givenL z step val (t + 1) = givenL z step val t ++ [x] := by unfold givenL; rw [List.range_succ, List.map_append, hx]; rfl
            obtain ⟨XL, hXL⟩ : ∃ XL, XL = givenL z step val t := ⟨_, rfl⟩
            rw [← hXL] at hO hgl
            have HY := Lib.hid (And.intro hO hbr)
            have HG := Lib.hid hgl
            obtain ⟨⟨ix, e1, e2, e3, e4, e5⟩, _, _⟩ := eiI
            have hk1 : t + 1 ≤ maxLen := by unfold maxLen; omega
            have hk2 : (t + 1) * 8 ≤ 140737488355328 := by omega
            have hszl := hbr.size
            clear H hnr hrow hrn hrc hx hO hgl hXL hbr
            go_upto_region 10 with fail
--R10
            refine wp_region_lastL (S := fun w' => w'.cell? ⟨cb, co + t, none⟩ = some (.slice (some ⟨rb, ro, none⟩) rn rd) ∧ w'.cell? ⟨w.heap.size + 1, 1, none⟩ = some (.int .i64 (val : Int)) ∧ w'.cell? ⟨rb, ro + val, none⟩ = some (.int .i64 x)) 11 11 (by kernel_rfl) rfl rfl rfl (by kernel_rfl) ?hS1 (fun hHeld => ?rest1)
            case hS1 => (first | assumption | exact ⟨p0, p1, p2⟩ | exact ⟨q0, q1, q2⟩ | go_keep)
            refine wpAnyH_takeL (i := 0) (v := ?v2) rfl (by kernel_rfl) (by kernel_rfl) (by kernel_rfl) (fun _ _ _ h => h) (by rfl) ?hy2 (by assumption) ?rest2
            case hy2 => (intro w hSw; (try dsimp only at hSw); go_simp; try with_reducible rfl)
            try simp only [Act.put, List.setIfInBounds_toArray, List.set_cons_zero, List.set_cons_succ]
            refine wpAnyH_takeL (i := 1) (v := ?v3) rfl (by kernel_rfl) (by kernel_rfl) (by kernel_rfl) (fun _ _ _ h => h) (by rfl) ?hy3 (by assumption) ?rest3
            case hy3 => (intro w hSw; (try dsimp only at hSw); go_simp; try with_reducible rfl)
            try simp only [Act.put, List.setIfInBounds_toArray, List.set_cons_zero, List.set_cons_succ]
            refine wpAnyH_takeL (i := 2) (v := ?v4) rfl (by kernel_rfl) (by kernel_rfl) (by kernel_rfl) (fun _ _ _ h => h) (by rfl) ?hy4 (by assumption) ?rest4
            case hy4 => (intro w hSw; (try dsimp only at hSw); go_simp; try with_reducible rfl)
            try simp only [Act.put, List.setIfInBounds_toArray, List.set_cons_zero, List.set_cons_succ]
            refine wpAnyH_takeL (i := 3) (v := ?v5) rfl (by kernel_rfl) (by kernel_rfl) (by kernel_rfl) (fun _ _ _ h => h) (by rfl) ?hy5 (by assumption) ?rest5
            case hy5 => (intro w hSw; (try dsimp only at hSw); go_simp; try with_reducible rfl)
            try simp only [Act.put, List.setIfInBounds_toArray, List.set_cons_zero, List.set_cons_succ]
            refine wpAnyH_takeL (i := 4) (v := ?v6) rfl (by kernel_rfl) (by kernel_rfl) (by kernel_rfl) (fun _ _ _ h => h) (by rfl) ?hy6 (by assumption) ?rest6
            case hy6 => (intro w hSw; (try dsimp only at hSw); go_simp; try with_reducible rfl)
            try simp only [Act.put, List.setIfInBounds_toArray, List.set_cons_zero, List.set_cons_succ]
            refine wpAnyH_takeL (i := 5) (v := ?v7) rfl (by kernel_rfl) (by kernel_rfl) (by kernel_rfl) (fun _ _ _ h => h) (by rfl) ?hy7 (by assumption) ?rest7
            case hy7 => (intro w hSw; (try dsimp only at hSw); go_simp; try with_reducible rfl)
            try simp only [Act.put, List.setIfInBounds_toArray, List.set_cons_zero, List.set_cons_succ]
            refine wpAnyH_takeL (i := 6) (v := ?v8) rfl (by kernel_rfl) (by kernel_rfl) (by kernel_rfl) (fun _ _ _ h => h) (by rfl) ?hy8 (by assumption) ?rest8
            case hy8 => (intro w hSw; (try dsimp only at hSw); go_simp; try with_reducible rfl)
            try simp only [Act.put, List.setIfInBounds_toArray, List.set_cons_zero, List.set_cons_succ]
            refine wpAnyH_takeL (i := 7) (v := ?v9) rfl (by kernel_rfl) (by kernel_rfl) (by kernel_rfl) (fun _ _ _ h => h) (by rfl) ?hy9 (by assumption) ?rest9
            case hy9 => (intro w hSw; (try dsimp only at hSw); go_simp; try with_reducible rfl)
            try simp only [Act.put, List.setIfInBounds_toArray, List.set_cons_zero, List.set_cons_succ]
            refine wpAnyH_takeL (i := 8) (v := ?v10) rfl (by kernel_rfl) (by kernel_rfl) (by kernel_rfl) (fun _ _ _ h => h) (by rfl) ?hy10 (by assumption) ?rest10
            case hy10 => (intro w hSw; (try dsimp only at hSw); go_simp; try with_reducible rfl)
            try simp only [Act.put, List.setIfInBounds_toArray, List.set_cons_zero, List.set_cons_succ]
            refine wpAnyH_ready (rs := [9]) (by kernel_rfl) (by simp) (consL rfl (fun K hK => ?step11))
            (go_simp; (have Y1 := (HY.out.1.alloc (.cells #[.int .i64 x] 3)).drew); (have hq1 : Below wr.heap.size wr ((wr.alloc (.cells #[.int .i64 x] 3)).drew) := below_drewN ((Below.refl _ _).alloc (Nat.le_refl _) _) 1); (have q0 := (hq1.cell (p := ⟨cb, co + t, none⟩) hcb).trans p0); (have q1 := (hq1.cell (p := ⟨w.heap.size + 1, 1, none⟩) hfb).trans p1); (have q2 := (hq1.cell (p := ⟨rb, ro + val, none⟩) hrb).trans p2); (have hz6 : wl.heap.size ≤ _ := (HY.out.2.trans (hq1.mono HY.out.2.size)).size))
            refine hK.out _ _ ?hS11 (fun hHeld => ?rest11)
            case hS11 => (first | assumption | exact ⟨p0, p1, p2⟩ | exact ⟨q0, q1, q2⟩ | go_keep)
            clear hK K
            try simp only [Act.put, List.setIfInBounds_toArray, List.set_cons_zero, List.set_cons_succ]
            refine wpAnyH_ready (rs := [10]) (by kernel_rfl) (by simp) (consL rfl (fun K hK => ?step12))
            (refine step_append_sl _ (Value.int .i64) (fun _ => rfl) (by rfl) (.tmp 48) (.tmp 57) 22 (by rfl) wl.heap.size 3 ix (.int .i64 0) 8 e1 e2 e3 e4 e5 (by rfl) D t dk XL (by rfl) Y1 _ 1 1 [x] (by rfl) ((Sl.one (enc := Value.int .i64) _ _ _).drewN 1) hk1 hk2 hz6 ?_; intro C9 k9 w9 ho9 hg9 hb9 hd9; have hb10 : Below wl.heap.size wl w9 := (HY.out.2.trans (hq1.mono HY.out.2.size)).trans hb9; have q0 := (hb9.cell (p := ⟨cb, co + t, none⟩) hcl).trans q0; have q1 := (hb9.cell (p := ⟨w.heap.size + 1, 1, none⟩) hfl).trans q1; have q2 := (hb9.cell (p := ⟨rb, ro + val, none⟩) hrl).trans q2)
            refine hK.out _ _ ?hS12 (fun hHeld => ?rest12)
            case hS12 => (first | assumption | exact ⟨p0, p1, p2⟩ | exact ⟨q0, q1, q2⟩ | go_keep)
            clear hK K
            try simp only [Act.put, List.setIfInBounds_toArray, List.set_cons_zero, List.set_cons_succ]
            refine wpAnyH_done (by kernel_rfl) ?_ _
            unfold AheadOf
            go_simp
--RE
            have ho9 : OwnR (Value.int .i64) w9 wl.heap.size 3 C9 (t + 1) k9 (givenL z step val (t + 1)) := by rw [HG.out]; exact ho9
            have HR := Lib.hid (And.intro ho9 hb10)
            clear Y1 hq1 q0 q1 q2 hz6 ho9 hg9 hb9 hd9 hb10 p0 p1 p2 hk1 hk2
            go_wp2_with fail
            exact ⟨⟨t + 1, C9, k9, by omega, by go_num, rfl, HR.out.1, HR.out.2⟩, by simp [intOf]; omega⟩
          · obtain rfl : t = Q := by omega
            have hres := H.has.2.2.2.2.1
            have x0 := hres.cell 0
            have x1 := hres.cell 1
            have x2 := hres.cell 2
            have f0 := hres.frozen 0
            have f1 := hres.frozen 1
            have f2 := hres.frozen 2
            have s0 := H.has.1.cell 0
            have s1 := H.has.1.cell 1
            have s2 := H.has.1.cell 2
            have HE := Lib.hid (And.intro H (And.intro hO hbr))
            clear H hO hbr hres
            go_wp2_with fail
            obtain ⟨wz, hwz⟩ : ∃ wz, wz = (((wr.setCell ⟨w.heap.size + 1 + 1, 0, none⟩ (.slice A (S.length - 1) c)).setCell ⟨w.heap.size + 1 + 1, 1, none⟩ (.slice B (S.length - 1) d)).setCell ⟨w.heap.size + 1 + 1, 2, none⟩ (.int .i64 (t : Int))) := ⟨_, rfl⟩
            obtain ⟨y0, y1, y2, hbz, htz⟩ := set3 HE.out.1.bel HE.out.1.has.2.2.2.2.1 (by omega) hwz
            rw [← hwz]
            refine bodyPost_ret (v := .tuple #[.agg #[.slice A (S.length - 1) c, .slice B (S.length - 1) d, .int .i64 (t : Int)], .slice D t dk, .int .i64 0]) (by simp [results, Try.results56, go_sem, y0, y1, y2]) rfl (.inr ⟨HQ.out, p, z, step, P, HO.out.1, by omega, by omega, A, c, B, d, D, dk, ?_, ?_, ?_, ?_, hbz⟩)
            · rw [HO.out.2.1]
            · have ho := HE.out.1.has.2.2.1
              exact (ho.turn htz (fun q e e2 => by have := ho.geT e; simp at this; omega)).mono (by simp; omega)
            · have ho := HE.out.1.has.2.1
              exact (ho.turn htz (fun q e e2 => by have := ho.geT e; simp at this; omega)).mono (by simp; omega)
            · have hwlt := HL3.out.has.2.2.2.2.1.lt
              rw [← HO.out.2.1]
              have ho := HE.out.2.1
              have e0 : ((val : Int)).toNat = val := Int.toNat_natCast _
              rw [e0]
              exact (ho.turn htz (fun q e e2 => by have := ho.geT e; omega)).mono (by omega)
def rcellF (S Z : List Int) (m : Nat) (d : List Int) : Int × Int := if checkC S Z m ≠ 0 then (0, checkC S Z m) else atC Z d
set_option maxRecDepth 100000 in
set_option maxHeartbeats 800000 in
theorem rcell_any (A1 A2 A : Option Addr) (n1 c1 n2 c2 m n c : Nat) (S Z d : List Int) (w : World) (h1 : Sl (Value.int .i64) w A1 n1 S) (h2 : Sl (Value.int .i64) w A2 n2 Z) (hd : Sl (Value.int .i64) w A n d) :
    Calls Try.prog 58 #[.agg #[.slice A1 n1 c1, .slice A2 n2 c2, .int .i64 (m : Int)], .slice A n c] w fun e w' => e = .returned (.tuple #[.int .i64 (rcellF S Z m d).1, .int .i64 (rcellF S Z m d).2]) ∧ Below w.heap.size w w' := by
  have H0 := (((Held.init w).sl h1).sl h2).sl hd |>.new 29 [.slice A1 n1 c1, .slice A2 n2 c2, .int .i64 (m : Int)]
  clear h1 h2 hd
  have a0 := H0.has.1.cell 0
  have a1 := H0.has.1.cell 1
  have a2 := H0.has.1.cell 2
  go_enter Try.func58, Try.ntmps58
  go_wp2_with fail
  refine (rcheck_any A1 A2 n1 c1 n2 c2 (m : Int) S Z _ H0.has.2.2.2.1 H0.has.2.2.1).mono ?_
  rintro e w1 ⟨rfl, hb1⟩
  have H1 := H0.step hb1
  clear H0 hb1 a0 a1 a2
  generalize hck1 : checkC S Z m = ck1 at *
  have HK := Lib.hid hck1
  clear hck1
  by_cases hk1 : ck1 = 0
  · subst hk1
    obtain ⟨T, _⟩ := checkC_ok HK.out
    have a1 := H1.has.1.cell 1
    have HT := Lib.hid T
    have hf : rcellF S Z m d = atC Z d := by unfold rcellF; rw [HK.out]; simp
    have HF := Lib.hid hf
    clear T hf
    go_wp2_with fail
    refine (rat_any A2 A n2 c2 n c Z d _ H1.has.2.2.1 H1.has.2.1 HT.out.one HT.out.cnt).mono ?_
    rintro e w2 ⟨rfl, q, rfl⟩
    have HB := Lib.hid (below_drewN H1.bel q)
    clear H1 a1
    go_wp2_with fail
    go_ret2
    rw [HF.out]
    exact ⟨rfl, HB.out⟩
  · have hne : decide (ck1 = 0) = false := by simpa using hk1
    have hf : rcellF S Z m d = (0, ck1) := by unfold rcellF; rw [HK.out]; simp [hk1]
    have HF := Lib.hid hf
    have HB := Lib.hid H1.bel
    clear hf H1
    go_wp2_with fail
    go_ret2
    rw [HF.out]
    exact ⟨rfl, HB.out⟩
end Go.Proofs.Ytgmchedfgdgenaa
