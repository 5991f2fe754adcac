/- factor.firsts at string, walked. Conditions: the cells are parts of the place's size and step; within Go's bound. -/
import Derived.Test.YtgmchedfgdgenaaJ10
namespace Go.Proofs.Ytgmchedfgdgenaa
open Go.RowKit
attribute [local go_sem] Oper.semAt_some

set_option maxRecDepth 100000 in
set_option maxHeartbeats 1600000 in
theorem firsts_s (A1 A2 A3 : Option Addr) (n c1 c2 n3 c3 i z step P : Nat) (Z : List Int) (w : World) (h2 : Sl (Value.int .i64) w A2 n Z) (hi : i < n) (hz : nth Z i = (z : Int)) (hz1 : 1 ≤ z) (hs1 : 1 ≤ step)
    (hn : n3 = P * (step * z)) (hm : n3 ≤ 2147483647) :
    Calls Try.prog 84 #[.agg #[.slice A1 n c1, .slice A2 n c2, .slice A3 n3 c3], .int .i64 (i : Int), .int .i64 (step : Int)] w fun e w' => ∃ B d, e = .returned (.slice B (P * step) d) ∧
      OwnR (Value.int .i64) w' w.heap.size 3 B (P * step) d (firstL z step (P * step)) ∧ Below w.heap.size w w' := by
  have H0 := ((Held.init w).sl h2).new 33 [.slice A1 n c1, .slice A2 n c2, .slice A3 n3 c3]
  have r1 := H0.has.1.cell 1
  have r2 := H0.has.1.cell 2
  obtain ⟨b, off, rfl, hbl, hcc⟩ := h2.at' (by omega)
  have r3 := hcc i hi
  rw [hz] at r3
  have hne : (z : Int) ≠ 0 := by omega
  have hne2 : ((z : Int) == 0) = false := by simpa using hne
  have hne3 : ¬ z = 0 := by omega
  have hdiv : n3 / z = P * step := by rw [hn, show P * (step * z) = P * step * z by rw [Nat.mul_assoc]]; exact Nat.mul_div_cancel _ (by omega)
  obtain ⟨m, hmP⟩ : ∃ m, m = P * step := ⟨_, rfl⟩
  rw [← hmP] at hdiv ⊢
  have e1 : Int.tdiv (n3 : Int) (z : Int) = (m : Int) := by rw [← hdiv, Int.ofNat_tdiv]
  have e2 : (n3 : Int) / (z : Int) = (m : Int) := by rw [← hdiv]; simp
  have hPs : m ≤ n3 := by rw [← hdiv]; exact Nat.div_le_self _ _
  have e3 : IntKind.i64.wrap (m : Int) = (m : Int) := by simp [IntKind.wrap, IntKind.bits, IntKind.signed]; omega
  have HN := Lib.hid (And.intro hn (And.intro hmP hdiv))
  clear hn hmP hdiv
  have hq : 8 * m ≤ 281474976710656 := by omega
  have hi0 : (0 : Int) ≤ (i : Int) := by omega
  have hi1 : (i : Int) < (n : Int) := by omega
  have hb : b ≠ w.heap.size := by omega
  have HC := Lib.hid (And.intro hcc h2)
  have r3 : (w.alloc (.cells [.slice A1 n c1, .slice (some ⟨b, off, none⟩) n c2, .slice A3 n3 c3].toArray 33)).cell? ⟨b, off + i, none⟩ = some (.int .i64 (z : Int)) := (((Below.refl _ w).alloc (Nat.le_refl _) _).cell hbl).trans r3
  clear hcc h2
  go_enter Try.func84, Try.ntmps84
  go_upto_region 1 with fail
--R1
  refine wp_region_lastL (S := fun w' => w'.cell? ⟨w.heap.size, 1, none⟩ = some (.slice (some ⟨b, off, none⟩) n c2) ∧ w'.cell? ⟨w.heap.size, 2, none⟩ = some (.slice A3 n3 c3) ∧ w'.cell? ⟨b, off + i, none⟩ = some (.int .i64 (z : Int))) 10 10 (by kernel_rfl) rfl rfl rfl (by kernel_rfl) ?hS1 (fun hHeld => ?rest1)
  case hS1 => (first | assumption | exact ⟨r1, r2, r3⟩ | go_keep)
  refine wpAnyH_takeL (i := 0) (v := ?v2) rfl (by kernel_rfl) (by kernel_rfl) (by kernel_rfl) (fun _ _ _ h => h) (by rfl) ?hy2 (by assumption) ?rest2
  case hy2 => (intro w hSw; (try dsimp only at hSw); go_simp; try with_reducible rfl)
  try simp only [Act.put, List.setIfInBounds_toArray, List.set_cons_zero, List.set_cons_succ]
  refine wpAnyH_takeL (i := 1) (v := ?v3) rfl (by kernel_rfl) (by kernel_rfl) (by kernel_rfl) (fun _ _ _ h => h) (by rfl) ?hy3 (by assumption) ?rest3
  case hy3 => (intro w hSw; (try dsimp only at hSw); go_simp; try with_reducible rfl)
  try simp only [Act.put, List.setIfInBounds_toArray, List.set_cons_zero, List.set_cons_succ]
  refine wpAnyH_takeL (i := 2) (v := ?v4) rfl (by kernel_rfl) (by kernel_rfl) (by kernel_rfl) (fun _ _ _ h => h) (by rfl) ?hy4 (by assumption) ?rest4
  case hy4 => (intro w hSw; (try dsimp only at hSw); go_simp; try with_reducible rfl)
  try simp only [Act.put, List.setIfInBounds_toArray, List.set_cons_zero, List.set_cons_succ]
  refine wpAnyH_takeL (i := 3) (v := ?v5) rfl (by kernel_rfl) (by kernel_rfl) (by kernel_rfl) (fun _ _ _ h => h) (by rfl) ?hy5 (by assumption) ?rest5
  case hy5 => (intro w hSw; (try dsimp only at hSw); go_simp; try with_reducible rfl)
  try simp only [Act.put, List.setIfInBounds_toArray, List.set_cons_zero, List.set_cons_succ]
  refine wpAnyH_takeL (i := 4) (v := ?v6) rfl (by kernel_rfl) (by kernel_rfl) (by kernel_rfl) (fun _ _ _ h => h) (by rfl) ?hy6 (by assumption) ?rest6
  case hy6 => (intro w hSw; (try dsimp only at hSw); go_simp; try with_reducible rfl)
  try simp only [Act.put, List.setIfInBounds_toArray, List.set_cons_zero, List.set_cons_succ]
  refine wpAnyH_takeL (i := 5) (v := ?v7) rfl (by kernel_rfl) (by kernel_rfl) (by kernel_rfl) (fun _ _ _ h => h) (by rfl) ?hy7 (by assumption) ?rest7
  case hy7 => (intro w hSw; (try dsimp only at hSw); go_simp; try with_reducible rfl)
  try simp only [Act.put, List.setIfInBounds_toArray, List.set_cons_zero, List.set_cons_succ]
  refine wpAnyH_takeL (i := 6) (v := ?v8) rfl (by kernel_rfl) (by kernel_rfl) (by kernel_rfl) (fun _ _ _ h => h) (by rfl) ?hy8 (by assumption) ?rest8
  case hy8 => (intro w hSw; (try dsimp only at hSw); go_simp; try with_reducible rfl)
  try simp only [Act.put, List.setIfInBounds_toArray, List.set_cons_zero, List.set_cons_succ]
  refine wpAnyH_takeL (i := 7) (v := ?v9) rfl (by kernel_rfl) (by kernel_rfl) (by kernel_rfl) (fun _ _ _ h => h) (by rfl) ?hy9 (by assumption) ?rest9
  case hy9 => (intro w hSw; (try dsimp only at hSw); go_simp; try with_reducible rfl)
  try simp only [Act.put, List.setIfInBounds_toArray, List.set_cons_zero, List.set_cons_succ]
  refine wpAnyH_takeL (i := 8) (v := ?v10) rfl (by kernel_rfl) (by kernel_rfl) (by kernel_rfl) (fun _ _ _ h => h) (by rfl) ?hy10 (by assumption) ?rest10
  case hy10 => (intro w hSw; (try dsimp only at hSw); go_simp; try with_reducible rfl)
  try simp only [Act.put, List.setIfInBounds_toArray, List.set_cons_zero, List.set_cons_succ]
  refine wpAnyH_ready (rs := [9]) (by kernel_rfl) (by simp) (consL rfl (fun K hK => ?step11))
  (refine step_mk0 _ eiI (Value.int .i64) rfl _ _ rfl m rfl rfl hq ?_; intro w4 hr hb4; have z4 := Stable.below (P := fun w' => w'.cell? ⟨w.heap.size, 1, none⟩ = some (.slice (some ⟨b, off, none⟩) n c2) ∧ w'.cell? ⟨w.heap.size, 2, none⟩ = some (.slice A3 n3 c3) ∧ w'.cell? ⟨b, off + i, none⟩ = some (.int .i64 (z : Int))) hb4 hHeld)
  refine hK.out _ _ ?hS11 (fun hHeld => ?rest11)
  case hS11 => (first | assumption | exact ⟨r1, r2, r3⟩ | go_keep)
  clear hK K
  try simp only [Act.put, List.setIfInBounds_toArray, List.set_cons_zero, List.set_cons_succ]
  refine wpAnyH_done (by kernel_rfl) ?_ _
  unfold AheadOf
  go_simp
--R1E
  have hbox := H0.has.1.drew.below' hb4
  have hbz := ((Below.refl _ w).alloc (Nat.le_refl _) (.cells [.slice A1 n c1, .slice (some ⟨b, off, none⟩) n c2, .slice A3 n3 c3].toArray 33)).trans ((below_refl_drewN _ _ 1).trans (hb4.mono (by simp)))
  have c3 := hHeld.2.2
  have k3 := z4.2.2
  have hbw : b < w4.heap.size := by have := hbz.size; omega
  have HI := Lib.hid (And.intro hr (And.intro hbz (And.intro hbox (And.intro k3 hbw))))
  have hsz4 := hbox.lt
  clear hr hbz hbox k3 hbw c3 z4 hHeld r1 r2 r3 H0 hb4 e1 e2
  go_wp2_with fail
  go_loopw [7, 8] (fun l f wr => ∃ (p : Nat) (B : Option Addr) (d : Nat), p ≤ P ∧ f = .int .i64 ((p * (step * z) : Nat) : Int) ∧ l = .slice B (p * step) d ∧ OwnR (Value.int .i64) wr (w.heap.size + 1) 3 B (p * step) d (firstL z step (p * step)) ∧ Below (w.heap.size + 1) w4 wr) (fun _ f _ => n3 - (intOf f).toNat)
  case atStart => exact ⟨0, _, _, Nat.zero_le _, by simp, by rw [Nat.zero_mul], by rw [Nat.zero_mul]; exact (show OwnR (Value.int .i64) w4 (w.heap.size + 1) 3 (some ⟨w.heap.size + 1, 0, none⟩) 0 m [] from by have := HI.out.1; simpa using this), Below.refl _ _⟩
  case round =>
    obtain ⟨p, B, d, hp, rfl, rfl, ho, hbr⟩ := hrel
    obtain ⟨wo, hwo⟩ : ∃ wo : World, wo = wr := ⟨_, rfl⟩
    subst hwo
    obtain ⟨F, hF⟩ : ∃ F, F = p * (step * z) := ⟨_, rfl⟩
    rw [← hF]
    have hbx := HI.out.2.2.1.below hbr (show w.heap.size < w.heap.size + 1 by omega)
    have q1 := hbx.cell 1
    have q2 := hbx.cell 2
    have q3 : wo.cell? ⟨b, off + i, none⟩ = some (.int .i64 (z : Int)) := (hbr.cell (p := ⟨b, off + i, none⟩) (by show b < w.heap.size + 1; omega)).trans HI.out.2.2.2.1
    have hmP := HN.out.2.1
    have hn := HN.out.1
    have hq1 : 1 ≤ step * z := Nat.mul_pos hs1 hz1
    have HP := Lib.hid (And.intro hF (And.intro hmP (And.intro hn hq1)))
    by_cases hlt : p < P
    · have h1 : (p + 1) * (step * z) ≤ P * (step * z) := Nat.mul_le_mul_right _ hlt
      rw [Nat.add_mul, Nat.one_mul, ← hF, ← hn] at h1
      have hFl : F < n3 := by omega
      have h2 : (p + 1) * step ≤ P * step := Nat.mul_le_mul_right _ hlt
      rw [Nat.add_mul, Nat.one_mul, ← hmP] at h2
      obtain ⟨ps, hps⟩ : ∃ ps, ps = p * step := ⟨_, rfl⟩
      obtain ⟨q, hqe⟩ : ∃ q, q = step * z := ⟨_, rfl⟩
      rw [← hps] at h2 ho ⊢
      rw [← hqe] at h1
      have hqw : IntKind.i64.wrap ((step : Int) * (z : Int)) = (q : Int) := by
        rw [← Int.natCast_mul, ← hqe]
        simp [IntKind.wrap, IntKind.bits, IntKind.signed]; omega
      have hsw : (step : Int) ≤ 2147483647 := by omega
      have HQ := Lib.hid (And.intro hps hqe)
      have HB := Lib.hid (And.intro ho hbr)
      have HX := Lib.hid (And.intro hbx (And.intro q1 (And.intro q3 hqw)))
      clear hF hmP hn hq1 hps hqe ho hbr hbx q1 q3 hqw
      go_wp2_with fail
      clear q2
      go_loopw [7, 35] (fun l i wr => ∃ (k : Nat) (B : Option Addr) (d : Nat), k ≤ step ∧ i = .int .i64 (k : Nat) ∧ l = .slice B (ps + k) d ∧ OwnR (Value.int .i64) wr (w.heap.size + 1) 3 B (ps + k) d (firstL z step (ps + k)) ∧ Below (w.heap.size + 1) w4 wr) (fun _ i _ => step - (intOf i).toNat)
      case atStart => exact ⟨0, B, d, Nat.zero_le _, rfl, rfl, HB.out.1, HB.out.2⟩
      case round =>
        obtain ⟨k, B, d, hk, rfl, rfl, ho, hbr⟩ := hrel
        by_cases hks : k < step
        · have hq : (ps + k + 1) * 8 ≤ 140737488355328 := by omega
          have hsz : w.heap.size + 1 ≤ (wr.alloc (.cells #[.int .i64 ((F : Int) + (k : Int))] 3)).heap.size := by have := hbr.size; simp; omega
          have ho1 := ho.alloc (.cells #[.int .i64 ((F : Int) + (k : Int))] 3)
          have hfk : firstF z step (ps + k) = (F : Int) + (k : Int) := by rw [HQ.out.1, firstF_at hks, HP.out.1]; simp
          have HR := Lib.hid (And.intro hfk (hbr.alloc (by have := hbr.size; omega) (.cells #[.int .i64 ((F : Int) + (k : Int))] 3)))
          clear ho hbr hfk
          go_wp2_with (first
            | (at_builtin; refine wpList_app _ eiI (Value.int .i64) (fun _ => rfl) rfl _ _ rfl (w.heap.size + 1) _ _ _ _ rfl ho1 _ _ _ _ rfl (Sl.one (enc := Value.int .i64) _ _ _) hq hsz ?_)
            | fail)
          intro C9 k9 w9 ho9 _ hb9 _
          have ho9 : OwnR (Value.int .i64) w9 (w.heap.size + 1) 3 C9 (ps + k + 1) k9 (firstL z step (ps + k + 1)) := by rw [firstL_succ, HR.out.1]; exact ho9
          have HR := Lib.hid (And.intro ho9 (HR.out.2.trans hb9))
          clear ho9 hb9 ho1 hsz hq
          go_wp2_with fail
          exact ⟨⟨k + 1, C9, k9, by omega, by go_num, rfl, HR.out.1, HR.out.2⟩, by simp [intOf]; omega⟩
        · obtain rfl : k = step := by omega
          have hbx := HI.out.2.2.1.below hbr (show w.heap.size < w.heap.size + 1 by omega)
          have q1 := hbx.cell 1
          have q3 : wr.cell? ⟨b, off + i, none⟩ = some (.int .i64 (z : Int)) := (hbr.cell (p := ⟨b, off + i, none⟩) (by show b < w.heap.size + 1; omega)).trans HI.out.2.2.2.1
          have hqw := HX.out.2.2.2
          have HR := Lib.hid (And.intro ho hbr)
          clear ho hbr hbx
          go_wp2_with fail
          have e8 : F + q = (p + 1) * (k * z) := by rw [Nat.add_mul, Nat.one_mul, ← HP.out.1, HQ.out.2]
          have e9 : ps + k = (p + 1) * k := by rw [Nat.add_mul, Nat.one_mul, HQ.out.1]
          refine ⟨⟨p + 1, B, d, hlt, ?_, ?_, ?_, HR.out.2⟩, ?_⟩
          · rw [← e8]; go_num
          · rw [e9]
          · rw [← e9]; exact HR.out.1
          · have e7 : 1 ≤ q := by rw [HQ.out.2]; exact HP.out.2.2.2
            simp [intOf]; omega
    · obtain rfl : p = P := by omega
      have e8 : F = n3 := by rw [hF, hn]
      subst e8
      have HB := Lib.hid (And.intro ho hbr)
      clear hF hmP hn hq1 ho hbr hbx q1 q3
      go_wp2_with fail
      go_ret
      rw [HP.out.2.1]
      exact ⟨B, d, rfl, HB.out.1.mono (Nat.le_succ _), HI.out.2.1.trans (HB.out.2.mono (Nat.le_succ _))⟩
end Go.Proofs.Ytgmchedfgdgenaa
