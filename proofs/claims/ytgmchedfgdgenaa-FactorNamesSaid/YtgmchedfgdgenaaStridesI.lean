/- factor.strides at int, walked. Conditions: the lists read, within Go's bound; the scope rises and has all of the table's variables; sizes of 1 or more, not too many. -/
import Derived.Test.YtgmchedfgdgenaaPlace
import Derived.Test.YtgmchedfgdgenaaBsI
import Derived.Test.YtgmchedfgdgenaaTrio
namespace Go.Proofs.Ytgmchedfgdgenaa
open Go.RowKit

theorem bs_at {U : List Int} {x : Int} {i : Nat} (hp : Place cmpI U x i) (ha : Asc cmpI U) (hx : x ∈ U) : i < U.length ∧ nth U i = x := by
  have h1 := hp.isIn cmpokI ha
  have h2 : isIn cmpI x U = true := isIn_iff.2 ⟨x, hx, by rw [cmpI_zero]⟩
  rw [h2] at h1
  have h3 := h1.symm
  simp only [Bool.and_eq_true, decide_eq_true_eq, beq_iff_eq] at h3
  exact ⟨h3.1, by have := h3.2; rw [cmpI_zero] at this; exact this⟩
theorem asc_nodup {U : List Int} (h : Asc cmpI U) : U.Nodup := h.imp fun {a b} hab e => by
  subst e
  have : cmpI a a = 0 := by rw [cmpI_zero]
  omega
set_option maxRecDepth 100000 in
set_option maxHeartbeats 800000 in
theorem strides_i (A A1 A2 A3 : Option Addr) (n c n1 c1 c2 n3 c3 : Nat) (U S Z : List Int) (w : World) (h : Sl (Value.int .i64) w A n U) (h1 : Sl (Value.int .i64) w A1 n1 S) (h2 : Sl (Value.int .i64) w A2 n1 Z) (hb : n * 8 ≤ 140737488351232)
    (ha : Asc cmpI U) (hS : S.Nodup) (hSU : ∀ x, x ∈ S → x ∈ U) (hz : ∀ z, z ∈ Z → 1 ≤ z) (hm : sufP Z 0 ≤ 2147483647) :
    Calls Try.prog 46 #[.agg #[.slice A1 n1 c1, .slice A2 n1 c2, .slice A3 n3 c3], .slice A n c] w fun e w' => ∃ B d, e = .returned (.slice B n d) ∧ OwnR (Value.int .i64) w' w.heap.size 3 B n d (stL U S Z 0) ∧ Below w.heap.size w w' := by
  have hbig1 := h1.big
  have hrow := RowC.new w 24 [.slice A1 n1 c1, .slice A2 n1 c2, .slice A3 n3 c3]
  have HO := Lib.hid (And.intro h (And.intro h1 h2))
  have HL := Lib.hid (And.intro h.len (And.intro h1.len (And.intro h2.len (And.intro ha (And.intro hS (And.intro hSU (And.intro hz hm)))))))
  have hq : 8 * n ≤ 281474976710656 := by omega
  have hw0 : IntKind.i64.wrap ((n1 : Int) - 1) = (n1 : Int) - 1 := by simp [IntKind.wrap, IntKind.bits, IntKind.signed]; omega
  clear h h1 h2 ha hS hSU hz hm
  go_enter Try.func46, Try.ntmps46
  go_wp2_with (first
    | (at_make; refine wpList_mk _ eiI (Value.int .i64) 0 rfl rfl _ _ rfl n rfl rfl hq ?_)
    | fail)
  intro w4 hr hb4
  have hr4 := hrow.below hb4 (Nat.lt_succ_self _)
  have hbw : Below w.heap.size w w4 := ((Below.refl _ w).alloc (Nat.le_refl _) _).trans (hb4.mono (Nat.le_succ _))
  have r0 := hr4.cell 0
  obtain ⟨g, hg⟩ : ∃ g, g = w.heap.size + 1 := ⟨_, rfl⟩
  rw [← hg] at hr ⊢
  have hgl : w.heap.size < g := by omega
  have HB := Lib.hid (And.intro hr4 (And.intro hbw (And.intro hr hg)))
  clear hr4 hbw hr hrow hb4 hg
  go_wp2_with fail
  clear r0
  go_loopw [6, 7] (fun st i wr => ∃ m : Nat, m ≤ n1 ∧ st = .int .i64 (sufP Z m) ∧ i = .int .i64 ((m : Int) - 1) ∧ RowAt (Value.int .i64) wr g 3 (stL U S Z m) [] ∧ RowC wr w.heap.size 24 [.slice A1 n1 c1, .slice A2 n1 c2, .slice A3 n3 c3] ∧ Below w.heap.size w wr) (fun _ i _ => (intOf i + 1).toNat)
  case atStart =>
    refine ⟨n1, Nat.le_refl _, ?_, rfl, ?_, HB.out.1, HB.out.2.1⟩
    · rw [sufP_end (by have := HL.out.2.2.1; omega)]
    · have h1 := HL.out.1
      have h2 := HL.out.2.1
      rw [← h2, stL_end, h1]
      exact HB.out.2.2.1
  case round =>
    obtain ⟨m, hm, rfl, rfl, hr, hbx, hb⟩ := hrel
    obtain ⟨wb, hwb⟩ : ∃ wb : World, wb = wr := ⟨_, rfl⟩
    subst hwb
    rcases Nat.eq_zero_or_pos m with rfl | hpos
    · have HF := Lib.hid (And.intro hr hb)
      clear hr hbx hb
      go_wp2_with fail
      go_ret
      have hl := HL.out.1
      exact ⟨_, _, rfl, OwnR.of_row' HF.out.1 (by have := HB.out.2.2.2; omega) (by rw [stL_length]; simpa using hl) (by unfold maxLen; omega) (by rw [stL_length]; exact hl), HF.out.2⟩
    · obtain ⟨k, rfl⟩ : ∃ k, m = k + 1 := ⟨m - 1, by omega⟩
      obtain ⟨lU, lS, lZ, ha, hS, hSU, hz, hmx⟩ := HL.out
      have hk : k < n1 := by omega
      have hsU := HO.out.1.below (Nat.le_refl _) hb
      obtain ⟨b1, o1, rfl, _, hc1⟩ := (HO.out.2.1.below (Nat.le_refl _) hb).at' (by omega)
      obtain ⟨b2, o2, rfl, _, hc2⟩ := (HO.out.2.2.below (Nat.le_refl _) hb).at' (by omega)
      have g1 := hc1 k hk
      have g2 := hc2 k hk
      have r0 := hbx.cell 0
      have r1 := hbx.cell 1
      have hkz : ((k + 1 : Nat) : Int) - 1 = (k : Int) := by omega
      have hk0 : (0 : Int) ≤ (k : Int) := by omega
      have hkn : (k : Int) < (n1 : Int) := by omega
      rw [hkz]
      have hst := sufP_step (Z := Z) (k := k) (by omega)
      have hmo := sufP_mono hz k
      have hpz := sufP_pos hz k
      have HS := Lib.hid (And.intro hst (And.intro hr (And.intro hbx hb)))
      clear hc1 hc2 hr hbx
      go_wp2_with fail
      refine (SoI.bs_any A n c U (nth S k) _ hsU ha).mono ?_
      rintro e w5 ⟨p, rfl, hpl, hw5⟩
      subst hw5
      obtain ⟨hp1, hp2⟩ := bs_at hpl ha (hSU _ (nth_mem (by omega)))
      have hstep := stL_step (Z := Z) hS (asc_nodup ha) (m := k) (p := p) (by omega) hp1 hp2
      have hpr : p < (stL U S Z (k + 1)).length := by rw [stL_length]; exact hp1
      have f1 := HS.out.2.1.frozen p
      have u1 := HS.out.2.1.cell hpr
      have hset := HS.out.2.1.set hpr (sufP Z (k + 1))
      rw [hstep] at hset
      have hbx2 := HS.out.2.2.1.far (p := ⟨g, p, none⟩) (by simp; omega) (.int .i64 (sufP Z (k + 1)))
      have hb2 := HS.out.2.2.2.setCell (p := ⟨g, p, none⟩) (by simp; omega) (.int .i64 (sufP Z (k + 1)))
      have hpn : (p : Int) < (n : Int) := by omega
      have hp0 : (0 : Int) ≤ (p : Int) := by omega
      have hne2 : ∀ (u : Value), (wb.setCell ⟨g, p, none⟩ u).cell? ⟨b2, o2 + k, none⟩ = some (.int .i64 (nth Z k)) := fun u => by
        obtain ⟨b', o', e1, hlt, _⟩ := HO.out.2.2.at' (by omega)
        injection e1 with e1
        injection e1 with e1 _
        exact (cell_farN (by omega)).trans g2
      have hmul : wrap64 (sufP Z (k + 1) * nth Z k) = sufP Z k := by rw [Int.mul_comm, ← hst]; unfold wrap64; omega
      have hmul2 : IntKind.i64.wrap (sufP Z (k + 1) * nth Z k) = sufP Z k := by rw [IntKind.wrap_i64, Int.mul_comm, ← hst]; omega
      have hq2 := hne2 (.int .i64 (sufP Z (k + 1)))
      have HQ := Lib.hid (And.intro hset (And.intro hbx2 hb2))
      have r3 := hbx2.cell 1
      have hsub : IntKind.i64.wrap ((k : Int) - 1) = (k : Int) - 1 := by simp [IntKind.wrap, IntKind.bits, IntKind.signed]; omega
      clear hst hmo hpz hset hbx2 hb2 hne2 HS hsU hstep g1 hpl lU lS lZ ha hS hSU hz hmx hp2 hb
      go_upto_region 8 with fail
      generalize wb.setCell ⟨g, p, none⟩ (.int .i64 (sufP Z (k + 1))) = wz at *
      clear g2 r0 r1 f1 u1
      go_wp2_with fail
      exact ⟨⟨k, by omega, by first | rfl | rw [hmul] | rw [hmul2] | trivial, by first | rfl | (congr 1; omega) | trivial, HQ.out.1, HQ.out.2.1, HQ.out.2.2⟩, by simp [intOf]⟩
end Go.Proofs.Ytgmchedfgdgenaa
