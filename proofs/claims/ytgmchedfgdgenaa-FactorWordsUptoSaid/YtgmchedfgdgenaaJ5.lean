/- Joined by program out of: StridesI, SizedI. What each says stands at its own head. -/
import Derived.Test.YtgmchedfgdgenaaJ4
import Derived.Test.YtgmchedfgdgenaaJ2
/- factor.strides at int, walked. Conditions: the lists read, within Go's bound; the scope rises and has all of the table's variables; sizes of 1 or more, not too many. -/
namespace Go.Proofs.Ytgmchedfgdgenaa
open Go.RowKit

theorem bs_at {U : List Int} {x : Int} {i : Nat} (hp : Place cmpI U x i) (ha : Asc cmpI U) (hx : x ∈ U) : i < U.length ∧ nth U i = x := by
  have h1 := hp.isIn cmpokI ha
  have h2 : isIn cmpI x U = true := isIn_iff.2 ⟨x, hx, by rw [cmpI_zero]⟩
  rw [h2] at h1
  have h3 := h1.symm
  simp only [Bool.and_eq_true, decide_eq_true_eq, beq_iff_eq] at h3
  exact ⟨h3.1, by have := h3.2; rw [cmpI_zero] at this; exact this⟩
theorem asc_nodup {U : List Int} (h : Asc cmpI U) : U.Nodup := h.imp fun {a b} hab e => by
  subst e
  have : cmpI a a = 0 := by rw [cmpI_zero]
  omega
set_option maxRecDepth 100000 in
set_option maxHeartbeats 800000 in
theorem strides_i (A A1 A2 A3 : Option Addr) (n c n1 c1 c2 n3 c3 : Nat) (U S Z : List Int) (w : World) (h : Sl (Value.int .i64) w A n U) (h1 : Sl (Value.int .i64) w A1 n1 S) (h2 : Sl (Value.int .i64) w A2 n1 Z) (hb : n * 8 ≤ 140737488351232)
    (ha : Asc cmpI U) (hS : S.Nodup) (hSU : ∀ x, x ∈ S → x ∈ U) (hz : ∀ z, z ∈ Z → 1 ≤ z) (hm : sufP Z 0 ≤ 2147483647) :
    Calls Try.prog 46 #[.agg #[.slice A1 n1 c1, .slice A2 n1 c2, .slice A3 n3 c3], .slice A n c] w fun e w' => ∃ B d, e = .returned (.slice B n d) ∧ OwnR (Value.int .i64) w' w.heap.size 3 B n d (stL U S Z 0) ∧ Below w.heap.size w w' := by
  have hbig1 := h1.big
  have hrow := RowC.new w 24 [.slice A1 n1 c1, .slice A2 n1 c2, .slice A3 n3 c3]
  have HO := Lib.hid (And.intro h (And.intro h1 h2))
  have HL := Lib.hid (And.intro h.len (And.intro h1.len (And.intro h2.len (And.intro ha (And.intro hS (And.intro hSU (And.intro hz hm)))))))
  have hq : 8 * n ≤ 281474976710656 := by omega
  have hw0 : IntKind.i64.wrap ((n1 : Int) - 1) = (n1 : Int) - 1 := by simp [IntKind.wrap, IntKind.bits, IntKind.signed]; omega
  clear h h1 h2 ha hS hSU hz hm
  go_enter Try.func46, Try.ntmps46
  go_wp2_with (first
    | (at_make; refine wpList_mk _ eiI (Value.int .i64) 0 rfl rfl _ _ rfl n rfl rfl hq ?_)
    | fail)
  intro w4 hr hb4
  have hr4 := hrow.below hb4 (Nat.lt_succ_self _)
  have hbw : Below w.heap.size w w4 := ((Below.refl _ w).alloc (Nat.le_refl _) _).trans (hb4.mono (Nat.le_succ _))
  have r0 := hr4.cell 0
  obtain ⟨g, hg⟩ : ∃ g, g = w.heap.size + 1 := ⟨_, rfl⟩
  rw [← hg] at hr ⊢
  have hgl : w.heap.size < g := by omega
  have HB := Lib.hid (And.intro hr4 (And.intro hbw (And.intro hr hg)))
  clear hr4 hbw hr hrow hb4 hg
  go_wp2_with fail
  clear r0
  go_loopw [6, 7] (fun st i wr => ∃ m : Nat, m ≤ n1 ∧ st = .int .i64 (sufP Z m) ∧ i = .int .i64 ((m : Int) - 1) ∧ RowAt (Value.int .i64) wr g 3 (stL U S Z m) [] ∧ RowC wr w.heap.size 24 [.slice A1 n1 c1, .slice A2 n1 c2, .slice A3 n3 c3] ∧ Below w.heap.size w wr) (fun _ i _ => (intOf i + 1).toNat)
  case atStart =>
    refine ⟨n1, Nat.le_refl _, ?_, rfl, ?_, HB.out.1, HB.out.2.1⟩
    · rw [sufP_end (by have := HL.out.2.2.1; omega)]
    · have h1 := HL.out.1
      have h2 := HL.out.2.1
      rw [← h2, stL_end, h1]
      exact HB.out.2.2.1
  case round =>
    obtain ⟨m, hm, rfl, rfl, hr, hbx, hb⟩ := hrel
    obtain ⟨wb, hwb⟩ : ∃ wb : World, wb = wr := ⟨_, rfl⟩
    subst hwb
    rcases Nat.eq_zero_or_pos m with rfl | hpos
    · have HF := Lib.hid (And.intro hr hb)
      clear hr hbx hb
      go_wp2_with fail
      go_ret
      have hl := HL.out.1
      exact ⟨_, _, rfl, OwnR.of_row' HF.out.1 (by have := HB.out.2.2.2; omega) (by rw [stL_length]; simpa using hl) (by unfold maxLen; omega) (by rw [stL_length]; exact hl), HF.out.2⟩
    · obtain ⟨k, rfl⟩ : ∃ k, m = k + 1 := ⟨m - 1, by omega⟩
      obtain ⟨lU, lS, lZ, ha, hS, hSU, hz, hmx⟩ := HL.out
      have hk : k < n1 := by omega
      have hsU := HO.out.1.below (Nat.le_refl _) hb
      obtain ⟨b1, o1, rfl, _, hc1⟩ := (HO.out.2.1.below (Nat.le_refl _) hb).at' (by omega)
      obtain ⟨b2, o2, rfl, _, hc2⟩ := (HO.out.2.2.below (Nat.le_refl _) hb).at' (by omega)
      have g1 := hc1 k hk
      have g2 := hc2 k hk
      have r0 := hbx.cell 0
      have r1 := hbx.cell 1
      have hkz : ((k + 1 : Nat) : Int) - 1 = (k : Int) := by omega
      have hk0 : (0 : Int) ≤ (k : Int) := by omega
      have hkn : (k : Int) < (n1 : Int) := by omega
      rw [hkz]
      have hst := sufP_step (Z := Z) (k := k) (by omega)
      have hmo := sufP_mono hz k
      have hpz := sufP_pos hz k
      have HS := Lib.hid (And.intro hst (And.intro hr (And.intro hbx hb)))
      clear hc1 hc2 hr hbx
      go_wp2_with fail
      refine (SoI.bs_any A n c U (nth S k) _ hsU ha).mono ?_
      rintro e w5 ⟨p, rfl, hpl, hw5⟩
      subst hw5
      obtain ⟨hp1, hp2⟩ := bs_at hpl ha (hSU _ (nth_mem (by omega)))
      have hstep := stL_step (Z := Z) hS (asc_nodup ha) (m := k) (p := p) (by omega) hp1 hp2
      have hpr : p < (stL U S Z (k + 1)).length := by rw [stL_length]; exact hp1
      have f1 := HS.out.2.1.frozen p
      have u1 := HS.out.2.1.cell hpr
      have hset := HS.out.2.1.set hpr (sufP Z (k + 1))
      rw [hstep] at hset
      have hbx2 := HS.out.2.2.1.far (p := ⟨g, p, none⟩) (by simp; omega) (.int .i64 (sufP Z (k + 1)))
      have hb2 := HS.out.2.2.2.setCell (p := ⟨g, p, none⟩) (by simp; omega) (.int .i64 (sufP Z (k + 1)))
      have hpn : (p : Int) < (n : Int) := by omega
      have hp0 : (0 : Int) ≤ (p : Int) := by omega
      have hne2 : ∀ (u : Value), (wb.setCell ⟨g, p, none⟩ u).cell? ⟨b2, o2 + k, none⟩ = some (.int .i64 (nth Z k)) := fun u => by
        obtain ⟨b', o', e1, hlt, _⟩ := HO.out.2.2.at' (by omega)
        injection e1 with e1
        injection e1 with e1 _
        exact (cell_farN (by omega)).trans g2
      have hmul : wrap64 (sufP Z (k + 1) * nth Z k) = sufP Z k := by rw [Int.mul_comm, ← hst]; unfold wrap64; omega
      have hmul2 : IntKind.i64.wrap (sufP Z (k + 1) * nth Z k) = sufP Z k := by rw [IntKind.wrap_i64, Int.mul_comm, ← hst]; omega
      have hq2 := hne2 (.int .i64 (sufP Z (k + 1)))
      have HQ := Lib.hid (And.intro hset (And.intro hbx2 hb2))
      have r3 := hbx2.cell 1
      have hsub : IntKind.i64.wrap ((k : Int) - 1) = (k : Int) - 1 := by simp [IntKind.wrap, IntKind.bits, IntKind.signed]; omega
      clear hst hmo hpz hset hbx2 hb2 hne2 HS hsU hstep g1 hpl lU lS lZ ha hS hSU hz hmx hp2 hb
      go_upto_region 8 with fail
      generalize wb.setCell ⟨g, p, none⟩ (.int .i64 (sufP Z (k + 1))) = wz at *
      clear g2 r0 r1 f1 u1
      go_wp2_with fail
      exact ⟨⟨k, by omega, by first | rfl | rw [hmul] | rw [hmul2] | trivial, by first | rfl | (congr 1; omega) | trivial, HQ.out.1, HQ.out.2.1, HQ.out.2.2⟩, by simp [intOf]⟩
end Go.Proofs.Ytgmchedfgdgenaa
/- factor.sized at int, walked. Conditions: the lists read, within Go's bound; both tables' scopes rise; each variable of the scope is in one of them. -/
namespace Go.Proofs.Ytgmchedfgdgenaa
open Go.RowKit

/-- the size of a variable of two tables -/
def sizeF (S1 Z1 S2 Z2 : List Int) (v : Int) : Int := match S1.idxOf? v with
  | some i => nth Z1 i
  | none => match S2.idxOf? v with
    | some j => nth Z2 j
    | none => 0
/-- a variable of both, of two sizes -/
def clash (S1 Z1 S2 Z2 : List Int) (v : Int) : Bool := match S1.idxOf? v, S2.idxOf? v with
  | some i, some j => nth Z1 i != nth Z2 j
  | _, _ => false
/-- the first t sizes are told -/
def szL (U : List Int) (F : Int → Int) (t : Nat) : List Int := (U.take t).map F ++ List.replicate (U.length - t) 0
theorem szL_zero (U : List Int) (F : Int → Int) : szL U F 0 = List.replicate U.length 0 := by simp [szL]
theorem szL_all (U : List Int) (F : Int → Int) : szL U F U.length = U.map F := by simp [szL]
theorem szL_length {U : List Int} {F : Int → Int} {t : Nat} (h : t ≤ U.length) : (szL U F t).length = U.length := by simp [szL]; omega
theorem szL_step {U : List Int} {F : Int → Int} {t : Nat} (h : t < U.length) : (szL U F t).set t (F (nth U t)) = szL U F (t + 1) := by
  unfold szL
  have e1 : ((U.take t).map F).length = t := by simp; omega
  rw [List.set_append_right _ _ (by omega), e1, Nat.sub_self, take_snoc h, List.map_append, List.append_assoc]
  obtain ⟨k, hk⟩ : ∃ k, U.length - t = k + 1 := ⟨U.length - t - 1, by omega⟩
  rw [hk, List.replicate_succ, List.set_cons_zero, show U.length - (t + 1) = k by omega]
  rfl
theorem bs_idx {S : List Int} {x : Int} {i : Nat} (hp : Place cmpI S x i) (ha : Asc cmpI S) : S.idxOf? x = if isIn cmpI x S = true then some i else none := by
  by_cases h : isIn cmpI x S = true
  · rw [if_pos h]
    obtain ⟨y, hy, h0⟩ := isIn_iff.1 h
    rw [cmpI_zero] at h0
    subst h0
    obtain ⟨h1, h2⟩ := bs_at hp ha hy
    rw [← h2]
    exact idxOf_nth (asc_nodup ha) h1
  · rw [if_neg h]
    refine idxOf_none.2 fun hx => h (isIn_iff.2 ⟨x, hx, by rw [cmpI_zero]⟩)
def SizedPost (n : Nat) (U S1 Z1 S2 Z2 : List Int) (w : World) (e : Ending) (w' : World) : Prop :=
  (U.any (clash S1 Z1 S2 Z2) = true ∧ e = .returned (.tuple #[.slice none 0 0, .bool false]) ∧ Below w.heap.size w w') ∨
  (U.any (clash S1 Z1 S2 Z2) = false ∧ ∃ B d, e = .returned (.tuple #[.slice B n d, .bool true]) ∧ OwnR (Value.int .i64) w' w.heap.size 3 B n d (U.map (sizeF S1 Z1 S2 Z2)) ∧ Below w.heap.size w w')
set_option maxRecDepth 100000 in
set_option maxHeartbeats 1600000 in
theorem sized_i (A A1 A2 A3 B1 B2 B3 : Option Addr) (n c n1 c1 c2 n3 c3 m1 d1 d2 m3 d3 : Nat) (U S1 Z1 S2 Z2 : List Int) (w : World) (h : Sl (Value.int .i64) w A n U) (h1 : Sl (Value.int .i64) w A1 n1 S1) (h2 : Sl (Value.int .i64) w A2 n1 Z1) (k1 : Sl (Value.int .i64) w B1 m1 S2) (k2 : Sl (Value.int .i64) w B2 m1 Z2)
    (hb : n * 8 ≤ 140737488351232) (ha : Asc cmpI S1) (hb2 : Asc cmpI S2) (hU : ∀ x, x ∈ U → x ∈ S1 ∨ x ∈ S2) :
    Calls Try.prog 45 #[.slice A n c, .agg #[.slice A1 n1 c1, .slice A2 n1 c2, .slice A3 n3 c3], .agg #[.slice B1 m1 d1, .slice B2 m1 d2, .slice B3 m3 d3]] w (SizedPost n U S1 Z1 S2 Z2 w) := by
  have H0 := (((((((Held.init w).sl h).sl h1).sl h2).sl k1).sl k2).new 24 [.slice A1 n1 c1, .slice A2 n1 c2, .slice A3 n3 c3]).new 24 [.slice B1 m1 d1, .slice B2 m1 d2, .slice B3 m3 d3]
  rw [show (w.alloc (.cells [.slice A1 n1 c1, .slice A2 n1 c2, .slice A3 n3 c3].toArray 24)).heap.size = w.heap.size + 1 from by simp] at H0
  have HL := Lib.hid (And.intro h.len (And.intro h1.len (And.intro h2.len (And.intro k1.len (And.intro k2.len (And.intro ha (And.intro hb2 hU)))))))
  have hq : 8 * n ≤ 281474976710656 := by omega
  have hbig := h.big
  have hbig1 := h1.big
  have hbig2 := k1.big
  clear h h1 h2 k1 k2 ha hb2 hU
  go_enter Try.func45, Try.ntmps45
  go_wp2_with (first
    | (at_make; refine wpList_mk _ eiI (Value.int .i64) 0 rfl rfl _ _ rfl n rfl rfl hq ?_)
    | fail)
  intro w4 hr hb4
  obtain ⟨wq, hwq⟩ : ∃ wq, wq = (w.alloc (.cells #[.slice A1 n1 c1, .slice A2 n1 c2, .slice A3 n3 c3] 24)).alloc (.cells #[.slice B1 m1 d1, .slice B2 m1 d2, .slice B3 m3 d3] 24) := ⟨_, rfl⟩
  have hsz : wq.heap.size = w.heap.size + 1 + 1 := by rw [hwq]; simp
  have H1 := H0
  rw [← hwq] at hb4 H1
  rw [← hsz] at hr hb4 ⊢
  have HW := Lib.hid (And.intro H1 hsz)
  have HB := Lib.hid (And.intro hr hb4)
  clear H0 H1 hr hb4 hwq hsz
  go_wp2_with fail
  go_loopw [20] (fun i wr => ∃ t : Nat, t ≤ n ∧ i = .int .i64 (t : Int) ∧ RowAt (Value.int .i64) wr wq.heap.size 3 (szL U (sizeF S1 Z1 S2 Z2) t) [] ∧ Below wq.heap.size wq wr ∧ (U.take t).any (clash S1 Z1 S2 Z2) = false) (fun i _ => n - (intOf i).toNat)
  case atStart => exact ⟨0, Nat.zero_le _, rfl, by rw [szL_zero, HL.out.1]; exact HB.out.1, HB.out.2, by simp⟩
  case round =>
    obtain ⟨t, ht, rfl, hr, hbw, hno⟩ := hrel
    obtain ⟨wb, hwb⟩ : ∃ wb : World, wb = wr := ⟨_, rfl⟩
    subst hwb
    have H := HW.out.1.step hbw
    by_cases hlt : t < n
    · obtain ⟨lU, l1, l2, l3, l4, ha, hb2, hU⟩ := HL.out
      obtain ⟨b0, o0, rfl, _, hc0⟩ := H.has.2.2.2.2.2.2.1.at' (by omega)
      have g0 := hc0 t hlt
      have hvU : nth U t ∈ U := nth_mem (by omega)
      have hvS := hU _ hvU
      have hany := any_take_snoc (clash S1 Z1 S2 Z2) (show t < U.length by omega)
      rw [hno, Bool.false_or] at hany
      have hstep := szL_step (F := sizeF S1 Z1 S2 Z2) (show t < U.length by omega)
      have hlen := szL_length (U := U) (F := sizeF S1 Z1 S2 Z2) (show t ≤ U.length by omega)
      clear hc0
      generalize hv : nth U t = v at *
      have v0 := H.has.2.1.cell 0
      have HS := Lib.hid (And.intro hstep (And.intro hlen (And.intro hany (And.intro hr (And.intro hbw (And.intro hvS (And.intro hv hvU)))))))
      clear hstep hlen hany hr hno hvS hv
      go_wp2_with fail
      refine (SoI.bs_any A1 n1 c1 S1 v _ H.has.2.2.2.2.2.1 ha).mono ?_
      rintro e w5 ⟨p, rfl, hp, hw5⟩
      subst hw5
      have hi1 := bs_idx hp ha
      have v1 := H.has.1.cell 0
      clear v0
      generalize hone : isIn cmpI v S1 = one at *
      have HO := Lib.hid hone
      clear hone
      go_wp2_with fail
      refine (SoI.bs_any B1 m1 d1 S2 v _ H.has.2.2.2.1 hb2).mono ?_
      rintro e w5 ⟨q, rfl, hq2, hw5⟩
      subst hw5
      have hi2 := bs_idx hq2 hb2
      clear v1
      generalize htwo : isIn cmpI v S2 = two at *
      have HT := Lib.hid htwo
      clear htwo
--BEGIN-CASES
      have v2 := H.has.2.1.cell 1
      have v3 := H.has.1.cell 1
      rcases one with _ | _ <;> rcases two with _ | _
      · exfalso
        rcases HS.out.2.2.2.2.2.1 with h | h
        · exact absurd (isIn_iff.2 ⟨v, h, by rw [cmpI_zero]⟩) (by rw [HO.out]; simp)
        · exact absurd (isIn_iff.2 ⟨v, h, by rw [cmpI_zero]⟩) (by rw [HT.out]; simp)
      · simp only [if_true, Bool.false_eq_true, if_false] at hi1 hi2
        obtain ⟨hlt2, hat2⟩ := idxOf_some hi2
        obtain ⟨z2, oz2, rfl, _, hz2⟩ := H.has.2.2.1.at' (by omega)
        have c2z := hz2 q (by omega)
        have i2a : (0 : Int) ≤ (q : Int) := by omega
        have i2b : (q : Int) < (m1 : Int) := by omega
        have i2c : q < m1 := by omega
        have d2b : decide ((q : Int) < (m1 : Int)) = true := by simpa using i2c
        clear hz2
        generalize hx2 : nth Z2 q = x2 at *
        have hF : sizeF S1 Z1 S2 Z2 v = x2 := by unfold sizeF; rw [hi1, hi2]; exact hx2
        have hC : clash S1 Z1 S2 Z2 v = false := by unfold clash; rw [hi1]
        have HXX := Lib.hid (And.intro hi1 (And.intro hi2 hx2))
        clear hi1 hi2 hx2 hat2 hp hq2
        go_upto_region 7 with fail
        go_quiet (fail)
        have v3 : (wb.drewN nq).cell? ⟨w.heap.size + 1, 1, none⟩ = some (.slice (some ⟨z2, oz2, none⟩) m1 d2) := v3
        have c2z : (wb.drewN nq).cell? ⟨z2, oz2 + q, none⟩ = some (.int .i64 x2) := c2z
        have hrd := HS.out.2.2.2.1.drewN nq
        have hbd := below_drewN HS.out.2.2.2.2.1 nq
        have hsz2 := HS.out.2.1
        have f1 := hrd.frozen t
        have u1 := hrd.cell (j := t) (by omega)
        have hset := hrd.set (j := t) (by omega) (x2)
        have hfx : sizeF S1 Z1 S2 Z2 v = x2 := hF
        have hst2 := HS.out.1
        rw [hfx] at hst2
        rw [hst2] at hset
        have hb3 := hbd.setCell (p := ⟨wq.heap.size, t, none⟩) (Nat.le_refl _) (.int .i64 (x2))
        have hn2 := HS.out.2.2.1
        have HQ := Lib.hid (And.intro hset (And.intro hb3 hn2))
        clear hset hb3 hrd hbd hst2 hfx hn2
        go_wp2_with fail
        exact ⟨⟨t + 1, by omega, by go_num, HQ.out.1, HQ.out.2.1, by rw [HQ.out.2.2]; exact hC⟩, by simp [intOf]; omega⟩
      · simp only [if_true, Bool.false_eq_true, if_false] at hi1 hi2
        obtain ⟨hlt1, hat1⟩ := idxOf_some hi1
        obtain ⟨z1, oz1, rfl, _, hz1⟩ := H.has.2.2.2.2.1.at' (by omega)
        have c1z := hz1 p (by omega)
        have i1a : (0 : Int) ≤ (p : Int) := by omega
        have i1b : (p : Int) < (n1 : Int) := by omega
        have i1c : p < n1 := by omega
        have d1b : decide ((p : Int) < (n1 : Int)) = true := by simpa using i1c
        clear hz1
        generalize hx1 : nth Z1 p = x1 at *
        have hF : sizeF S1 Z1 S2 Z2 v = x1 := by unfold sizeF; rw [hi1]; exact hx1
        have hC : clash S1 Z1 S2 Z2 v = false := by unfold clash; rw [hi1, hi2]
        have HXX := Lib.hid (And.intro hi1 (And.intro hi2 hx1))
        clear hi1 hi2 hx1 hat1 hp hq2
        go_upto_region 7 with fail
        go_quiet (fail)
        have v2 : (wb.drewN nq).cell? ⟨w.heap.size, 1, none⟩ = some (.slice (some ⟨z1, oz1, none⟩) n1 c2) := v2
        have c1z : (wb.drewN nq).cell? ⟨z1, oz1 + p, none⟩ = some (.int .i64 x1) := c1z
        have hrd := HS.out.2.2.2.1.drewN nq
        have hbd := below_drewN HS.out.2.2.2.2.1 nq
        have hsz2 := HS.out.2.1
        have f1 := hrd.frozen t
        have u1 := hrd.cell (j := t) (by omega)
        have hset := hrd.set (j := t) (by omega) (x1)
        have hfx : sizeF S1 Z1 S2 Z2 v = x1 := hF
        have hst2 := HS.out.1
        rw [hfx] at hst2
        rw [hst2] at hset
        have hb3 := hbd.setCell (p := ⟨wq.heap.size, t, none⟩) (Nat.le_refl _) (.int .i64 (x1))
        have hn2 := HS.out.2.2.1
        have HQ := Lib.hid (And.intro hset (And.intro hb3 hn2))
        clear hset hb3 hrd hbd hst2 hfx hn2
        go_wp2_with fail
        exact ⟨⟨t + 1, by omega, by go_num, HQ.out.1, HQ.out.2.1, by rw [HQ.out.2.2]; exact hC⟩, by simp [intOf]; omega⟩
      · simp only [if_true] at hi1 hi2
        obtain ⟨hlt1, hat1⟩ := idxOf_some hi1
        obtain ⟨z1, oz1, rfl, _, hz1⟩ := H.has.2.2.2.2.1.at' (by omega)
        have c1z := hz1 p (by omega)
        have i1a : (0 : Int) ≤ (p : Int) := by omega
        have i1b : (p : Int) < (n1 : Int) := by omega
        have i1c : p < n1 := by omega
        have d1b : decide ((p : Int) < (n1 : Int)) = true := by simpa using i1c
        clear hz1
        generalize hx1 : nth Z1 p = x1 at *
        obtain ⟨hlt2, hat2⟩ := idxOf_some hi2
        obtain ⟨z2, oz2, rfl, _, hz2⟩ := H.has.2.2.1.at' (by omega)
        have c2z := hz2 q (by omega)
        have i2a : (0 : Int) ≤ (q : Int) := by omega
        have i2b : (q : Int) < (m1 : Int) := by omega
        have i2c : q < m1 := by omega
        have d2b : decide ((q : Int) < (m1 : Int)) = true := by simpa using i2c
        clear hz2
        generalize hx2 : nth Z2 q = x2 at *
        have hF : sizeF S1 Z1 S2 Z2 v = x1 := by unfold sizeF; rw [hi1]; exact hx1
        have hC0 : clash S1 Z1 S2 Z2 v = (x1 != x2) := by unfold clash; rw [hi1, hi2, ← hx1, ← hx2]
        have HXX := Lib.hid (And.intro hi1 (And.intro hi2 (And.intro hx1 hx2)))
        clear hi1 hi2 hx1 hx2 hat1 hat2 hp hq2
        go_upto_region 7 with fail
        go_quiet (fail)
        have v2 : (wb.drewN nq).cell? ⟨w.heap.size, 1, none⟩ = some (.slice (some ⟨z1, oz1, none⟩) n1 c2) := v2
        have c1z : (wb.drewN nq).cell? ⟨z1, oz1 + p, none⟩ = some (.int .i64 x1) := c1z
        by_cases hxx : x1 = x2
        · have hbe : (x1 != x2) = false := by simp [hxx]
          have hC : clash S1 Z1 S2 Z2 v = false := by rw [hC0, hbe]
          have HXY := Lib.hid hxx
          clear hxx hC0
          have hrd := HS.out.2.2.2.1.drewN nq
          have hbd := below_drewN HS.out.2.2.2.2.1 nq
          have hsz2 := HS.out.2.1
          have f1 := hrd.frozen t
          have u1 := hrd.cell (j := t) (by omega)
          have hset := hrd.set (j := t) (by omega) (x1)
          have hfx : sizeF S1 Z1 S2 Z2 v = x1 := hF
          have hst2 := HS.out.1
          rw [hfx] at hst2
          rw [hst2] at hset
          have hb3 := hbd.setCell (p := ⟨wq.heap.size, t, none⟩) (Nat.le_refl _) (.int .i64 (x1))
          have hn2 := HS.out.2.2.1
          have HQ := Lib.hid (And.intro hset (And.intro hb3 hn2))
          clear hset hb3 hrd hbd hst2 hfx hn2
          go_wp2_with fail
          exact ⟨⟨t + 1, by omega, by go_num, HQ.out.1, HQ.out.2.1, by rw [HQ.out.2.2]; exact hC⟩, by simp [intOf]; omega⟩
        · have hbe : (x1 != x2) = true := by simp [hxx]
          have hC : clash S1 Z1 S2 Z2 v = true := by rw [hC0, hbe]
          have HF := Lib.hid (And.intro (List.any_eq_true.2 ⟨v, hvU, hC⟩ : U.any (clash S1 Z1 S2 Z2) = true) (H.drewN nq).bel)
          clear hxx hC0 hC H
          go_wp2_with fail
          go_ret2
          exact .inl ⟨HF.out.1, rfl, HF.out.2⟩
    · obtain rfl : n = t := by omega
      have hno2 : U.any (clash S1 Z1 S2 Z2) = false := by rw [List.take_of_length_le (by have := HL.out.1; omega)] at hno; exact hno
      have hl := HL.out.1
      have hall : szL U (sizeF S1 Z1 S2 Z2) n = U.map (sizeF S1 Z1 S2 Z2) := by rw [← hl]; exact szL_all _ _
      rw [hall] at hr
      have HF := Lib.hid (And.intro hno2 (And.intro hr H.bel))
      clear hr hno hbw H hno2 hall
      go_wp2_with fail
      go_ret2
      exact .inr ⟨HF.out.1, _, _, rfl, OwnR.of_row' HF.out.2.1 HW.out.1.bel.size (by rw [List.length_map]; simpa using hl) (by unfold maxLen; omega) (by rw [List.length_map]; exact hl), HF.out.2.2⟩
end Go.Proofs.Ytgmchedfgdgenaa
