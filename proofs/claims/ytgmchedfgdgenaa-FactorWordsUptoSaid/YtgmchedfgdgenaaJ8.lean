/- Joined by program out of: SizedS, CheckS, RingI. What each says stands at its own head. -/
import Derived.Test.YtgmchedfgdgenaaJ5
import Derived.Test.YtgmchedfgdgenaaCheck
import Derived.Test.YtgmchedfgdgenaaJ1
import Derived.Outline
/- factor.sized at string, walked. Conditions: the lists read, within Go's bound; both tables' scopes rise; each variable of the scope is in one of them. -/
namespace Go.Proofs.Ytgmchedfgdgenaa
open Go.RowKit

set_option maxRecDepth 100000 in
set_option maxHeartbeats 1600000 in
theorem sized_s (A A1 A2 A3 B1 B2 B3 : Option Addr) (n c n1 c1 c2 n3 c3 m1 d1 d2 m3 d3 : Nat) (U S1 Z1 S2 Z2 : List Int) (w : World) (h : Sl (Value.int .i64) w A n U) (h1 : Sl (Value.int .i64) w A1 n1 S1) (h2 : Sl (Value.int .i64) w A2 n1 Z1) (k1 : Sl (Value.int .i64) w B1 m1 S2) (k2 : Sl (Value.int .i64) w B2 m1 Z2)
    (hb : n * 8 ≤ 140737488351232) (ha : Asc cmpI S1) (hb2 : Asc cmpI S2) (hU : ∀ x, x ∈ U → x ∈ S1 ∨ x ∈ S2) :
    Calls Try.prog 80 #[.slice A n c, .agg #[.slice A1 n1 c1, .slice A2 n1 c2, .slice A3 n3 c3], .agg #[.slice B1 m1 d1, .slice B2 m1 d2, .slice B3 m3 d3]] w (SizedPost n U S1 Z1 S2 Z2 w) := by
  have H0 := (((((((Held.init w).sl h).sl h1).sl h2).sl k1).sl k2).new 33 [.slice A1 n1 c1, .slice A2 n1 c2, .slice A3 n3 c3]).new 33 [.slice B1 m1 d1, .slice B2 m1 d2, .slice B3 m3 d3]
  rw [show (w.alloc (.cells [.slice A1 n1 c1, .slice A2 n1 c2, .slice A3 n3 c3].toArray 33)).heap.size = w.heap.size + 1 from by simp] at H0
  have HL := Lib.hid (And.intro h.len (And.intro h1.len (And.intro h2.len (And.intro k1.len (And.intro k2.len (And.intro ha (And.intro hb2 hU)))))))
  have hq : 8 * n ≤ 281474976710656 := by omega
  have hbig := h.big
  have hbig1 := h1.big
  have hbig2 := k1.big
  clear h h1 h2 k1 k2 ha hb2 hU
  go_enter Try.func80, Try.ntmps80
  go_wp2_with (first
    | (at_make; refine wpList_mk _ eiI (Value.int .i64) 0 rfl rfl _ _ rfl n rfl rfl hq ?_)
    | fail)
  intro w4 hr hb4
  obtain ⟨wq, hwq⟩ : ∃ wq, wq = (w.alloc (.cells #[.slice A1 n1 c1, .slice A2 n1 c2, .slice A3 n3 c3] 33)).alloc (.cells #[.slice B1 m1 d1, .slice B2 m1 d2, .slice B3 m3 d3] 33) := ⟨_, rfl⟩
  have hsz : wq.heap.size = w.heap.size + 1 + 1 := by rw [hwq]; simp
  have H1 := H0
  rw [← hwq] at hb4 H1
  rw [← hsz] at hr hb4 ⊢
  have HW := Lib.hid (And.intro H1 hsz)
  have HB := Lib.hid (And.intro hr hb4)
  clear H0 H1 hr hb4 hwq hsz
  go_wp2_with fail
  go_loopw [20] (fun i wr => ∃ t : Nat, t ≤ n ∧ i = .int .i64 (t : Int) ∧ RowAt (Value.int .i64) wr wq.heap.size 3 (szL U (sizeF S1 Z1 S2 Z2) t) [] ∧ Below wq.heap.size wq wr ∧ (U.take t).any (clash S1 Z1 S2 Z2) = false) (fun i _ => n - (intOf i).toNat)
  case atStart => exact ⟨0, Nat.zero_le _, rfl, by rw [szL_zero, HL.out.1]; exact HB.out.1, HB.out.2, by simp⟩
  case round =>
    obtain ⟨t, ht, rfl, hr, hbw, hno⟩ := hrel
    obtain ⟨wb, hwb⟩ : ∃ wb : World, wb = wr := ⟨_, rfl⟩
    subst hwb
    have H := HW.out.1.step hbw
    by_cases hlt : t < n
    · obtain ⟨lU, l1, l2, l3, l4, ha, hb2, hU⟩ := HL.out
      obtain ⟨b0, o0, rfl, _, hc0⟩ := H.has.2.2.2.2.2.2.1.at' (by omega)
      have g0 := hc0 t hlt
      have hvU : nth U t ∈ U := nth_mem (by omega)
      have hvS := hU _ hvU
      have hany := any_take_snoc (clash S1 Z1 S2 Z2) (show t < U.length by omega)
      rw [hno, Bool.false_or] at hany
      have hstep := szL_step (F := sizeF S1 Z1 S2 Z2) (show t < U.length by omega)
      have hlen := szL_length (U := U) (F := sizeF S1 Z1 S2 Z2) (show t ≤ U.length by omega)
      clear hc0
      generalize hv : nth U t = v at *
      have v0 := H.has.2.1.cell 0
      have HS := Lib.hid (And.intro hstep (And.intro hlen (And.intro hany (And.intro hr (And.intro hbw (And.intro hvS (And.intro hv hvU)))))))
      clear hstep hlen hany hr hno hvS hv
      go_wp2_with fail
      refine (SoI.bs_any A1 n1 c1 S1 v _ H.has.2.2.2.2.2.1 ha).mono ?_
      rintro e w5 ⟨p, rfl, hp, hw5⟩
      subst hw5
      have hi1 := bs_idx hp ha
      have v1 := H.has.1.cell 0
      clear v0
      generalize hone : isIn cmpI v S1 = one at *
      have HO := Lib.hid hone
      clear hone
      go_wp2_with fail
      refine (SoI.bs_any B1 m1 d1 S2 v _ H.has.2.2.2.1 hb2).mono ?_
      rintro e w5 ⟨q, rfl, hq2, hw5⟩
      subst hw5
      have hi2 := bs_idx hq2 hb2
      clear v1
      generalize htwo : isIn cmpI v S2 = two at *
      have HT := Lib.hid htwo
      clear htwo
--BEGIN-CASES
      have v2 := H.has.2.1.cell 1
      have v3 := H.has.1.cell 1
      rcases one with _ | _ <;> rcases two with _ | _
      · exfalso
        rcases HS.out.2.2.2.2.2.1 with h | h
        · exact absurd (isIn_iff.2 ⟨v, h, by rw [cmpI_zero]⟩) (by rw [HO.out]; simp)
        · exact absurd (isIn_iff.2 ⟨v, h, by rw [cmpI_zero]⟩) (by rw [HT.out]; simp)
      · simp only [if_true, Bool.false_eq_true, if_false] at hi1 hi2
        obtain ⟨hlt2, hat2⟩ := idxOf_some hi2
        obtain ⟨z2, oz2, rfl, _, hz2⟩ := H.has.2.2.1.at' (by omega)
        have c2z := hz2 q (by omega)
        have i2a : (0 : Int) ≤ (q : Int) := by omega
        have i2b : (q : Int) < (m1 : Int) := by omega
        have i2c : q < m1 := by omega
        have d2b : decide ((q : Int) < (m1 : Int)) = true := by simpa using i2c
        clear hz2
        generalize hx2 : nth Z2 q = x2 at *
        have hF : sizeF S1 Z1 S2 Z2 v = x2 := by unfold sizeF; rw [hi1, hi2]; exact hx2
        have hC : clash S1 Z1 S2 Z2 v = false := by unfold clash; rw [hi1]
        have HXX := Lib.hid (And.intro hi1 (And.intro hi2 hx2))
        clear hi1 hi2 hx2 hat2 hp hq2
        go_upto_region 7 with fail
        go_quiet (fail)
        have v3 : (wb.drewN nq).cell? ⟨w.heap.size + 1, 1, none⟩ = some (.slice (some ⟨z2, oz2, none⟩) m1 d2) := v3
        have c2z : (wb.drewN nq).cell? ⟨z2, oz2 + q, none⟩ = some (.int .i64 x2) := c2z
        have hrd := HS.out.2.2.2.1.drewN nq
        have hbd := below_drewN HS.out.2.2.2.2.1 nq
        have hsz2 := HS.out.2.1
        have f1 := hrd.frozen t
        have u1 := hrd.cell (j := t) (by omega)
        have hset := hrd.set (j := t) (by omega) (x2)
        have hfx : sizeF S1 Z1 S2 Z2 v = x2 := hF
        have hst2 := HS.out.1
        rw [hfx] at hst2
        rw [hst2] at hset
        have hb3 := hbd.setCell (p := ⟨wq.heap.size, t, none⟩) (Nat.le_refl _) (.int .i64 (x2))
        have hn2 := HS.out.2.2.1
        have HQ := Lib.hid (And.intro hset (And.intro hb3 hn2))
        clear hset hb3 hrd hbd hst2 hfx hn2
        go_wp2_with fail
        exact ⟨⟨t + 1, by omega, by go_num, HQ.out.1, HQ.out.2.1, by rw [HQ.out.2.2]; exact hC⟩, by simp [intOf]; omega⟩
      · simp only [if_true, Bool.false_eq_true, if_false] at hi1 hi2
        obtain ⟨hlt1, hat1⟩ := idxOf_some hi1
        obtain ⟨z1, oz1, rfl, _, hz1⟩ := H.has.2.2.2.2.1.at' (by omega)
        have c1z := hz1 p (by omega)
        have i1a : (0 : Int) ≤ (p : Int) := by omega
        have i1b : (p : Int) < (n1 : Int) := by omega
        have i1c : p < n1 := by omega
        have d1b : decide ((p : Int) < (n1 : Int)) = true := by simpa using i1c
        clear hz1
        generalize hx1 : nth Z1 p = x1 at *
        have hF : sizeF S1 Z1 S2 Z2 v = x1 := by unfold sizeF; rw [hi1]; exact hx1
        have hC : clash S1 Z1 S2 Z2 v = false := by unfold clash; rw [hi1, hi2]
        have HXX := Lib.hid (And.intro hi1 (And.intro hi2 hx1))
        clear hi1 hi2 hx1 hat1 hp hq2
        go_upto_region 7 with fail
        go_quiet (fail)
        have v2 : (wb.drewN nq).cell? ⟨w.heap.size, 1, none⟩ = some (.slice (some ⟨z1, oz1, none⟩) n1 c2) := v2
        have c1z : (wb.drewN nq).cell? ⟨z1, oz1 + p, none⟩ = some (.int .i64 x1) := c1z
        have hrd := HS.out.2.2.2.1.drewN nq
        have hbd := below_drewN HS.out.2.2.2.2.1 nq
        have hsz2 := HS.out.2.1
        have f1 := hrd.frozen t
        have u1 := hrd.cell (j := t) (by omega)
        have hset := hrd.set (j := t) (by omega) (x1)
        have hfx : sizeF S1 Z1 S2 Z2 v = x1 := hF
        have hst2 := HS.out.1
        rw [hfx] at hst2
        rw [hst2] at hset
        have hb3 := hbd.setCell (p := ⟨wq.heap.size, t, none⟩) (Nat.le_refl _) (.int .i64 (x1))
        have hn2 := HS.out.2.2.1
        have HQ := Lib.hid (And.intro hset (And.intro hb3 hn2))
        clear hset hb3 hrd hbd hst2 hfx hn2
        go_wp2_with fail
        exact ⟨⟨t + 1, by omega, by go_num, HQ.out.1, HQ.out.2.1, by rw [HQ.out.2.2]; exact hC⟩, by simp [intOf]; omega⟩
      · simp only [if_true] at hi1 hi2
        obtain ⟨hlt1, hat1⟩ := idxOf_some hi1
        obtain ⟨z1, oz1, rfl, _, hz1⟩ := H.has.2.2.2.2.1.at' (by omega)
        have c1z := hz1 p (by omega)
        have i1a : (0 : Int) ≤ (p : Int) := by omega
        have i1b : (p : Int) < (n1 : Int) := by omega
        have i1c : p < n1 := by omega
        have d1b : decide ((p : Int) < (n1 : Int)) = true := by simpa using i1c
        clear hz1
        generalize hx1 : nth Z1 p = x1 at *
        obtain ⟨hlt2, hat2⟩ := idxOf_some hi2
        obtain ⟨z2, oz2, rfl, _, hz2⟩ := H.has.2.2.1.at' (by omega)
        have c2z := hz2 q (by omega)
        have i2a : (0 : Int) ≤ (q : Int) := by omega
        have i2b : (q : Int) < (m1 : Int) := by omega
        have i2c : q < m1 := by omega
        have d2b : decide ((q : Int) < (m1 : Int)) = true := by simpa using i2c
        clear hz2
        generalize hx2 : nth Z2 q = x2 at *
        have hF : sizeF S1 Z1 S2 Z2 v = x1 := by unfold sizeF; rw [hi1]; exact hx1
        have hC0 : clash S1 Z1 S2 Z2 v = (x1 != x2) := by unfold clash; rw [hi1, hi2, ← hx1, ← hx2]
        have HXX := Lib.hid (And.intro hi1 (And.intro hi2 (And.intro hx1 hx2)))
        clear hi1 hi2 hx1 hx2 hat1 hat2 hp hq2
        go_upto_region 7 with fail
        go_quiet (fail)
        have v2 : (wb.drewN nq).cell? ⟨w.heap.size, 1, none⟩ = some (.slice (some ⟨z1, oz1, none⟩) n1 c2) := v2
        have c1z : (wb.drewN nq).cell? ⟨z1, oz1 + p, none⟩ = some (.int .i64 x1) := c1z
        by_cases hxx : x1 = x2
        · have hbe : (x1 != x2) = false := by simp [hxx]
          have hC : clash S1 Z1 S2 Z2 v = false := by rw [hC0, hbe]
          have HXY := Lib.hid hxx
          clear hxx hC0
          have hrd := HS.out.2.2.2.1.drewN nq
          have hbd := below_drewN HS.out.2.2.2.2.1 nq
          have hsz2 := HS.out.2.1
          have f1 := hrd.frozen t
          have u1 := hrd.cell (j := t) (by omega)
          have hset := hrd.set (j := t) (by omega) (x1)
          have hfx : sizeF S1 Z1 S2 Z2 v = x1 := hF
          have hst2 := HS.out.1
          rw [hfx] at hst2
          rw [hst2] at hset
          have hb3 := hbd.setCell (p := ⟨wq.heap.size, t, none⟩) (Nat.le_refl _) (.int .i64 (x1))
          have hn2 := HS.out.2.2.1
          have HQ := Lib.hid (And.intro hset (And.intro hb3 hn2))
          clear hset hb3 hrd hbd hst2 hfx hn2
          go_wp2_with fail
          exact ⟨⟨t + 1, by omega, by go_num, HQ.out.1, HQ.out.2.1, by rw [HQ.out.2.2]; exact hC⟩, by simp [intOf]; omega⟩
        · have hbe : (x1 != x2) = true := by simp [hxx]
          have hC : clash S1 Z1 S2 Z2 v = true := by rw [hC0, hbe]
          have HF := Lib.hid (And.intro (List.any_eq_true.2 ⟨v, hvU, hC⟩ : U.any (clash S1 Z1 S2 Z2) = true) (H.drewN nq).bel)
          clear hxx hC0 hC H
          go_wp2_with fail
          go_ret2
          exact .inl ⟨HF.out.1, rfl, HF.out.2⟩
    · obtain rfl : n = t := by omega
      have hno2 : U.any (clash S1 Z1 S2 Z2) = false := by rw [List.take_of_length_le (by have := HL.out.1; omega)] at hno; exact hno
      have hl := HL.out.1
      have hall : szL U (sizeF S1 Z1 S2 Z2) n = U.map (sizeF S1 Z1 S2 Z2) := by rw [← hl]; exact szL_all _ _
      rw [hall] at hr
      have HF := Lib.hid (And.intro hno2 (And.intro hr H.bel))
      clear hr hno hbw H hno2 hall
      go_wp2_with fail
      go_ret2
      exact .inr ⟨HF.out.1, _, _, rfl, OwnR.of_row' HF.out.2.1 HW.out.1.bel.size (by rw [List.length_map]; simpa using hl) (by unfold maxLen; omega) (by rw [List.length_map]; exact hl), HF.out.2.2⟩
end Go.Proofs.Ytgmchedfgdgenaa
/- factor.Check of a table of string, walked. Conditions: the lists read. -/
namespace Go.Proofs.Ytgmchedfgdgenaa
open Go.RowKit

set_option maxRecDepth 100000 in
set_option maxHeartbeats 1600000 in
theorem check_s (A1 A2 A3 : Option Addr) (n1 c1 n2 c2 n3 c3 : Nat) (S Z : List Int) (w : World) (hS : Sl (Value.int .i64) w A1 n1 S) (hZ : Sl (Value.int .i64) w A2 n2 Z) (_ : n3 ≤ 140737488351232) :
    Calls Try.prog 50 #[.agg #[.slice A1 n1 c1, .slice A2 n2 c2, .slice A3 n3 c3]] w fun e w' => e = .returned (.int .i64 (checkC S Z n3)) ∧ Below w.heap.size w w' := by
  have hb1 := hS.big
  have hb2 := hZ.big
  have HI := Lib.hid (And.intro hS.len hZ.len)
  have H1 := (((Held.init w).sl hZ).sl hS).new 33 [.slice A1 n1 c1, .slice A2 n2 c2, .slice A3 n3 c3]
  have r0 := H1.has.1.cell 0
  have r1 := H1.has.1.cell 1
  have r2 := H1.has.1.cell 2
  have hS1 := H1.has.2.1
  have hZ1 := H1.has.2.2.1
  have HB := Lib.hid H1.bel
  clear H1 hS hZ
  go_enter Try.func50, Try.ntmps50
  by_cases hne : n1 = n2
  · subst hne
    go_upto_region 3 with fail
    generalize hp : w.heap.size = p at *
    generalize w.alloc (.cells #[.slice A1 n1 c1, .slice A2 n1 c2, .slice A3 n3 c3] 33) = wb at *
    go_wp2_with fail
    go_loopw [3, 18] (fun a i wr => ∃ k : Nat, a = .int .i64 (aheadC S k) ∧ i = .int .i64 (k : Nat) ∧ k ≤ n1 ∧ okAt S Z k = true ∧ wr = wb) (fun _ i _ => n1 - (intOf i).toNat)
    case atStart => exact ⟨0, rfl, rfl, Nat.zero_le _, rfl, rfl⟩
    case round =>
      obtain ⟨k, rfl, rfl, hk, hok, hwr⟩ := hrel
      have hwr := hwr.symm
      subst hwr
      by_cases hlt : k < n1
      · obtain ⟨bs, os, rfl, _, hcs⟩ := hS1.at' (by omega)
        obtain ⟨bz, oz, rfl, _, hcz⟩ := hZ1.at' (by omega)
        have g1 := hcs k hlt
        have g2 := hcz k hlt
        have hst := okAt_step hok
        have hah : aheadC S (k + 1) = nth S k := by unfold aheadC; simp
        have hbad : okAt S Z (k + 1) = false → checkC S Z n3 = 60 := fun h => by
          unfold checkC
          rw [if_neg (by rw [HI.out.1, HI.out.2]; simp), if_pos (okAt_down S Z S.length (k + 1) (by rw [HI.out.1]; omega) h)]
        have HS := Lib.hid (And.intro hst (And.intro hah hbad)); clear hst hah hbad hok hcs hcz
        generalize hs : nth S k = s at g1
        generalize hz : nth Z k = z at g2
        generalize ha : aheadC S k = a
        have HE := Lib.hid (And.intro hs (And.intro hz ha)); clear hs hz ha
        by_cases hle : s ≤ a
        · have HC := Lib.hid (HS.out.2.2 (by rw [HS.out.1, HE.out.1, HE.out.2.1, HE.out.2.2, decide_eq_false (by omega)]; rfl))
          go_wp2_with fail
          go_ret
          exact ⟨ret_int HC.out.symm, HB.out⟩
        · have hle' : decide (s ≤ a) = false := by simpa using hle
          by_cases hz1 : z < 1
          · have HC := Lib.hid (HS.out.2.2 (by rw [HS.out.1, HE.out.1, HE.out.2.1, HE.out.2.2, decide_eq_false (show ¬ 1 ≤ z by omega), Bool.and_false]))
            go_wp2_with fail
            go_ret
            exact ⟨ret_int HC.out.symm, HB.out⟩
          · have hok2 : okAt S Z (k + 1) = true := by rw [HS.out.1, HE.out.1, HE.out.2.1, HE.out.2.2, decide_eq_true (show a < s by omega), decide_eq_true (show 1 ≤ z by omega)]; rfl
            have HO := Lib.hid hok2; clear hok2
            go_wp2_with fail
            exact ⟨⟨k + 1, by rw [HS.out.2.1, HE.out.1], by go_num, by omega, HO.out, trivial⟩, by simp [intOf]; omega⟩
      · obtain rfl : k = n1 := by omega
        have hcc : checkC S Z n3 = if (cntC Z).2 ≠ 0 then (cntC Z).2 else if (cntC Z).1 ≠ n3 then 60 else 0 := by
          unfold checkC
          rw [if_neg (by rw [HI.out.1, HI.out.2]; simp), if_neg (by rw [HI.out.1, hok]; simp)]
        have HC := Lib.hid hcc; clear hcc hok
        go_wp2_with fail
        refine (count_any A2 k c2 Z _ hZ1).mono ?_
        rintro e wx ⟨rfl, rfl⟩
        generalize hq : cntC Z = q
        rw [hq] at HC
        obtain ⟨q1, q2⟩ := q
        simp only at HC ⊢
        have HQ := Lib.hid hq; clear hq
        by_cases h2 : q2 = 0
        · subst h2
          by_cases h3' : q1 = n3
          · subst h3'
            go_wp2_with fail
            go_ret
            exact ⟨ret_int (by rw [HC.out]; simp), by first | exact HB.out | (rw [hp]; exact HB.out)⟩
          · go_wp2_with fail
            go_ret
            exact ⟨ret_int (by rw [HC.out]; simp [h3']), by first | exact HB.out | (rw [hp]; exact HB.out)⟩
        · go_wp2_with fail
          go_ret
          exact ⟨ret_int (by rw [HC.out]; simp [h2]), by first | exact HB.out | (rw [hp]; exact HB.out)⟩
  · have hne' : ¬ n2 = n1 := fun h => hne h.symm
    have hcc : checkC S Z n3 = 60 := by unfold checkC; rw [if_pos (by rw [HI.out.1, HI.out.2]; exact hne)]
    have HC := Lib.hid hcc; clear hcc
    go_wp2_with fail
    go_ret
    exact ⟨ret_int HC.out.symm, HB.out⟩
end Go.Proofs.Ytgmchedfgdgenaa
/- ring.Ints.Zero, Add, Mul, walked. No condition. -/
namespace Go.Proofs.Ytgmchedfgdgenaa
open Go.RowKit

set_option maxHeartbeats 400000 in
theorem zero_i (w : World) : Calls Try.prog 120 #[.agg #[]] w fun e w' => e = .returned (.int .i64 0) ∧ Below w.heap.size w w' := by
  have H := (Held.init w).new 41 []
  have HB := Lib.hid H.bel
  clear H
  go_enter Try.func120, Try.ntmps120
  go_wp2_with fail
  go_ret
  exact ⟨rfl, HB.out⟩
set_option maxHeartbeats 400000 in
theorem add_i (a b : Int) (w : World) : Calls Try.prog 116 #[.agg #[], .int .i64 a, .int .i64 b] w fun e w' => e = .returned (.int .i64 (wrap64 (a + b))) ∧ Below w.heap.size w w' := by
  have H := (Held.init w).new 41 []
  have HB := Lib.hid H.bel
  clear H
  go_enter Try.func116, Try.ntmps116
  go_wp2_with fail
  go_ret
  exact ⟨rfl, HB.out⟩
set_option maxHeartbeats 400000 in
theorem mul_i (a b : Int) (w : World) : Calls Try.prog 117 #[.agg #[], .int .i64 a, .int .i64 b] w fun e w' => e = .returned (.int .i64 (wrap64 (a * b))) ∧ Below w.heap.size w w' := by
  have H := (Held.init w).new 41 []
  have HB := Lib.hid H.bel
  clear H
  go_enter Try.func117, Try.ntmps117
  go_wp2_with fail
  go_ret
  exact ⟨rfl, HB.out⟩
/-- the product, as the ring has it -/
def mulF_i (a b : Int) : Int := wrap64 (a * b)
def MulOk_i (_ _ : Int) : Prop := True
theorem mulC_i (a b : Int) (w : World) (_ : MulOk_i a b) : Calls Try.prog 117 #[.agg #[], .int .i64 a, .int .i64 b] w fun e w' => e = .returned (.int .i64 (mulF_i a b)) ∧ Below w.heap.size w w' := mul_i a b w
/-- the sum, as the ring has it -/
def addF_i (a b : Int) : Int := wrap64 (a + b)
def AddOk_i (_ _ : Int) : Prop := True
theorem addC_i (a b : Int) (w : World) (_ : AddOk_i a b) : Calls Try.prog 116 #[.agg #[], .int .i64 a, .int .i64 b] w fun e w' => e = .returned (.int .i64 (addF_i a b)) ∧ Below w.heap.size w w' := add_i a b w
def zeroF_i : Int := 0
theorem zeroC_i (w : World) : Calls Try.prog 120 #[.agg #[]] w fun e w' => e = .returned (.int .i64 zeroF_i) ∧ Below w.heap.size w w' := zero_i w
end Go.Proofs.Ytgmchedfgdgenaa
