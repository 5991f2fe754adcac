/- Joined by program out of: Find, At, RAt. What each says stands at its own head. -/
import Derived.Test.YtgmchedfgdgenaaJ9
import Derived.Test.YtgmchedfgdgenaaJ4
import Derived.Test.YtgmchedfgdgenaaJ1
import Derived.WalkLawsBesides
import Derived.Deep.QuietTactic
import Derived.BigQuiet
/- credenceref13.Find, walked. No condition. -/
namespace Go.Proofs.Ytgmchedfgdgenaa
open Go.RowKit

/-- the first place of a number in a list, from a place on; -1: none -/
def findF (v : Int) : List Int → Nat → Int
  | [], _ => -1
  | x :: l, k => if x = v then (k : Int) else findF v l (k + 1)
theorem findF_drop {v : Int} {xs : List Int} {k : Nat} (h : k < xs.length) : findF v (xs.drop k) k = if nth xs k = v then (k : Int) else findF v (xs.drop (k + 1)) (k + 1) := by
  rw [List.drop_eq_getElem_cons h, findF, nth_eq h]
theorem findF_end {v : Int} {xs : List Int} {k : Nat} (h : xs.length ≤ k) : findF v (xs.drop k) k = -1 := by
  rw [List.drop_eq_nil_of_le h, findF]
set_option maxRecDepth 100000 in
set_option maxHeartbeats 400000 in
theorem find_any (A : Option Addr) (n c : Nat) (xs : List Int) (v : Int) (w : World) (hx : Sl (Value.int .i64) w A n xs) :
    Calls Try.prog 75 #[.slice A n c, .int .i64 v] w fun e w' => e = .returned (.int .i64 (findF v xs 0)) ∧ w = w' := by
  have hbig := hx.big
  have HL := Lib.hid hx.len
  have HX := Lib.hid hx
  clear hx
  go_enter Try.func75, Try.ntmps75
  go_wp2_with fail
  go_loopw [5] (fun i wr => ∃ k : Nat, k ≤ n ∧ i = .int .i64 k ∧ wr = w ∧ findF v xs 0 = findF v (xs.drop k) k) (fun i _ => n - (intOf i).toNat)
  case atStart => exact ⟨0, Nat.zero_le _, rfl, rfl, rfl⟩
  case round =>
    obtain ⟨k, hk, rfl, rfl, heq⟩ := hrel
    have HQ := Lib.hid heq; clear heq
    by_cases hlt : k < n
    · obtain ⟨b, off, rfl, hb, hc⟩ := HX.out.at' (by omega)
      have g1 := hc k hlt
      clear hc
      have HK := Lib.hid (findF_drop (v := v) (xs := xs) (k := k) (by rw [HL.out]; exact hlt))
      rcases hbe : (nth xs k == v) with _ | _
      · have hne : ¬ nth xs k = v := by simpa using hbe
        have HN := Lib.hid hne
        clear hne
        go_wp2_with fail
        go_roundw
        case rel => exact ⟨k + 1, by omega, by go_num, by first | rfl | trivial, by rw [HQ.out, HK.out, if_neg HN.out]⟩
        case measure => simp [intOf]; omega
      · have hne : nth xs k = v := by simpa using hbe
        have HN := Lib.hid hne
        clear hne
        go_wp2_with fail
        go_ret
        exact ⟨ret_int (by rw [HQ.out, HK.out, if_pos HN.out]), rfl⟩
    · have he := findF_end (v := v) (xs := xs) (k := k) (by rw [HL.out]; omega)
      have HE := Lib.hid he
      clear he
      go_wp2_with fail
      go_ret
      exact ⟨ret_int (by rw [HQ.out, HE.out]), rfl⟩
end Go.Proofs.Ytgmchedfgdgenaa
/- radix.At at ints, walked. Conditions: the sizes are 1 or more, not too many. -/
namespace Go.Proofs.Ytgmchedfgdgenaa
open Go.RowKit
attribute [local go_sem] Oper.semAt_some

def digOk (Z d : List Int) (i : Nat) : Bool := decide (0 ≤ nth d i) && decide (nth d i < nth Z i)
/-- the place of some digits, and what is wrong with them -/
def atC (Z d : List Int) : Int × Int := if d.length ≠ Z.length then (0, 60) else if (List.range Z.length).all (digOk Z d) = true then (atS Z d, 0) else (0, 3)
theorem atS_snoc {z x : Int} : ∀ {Z d : List Int}, Z.length = d.length → atS (Z ++ [z]) (d ++ [x]) = atS Z d * z + x
  | [], [], _ => by simp [atS, sufP, nth]
  | y :: Z, e :: d, h => by
    have h1 : Z.length = d.length := by simpa using h
    rw [List.cons_append, List.cons_append, atS_cons, atS_cons, atS_snoc h1, sufP_snoc, Int.add_mul, Int.mul_right_comm, Int.add_assoc]
  | [], _ :: _, h => by simp at h
  | _ :: _, [], h => by simp at h
theorem sufP_take_le {Z : List Int} (hz : ∀ z, z ∈ Z → 1 ≤ z) (k : Nat) : sufP (Z.take k) 0 ≤ sufP Z 0 := by
  have h1 : sufP Z 0 = sufP (Z.take k) 0 * sufP (Z.drop k) 0 := by
    unfold sufP
    rw [List.drop_zero, List.drop_zero, List.drop_zero]
    have : ∀ (a b : List Int), (a ++ b).foldr (· * ·) 1 = a.foldr (· * ·) 1 * b.foldr (· * ·) (1 : Int) := by
      intro a b
      induction a with
      | nil => simp
      | cons x a ih => rw [List.cons_append, List.foldr_cons, List.foldr_cons, ih, Int.mul_assoc]
    rw [← this, List.take_append_drop]
  have h2 := sufP_pos (Z := Z.take k) (fun z h => hz z (List.mem_of_mem_take h)) 0
  have h3 := sufP_pos (Z := Z.drop k) (fun z h => hz z (List.mem_of_mem_drop h)) 0
  have h4 := Int.mul_le_mul_of_nonneg_left h3 (show 0 ≤ sufP (Z.take k) 0 by omega)
  omega
theorem atS_take {Z d : List Int} (hz : ∀ z, z ∈ Z → 1 ≤ z) (hl : d.length = Z.length) {k : Nat} (hk : k ≤ Z.length) (h : ∀ i, i < k → 0 ≤ nth d i ∧ nth d i < nth Z i) : 0 ≤ atS (Z.take k) (d.take k) ∧ atS (Z.take k) (d.take k) < sufP Z 0 := by
  have h1 := atS_range (Z := Z.take k) (d := d.take k) (by simp [hl]) (fun z h => hz z (List.mem_of_mem_take h)) (fun i hi => by
    have hi' : i < k := by simp at hi; omega
    rw [nth_take hi', nth_take hi']
    exact h i hi')
  have h2 := sufP_take_le hz k
  omega
theorem digOk_true {Z d : List Int} {i : Nat} (h : 0 ≤ nth d i ∧ nth d i < nth Z i) : digOk Z d i = true := by simp [digOk, h]
theorem atC_ok {Z d : List Int} (hl : d.length = Z.length) (h : ∀ i, i < Z.length → 0 ≤ nth d i ∧ nth d i < nth Z i) : atC Z d = (atS Z d, 0) := by
  unfold atC
  rw [if_neg (by simpa using hl), if_pos]
  rw [List.all_eq_true]
  intro i hi
  exact digOk_true (h i (List.mem_range.1 hi))
theorem atC_bad {Z d : List Int} (hl : d.length = Z.length) {i : Nat} (hi : i < Z.length) (h : ¬ (0 ≤ nth d i ∧ nth d i < nth Z i)) : atC Z d = (0, 3) := by
  unfold atC
  rw [if_neg (by simpa using hl), if_neg]
  rw [List.all_eq_true]
  intro hq
  have := hq i (List.mem_range.2 hi)
  simp [digOk] at this
  exact h this
theorem atC_len {Z d : List Int} (hl : d.length ≠ Z.length) : atC Z d = (0, 60) := by
  unfold atC; rw [if_pos hl]
set_option maxRecDepth 100000 in
set_option maxHeartbeats 800000 in
theorem at_any (A B : Option Addr) (n c m e' : Nat) (Z d : List Int) (w : World) (hZ : Sl (Value.int .i64) w A n Z) (hd : Sl (Value.int .i64) w B m d) (hz : ∀ z, z ∈ Z → 1 ≤ z) (hm : sufP Z 0 ≤ 2147483647) :
    Calls Try.prog 47 #[.slice A n c, .slice B m e'] w fun e w' => e = .returned (.tuple #[.int .i64 (atC Z d).1, .int .i64 (atC Z d).2]) ∧ w = w' := by
  have hbig := hZ.big
  have hbig2 := hd.big
  have hcn : cntC Z = (sufP Z 0, 0) := by rw [cntC_eq hz, if_neg (by omega)]
  have HL := Lib.hid (And.intro hZ.len (And.intro hd.len (And.intro hz (And.intro hm hcn))))
  have HS := Lib.hid (And.intro hZ hd)
  clear hZ hd hz hm hcn
  by_cases hnm : n = m
  · subst hnm
    have hdl : d.length = Z.length := by rw [HL.out.1, HL.out.2.1]
    have HDL := Lib.hid hdl
    clear hdl
    go_enter Try.func47, Try.ntmps47
    go_wp2_with fail
    refine (count_any A n c Z _ HS.out.1).mono ?_
    rintro e w1 ⟨rfl, rfl⟩
    rw [HL.out.2.2.2.2]
    go_wp2_with fail
    go_loop [8, 26] (fun a i => ∃ k : Nat, k ≤ n ∧ i = .int .i64 k ∧ a = .int .i64 (atS (Z.take k) (d.take k)) ∧ ∀ i, i < k → 0 ≤ nth d i ∧ nth d i < nth Z i) (fun _ i => n - (intOf i).toNat)
    case atStart => exact ⟨0, Nat.zero_le _, rfl, by simp [atS], fun i hi => by omega⟩
    case round =>
      obtain ⟨k, hk, rfl, rfl, hok⟩ := hrel
      by_cases hlt : k < n
      · obtain ⟨b, off, rfl, _, hc⟩ := HS.out.1.at' (by omega)
        obtain ⟨b2, off2, rfl, _, hc2⟩ := HS.out.2.at' (by omega)
        have g1 := hc k hlt
        have g2 := hc2 k hlt
        clear hc hc2
        have HK := Lib.hid hok
        clear hok
        by_cases hbad : 0 ≤ nth d k ∧ nth d k < nth Z k
        · obtain ⟨x, hx⟩ : ∃ x, x = nth d k := ⟨_, rfl⟩
          obtain ⟨z, hzz⟩ : ∃ z, z = nth Z k := ⟨_, rfl⟩
          rw [← hx, ← hzz] at hbad
          rw [← hx] at g2
          rw [← hzz] at g1
          have hb1 := hbad.1
          have hb2 := hbad.2
          have hok2 : ∀ i, i < k + 1 → 0 ≤ nth d i ∧ nth d i < nth Z i := fun i hi => by
            by_cases h : i < k
            · exact HK.out i h
            · obtain rfl : i = k := by omega
              rw [← hx, ← hzz]; exact hbad
          have hs := atS_take HL.out.2.2.1 HDL.out (k := k + 1) (by rw [HL.out.1]; omega) hok2
          have he : atS (Z.take (k + 1)) (d.take (k + 1)) = atS (Z.take k) (d.take k) * z + x := by
            rw [take_snoc (by rw [HL.out.1]; omega), take_snoc (by rw [HL.out.2.1]; omega), atS_snoc (by rw [List.length_take, List.length_take, HDL.out]), ← hx, ← hzz]
          have hs0 := atS_take HL.out.2.2.1 HDL.out (k := k) (by rw [HL.out.1]; omega) HK.out
          have hm := HL.out.2.2.2.1
          obtain ⟨a, ha⟩ : ∃ a, a = atS (Z.take k) (d.take k) := ⟨_, rfl⟩
          rw [← ha] at he hs0 ⊢
          obtain ⟨p, hp⟩ : ∃ p, p = a * z := ⟨_, rfl⟩
          rw [← hp] at he
          rw [he] at hs
          have hp0 : 0 ≤ p := by rw [hp]; exact Int.mul_nonneg hs0.1 (by omega)
          have hpw : IntKind.i64.wrap (a * z) = p := by
            rw [← hp]
            simp [IntKind.wrap, IntKind.bits, IntKind.signed]; omega
          have hs1 : p + x ≤ 2147483647 := by omega
          have d1 : decide (x < 0) = false := by simp; omega
          have d2 : decide (z ≤ x) = false := by simp; omega
          have HE := Lib.hid (And.intro he hok2)
          clear he hok2 hs hs0 ha hp hx hzz hm hbad
          go_wp2_with fail
          exact ⟨⟨k + 1, by omega, by go_num, by rw [HE.out.1], HE.out.2⟩, by simp [intOf]; omega⟩
        · have hat := atC_bad HDL.out (by rw [HL.out.1]; exact hlt) hbad
          obtain ⟨x, hx⟩ : ∃ x, x = nth d k := ⟨_, rfl⟩
          obtain ⟨z, hzz⟩ : ∃ z, z = nth Z k := ⟨_, rfl⟩
          rw [← hx, ← hzz] at hbad
          rw [← hx] at g2
          rw [← hzz] at g1
          have HAT := Lib.hid hat
          clear hx hzz hat
          by_cases hneg : x < 0
          · have d1 : decide (x < 0) = true := by simpa using hneg
            go_wp2_with fail
            go_ret2
            rw [HAT.out]
            exact ⟨rfl, rfl⟩
          · have d1 : decide (x < 0) = false := by simpa using hneg
            have hge : z ≤ x := by omega
            have d2 : decide (z ≤ x) = true := by simpa using hge
            go_wp2_with fail
            go_ret2
            rw [HAT.out]
            exact ⟨rfl, rfl⟩
      · obtain rfl : k = n := by omega
        have hat := atC_ok HDL.out (fun i hi => hok i (by rw [← HL.out.1]; exact hi))
        rw [List.take_of_length_le (by rw [HL.out.1]; exact Nat.le_refl _), List.take_of_length_le (by rw [HL.out.2.1]; exact Nat.le_refl _)]
        have HAT := Lib.hid hat
        clear hat hok
        go_wp2_with fail
        go_ret2
        rw [HAT.out]
        exact ⟨rfl, rfl⟩
  · have hat := atC_len (Z := Z) (d := d) (by rw [HL.out.1, HL.out.2.1]; exact fun h => hnm h.symm)
    have HAT := Lib.hid hat
    have hne : ((m : Int) != (n : Int)) = true := by rw [bne_iff_ne]; omega
    clear hat
    go_enter Try.func47, Try.ntmps47
    go_wp2_with fail
    refine (count_any A n c Z _ HS.out.1).mono ?_
    rintro e w1 ⟨rfl, rfl⟩
    rw [HL.out.2.2.2.2]
    go_wp2_with fail
    go_ret2
    rw [HAT.out]
    exact ⟨rfl, rfl⟩
end Go.Proofs.Ytgmchedfgdgenaa
/- The reference's At, walked. Conditions: the sizes are 1 or more, not too many. -/
namespace Go.Proofs.Ytgmchedfgdgenaa
open Go.RowKit
attribute [local go_sem] Oper.semAt_some

set_option maxRecDepth 100000 in
set_option maxHeartbeats 800000 in
theorem rat_any (A B : Option Addr) (n c m e' : Nat) (Z d : List Int) (w : World) (hZ : Sl (Value.int .i64) w A n Z) (hd : Sl (Value.int .i64) w B m d) (hz : ∀ z, z ∈ Z → 1 ≤ z) (hm : sufP Z 0 ≤ 2147483647) :
    Calls Try.prog 78 #[.slice A n c, .slice B m e'] w fun e w' => e = .returned (.tuple #[.int .i64 (atC Z d).1, .int .i64 (atC Z d).2]) ∧ ∃ q, w' = w.drewN q := by
  have hbig := hZ.big
  have hbig2 := hd.big
  have hcn : cntC Z = (sufP Z 0, 0) := by rw [cntC_eq hz, if_neg (by omega)]
  have HL := Lib.hid (And.intro hZ.len (And.intro hd.len (And.intro hz (And.intro hm hcn))))
  have HS := Lib.hid (And.intro hZ hd)
  clear hZ hd hz hm hcn
  by_cases hnm : n = m
  · subst hnm
    have hdl : d.length = Z.length := by rw [HL.out.1, HL.out.2.1]
    have HDL := Lib.hid hdl
    clear hdl
    go_enter Try.func78, Try.ntmps78
    go_wp2_with fail
    refine (rcount_any A n c Z _ HS.out.1).mono ?_
    rintro e w1 ⟨rfl, rfl⟩
    rw [HL.out.2.2.2.2]
    go_wp2_with fail
    go_loopw [8, 9] (fun a i wr => ∃ k m : Nat, k ≤ n ∧ i = .int .i64 k ∧ a = .int .i64 (atS (Z.take k) (d.take k)) ∧ wr = w.drewN m ∧ ∀ i, i < k → 0 ≤ nth d i ∧ nth d i < nth Z i) (fun _ i _ => n - (intOf i).toNat)
    case atStart => exact ⟨0, 0, Nat.zero_le _, rfl, by simp [atS], rfl, fun i hi => by omega⟩
    case round =>
      obtain ⟨k, mq, hk, rfl, rfl, hwr, hok⟩ := hrel
      have hSw : Sl (Value.int .i64) wr A n Z ∧ Sl (Value.int .i64) wr B n d := by rw [hwr]; exact ⟨HS.out.1.drewN mq, HS.out.2.drewN mq⟩
      have HWR := Lib.hid hwr
      have HSW := Lib.hid hSw
      clear hwr hSw
      by_cases hlt : k < n
      · obtain ⟨b, off, rfl, _, hc⟩ := HSW.out.1.at' (by omega)
        obtain ⟨b2, off2, rfl, _, hc2⟩ := HSW.out.2.at' (by omega)
        have g1 := hc k hlt
        have g2 := hc2 k hlt
        clear hc hc2
        have HK := Lib.hid hok
        clear hok
        by_cases hbad : 0 ≤ nth d k ∧ nth d k < nth Z k
        · obtain ⟨x, hx⟩ : ∃ x, x = nth d k := ⟨_, rfl⟩
          obtain ⟨z, hzz⟩ : ∃ z, z = nth Z k := ⟨_, rfl⟩
          rw [← hx, ← hzz] at hbad
          rw [← hx] at g2
          rw [← hzz] at g1
          have hb1 := hbad.1
          have hb2 := hbad.2
          have hok2 : ∀ i, i < k + 1 → 0 ≤ nth d i ∧ nth d i < nth Z i := fun i hi => by
            by_cases h : i < k
            · exact HK.out i h
            · obtain rfl : i = k := by omega
              rw [← hx, ← hzz]; exact hbad
          have hs := atS_take HL.out.2.2.1 HDL.out (k := k + 1) (by rw [HL.out.1]; omega) hok2
          have he : atS (Z.take (k + 1)) (d.take (k + 1)) = atS (Z.take k) (d.take k) * z + x := by
            rw [take_snoc (by rw [HL.out.1]; omega), take_snoc (by rw [HL.out.2.1]; omega), atS_snoc (by rw [List.length_take, List.length_take, HDL.out]), ← hx, ← hzz]
          have hs0 := atS_take HL.out.2.2.1 HDL.out (k := k) (by rw [HL.out.1]; omega) HK.out
          have hm := HL.out.2.2.2.1
          obtain ⟨a, ha⟩ : ∃ a, a = atS (Z.take k) (d.take k) := ⟨_, rfl⟩
          rw [← ha] at he hs0 ⊢
          obtain ⟨p, hp⟩ : ∃ p, p = a * z := ⟨_, rfl⟩
          rw [← hp] at he
          rw [he] at hs
          have hp0 : 0 ≤ p := by rw [hp]; exact Int.mul_nonneg hs0.1 (by omega)
          have hpw : IntKind.i64.wrap (a * z) = p := by
            rw [← hp]
            simp [IntKind.wrap, IntKind.bits, IntKind.signed]; omega
          have hs1 : p + x ≤ 2147483647 := by omega
          have d1 : decide (x < 0) = false := by simp; omega
          have d2 : decide (z ≤ x) = false := by simp; omega
          have HE := Lib.hid (And.intro he hok2)
          clear he hok2 hs hs0 ha hp hx hzz hm hbad
          have hsw : IntKind.i64.wrap (p + x) = p + x := by simp [IntKind.wrap, IntKind.bits, IntKind.signed]; omega
          have HW := Lib.hid (And.intro hpw hsw)
          clear hpw hsw
          go_wp2_with fail
          go_quiet (fail)
          obtain ⟨w2, hw2⟩ : ∃ w2, w2 = wr.drewN nq := ⟨_, rfl⟩
          have g1 : w2.cell? ⟨b, off + k, none⟩ = some (.int .i64 z) := by rw [hw2]; exact g1
          have g2 : w2.cell? ⟨b2, off2 + k, none⟩ = some (.int .i64 x) := by rw [hw2]; exact g2
          rw [← hw2]
          have HW2 := Lib.hid hw2
          clear hw2
          have hpw := HW.out.1
          have hsw := HW.out.2
          go_wp2_with fail
          go_quiet (fail)
          have hpw := HW.out.1
          have hsw := HW.out.2
          go_wp2_with fail
          exact ⟨⟨k + 1, _, by omega, by go_num, by rw [HE.out.1], by rw [HW2.out, HWR.out, World.drewN_drewN, World.drewN_drewN], HE.out.2⟩, by simp [intOf]; omega⟩
        · have hat := atC_bad HDL.out (by rw [HL.out.1]; exact hlt) hbad
          obtain ⟨x, hx⟩ : ∃ x, x = nth d k := ⟨_, rfl⟩
          obtain ⟨z, hzz⟩ : ∃ z, z = nth Z k := ⟨_, rfl⟩
          rw [← hx, ← hzz] at hbad
          rw [← hx] at g2
          rw [← hzz] at g1
          have HAT := Lib.hid hat
          clear hx hzz hat
          by_cases hneg : x < 0
          · have d1 : decide (x < 0) = true := by simpa using hneg
            go_wp2_with fail
            go_quiet (fail)
            go_wp2_with fail
            go_ret2
            rw [HAT.out]
            exact ⟨rfl, _, by rw [HWR.out, World.drewN_drewN]⟩
          · have d1 : decide (x < 0) = false := by simpa using hneg
            have hge : z ≤ x := by omega
            have d2 : decide (z ≤ x) = true := by simpa using hge
            go_wp2_with fail
            go_quiet (fail)
            go_wp2_with fail
            go_ret2
            rw [HAT.out]
            exact ⟨rfl, _, by rw [HWR.out, World.drewN_drewN]⟩
      · obtain rfl : k = n := by omega
        have hat := atC_ok HDL.out (fun i hi => hok i (by rw [← HL.out.1]; exact hi))
        rw [List.take_of_length_le (by rw [HL.out.1]; exact Nat.le_refl _), List.take_of_length_le (by rw [HL.out.2.1]; exact Nat.le_refl _)]
        have HAT := Lib.hid hat
        clear hat hok
        go_wp2_with fail
        go_ret2
        rw [HAT.out]
        exact ⟨rfl, _, HWR.out⟩
  · have hat := atC_len (Z := Z) (d := d) (by rw [HL.out.1, HL.out.2.1]; exact fun h => hnm h.symm)
    have HAT := Lib.hid hat
    have hne : ((m : Int) != (n : Int)) = true := by rw [bne_iff_ne]; omega
    clear hat
    go_enter Try.func78, Try.ntmps78
    go_wp2_with fail
    refine (rcount_any A n c Z _ HS.out.1).mono ?_
    rintro e w1 ⟨rfl, rfl⟩
    rw [HL.out.2.2.2.2]
    go_wp2_with fail
    go_ret2
    rw [HAT.out]
    exact ⟨rfl, 0, rfl⟩
end Go.Proofs.Ytgmchedfgdgenaa
