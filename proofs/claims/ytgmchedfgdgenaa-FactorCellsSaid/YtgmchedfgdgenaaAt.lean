/- radix.At at ints, walked. Conditions: the sizes are 1 or more, not too many. -/
import Derived.Test.YtgmchedfgdgenaaPlace
import Derived.Test.YtgmchedfgdgenaaTabMath
import Derived.Test.YtgmchedfgdgenaaCount
import Derived.WalkLawsBesides
namespace Go.Proofs.Ytgmchedfgdgenaa
open Go.RowKit
attribute [local go_sem] Oper.semAt_some

def digOk (Z d : List Int) (i : Nat) : Bool := decide (0 ≤ nth d i) && decide (nth d i < nth Z i)
/-- the place of some digits, and what is wrong with them -/
def atC (Z d : List Int) : Int × Int := if d.length ≠ Z.length then (0, 60) else if (List.range Z.length).all (digOk Z d) = true then (atS Z d, 0) else (0, 3)
theorem atS_snoc {z x : Int} : ∀ {Z d : List Int}, Z.length = d.length → atS (Z ++ [z]) (d ++ [x]) = atS Z d * z + x
  | [], [], _ => by simp [atS, sufP, nth]
  | y :: Z, e :: d, h => by
    have h1 : Z.length = d.length := by simpa using h
    rw [List.cons_append, List.cons_append, atS_cons, atS_cons, atS_snoc h1, sufP_snoc, Int.add_mul, Int.mul_right_comm, Int.add_assoc]
  | [], _ :: _, h => by simp at h
  | _ :: _, [], h => by simp at h
theorem sufP_take_le {Z : List Int} (hz : ∀ z, z ∈ Z → 1 ≤ z) (k : Nat) : sufP (Z.take k) 0 ≤ sufP Z 0 := by
  have h1 : sufP Z 0 = sufP (Z.take k) 0 * sufP (Z.drop k) 0 := by
    unfold sufP
    rw [List.drop_zero, List.drop_zero, List.drop_zero]
    have : ∀ (a b : List Int), (a ++ b).foldr (· * ·) 1 = a.foldr (· * ·) 1 * b.foldr (· * ·) (1 : Int) := by
      intro a b
      induction a with
      | nil => simp
      | cons x a ih => rw [List.cons_append, List.foldr_cons, List.foldr_cons, ih, Int.mul_assoc]
    rw [← this, List.take_append_drop]
  have h2 := sufP_pos (Z := Z.take k) (fun z h => hz z (List.mem_of_mem_take h)) 0
  have h3 := sufP_pos (Z := Z.drop k) (fun z h => hz z (List.mem_of_mem_drop h)) 0
  have h4 := Int.mul_le_mul_of_nonneg_left h3 (show 0 ≤ sufP (Z.take k) 0 by omega)
  omega
theorem atS_take {Z d : List Int} (hz : ∀ z, z ∈ Z → 1 ≤ z) (hl : d.length = Z.length) {k : Nat} (hk : k ≤ Z.length) (h : ∀ i, i < k → 0 ≤ nth d i ∧ nth d i < nth Z i) : 0 ≤ atS (Z.take k) (d.take k) ∧ atS (Z.take k) (d.take k) < sufP Z 0 := by
  have h1 := atS_range (Z := Z.take k) (d := d.take k) (by simp [hl]) (fun z h => hz z (List.mem_of_mem_take h)) (fun i hi => by
    have hi' : i < k := by simp at hi; omega
    rw [nth_take hi', nth_take hi']
    exact h i hi')
  have h2 := sufP_take_le hz k
  omega
theorem digOk_true {Z d : List Int} {i : Nat} (h : 0 ≤ nth d i ∧ nth d i < nth Z i) : digOk Z d i = true := by simp [digOk, h]
theorem atC_ok {Z d : List Int} (hl : d.length = Z.length) (h : ∀ i, i < Z.length → 0 ≤ nth d i ∧ nth d i < nth Z i) : atC Z d = (atS Z d, 0) := by
  unfold atC
  rw [if_neg (by simpa using hl), if_pos]
  rw [List.all_eq_true]
  intro i hi
  exact digOk_true (h i (List.mem_range.1 hi))
theorem atC_bad {Z d : List Int} (hl : d.length = Z.length) {i : Nat} (hi : i < Z.length) (h : ¬ (0 ≤ nth d i ∧ nth d i < nth Z i)) : atC Z d = (0, 3) := by
  unfold atC
  rw [if_neg (by simpa using hl), if_neg]
  rw [List.all_eq_true]
  intro hq
  have := hq i (List.mem_range.2 hi)
  simp [digOk] at this
  exact h this
theorem atC_len {Z d : List Int} (hl : d.length ≠ Z.length) : atC Z d = (0, 60) := by
  unfold atC; rw [if_pos hl]
set_option maxRecDepth 100000 in
set_option maxHeartbeats 800000 in
theorem at_any (A B : Option Addr) (n c m e' : Nat) (Z d : List Int) (w : World) (hZ : Sl (Value.int .i64) w A n Z) (hd : Sl (Value.int .i64) w B m d) (hz : ∀ z, z ∈ Z → 1 ≤ z) (hm : sufP Z 0 ≤ 2147483647) :
    Calls Try.prog 47 #[.slice A n c, .slice B m e'] w fun e w' => e = .returned (.tuple #[.int .i64 (atC Z d).1, .int .i64 (atC Z d).2]) ∧ w = w' := by
  have hbig := hZ.big
  have hbig2 := hd.big
  have hcn : cntC Z = (sufP Z 0, 0) := by rw [cntC_eq hz, if_neg (by omega)]
  have HL := Lib.hid (And.intro hZ.len (And.intro hd.len (And.intro hz (And.intro hm hcn))))
  have HS := Lib.hid (And.intro hZ hd)
  clear hZ hd hz hm hcn
  by_cases hnm : n = m
  · subst hnm
    have hdl : d.length = Z.length := by rw [HL.out.1, HL.out.2.1]
    have HDL := Lib.hid hdl
    clear hdl
    go_enter Try.func47, Try.ntmps47
    go_wp2_with fail
    refine (count_any A n c Z _ HS.out.1).mono ?_
    rintro e w1 ⟨rfl, rfl⟩
    rw [HL.out.2.2.2.2]
    go_wp2_with fail
    go_loop [8, 26] (fun a i => ∃ k : Nat, k ≤ n ∧ i = .int .i64 k ∧ a = .int .i64 (atS (Z.take k) (d.take k)) ∧ ∀ i, i < k → 0 ≤ nth d i ∧ nth d i < nth Z i) (fun _ i => n - (intOf i).toNat)
    case atStart => exact ⟨0, Nat.zero_le _, rfl, by simp [atS], fun i hi => by omega⟩
    case round =>
      obtain ⟨k, hk, rfl, rfl, hok⟩ := hrel
      by_cases hlt : k < n
      · obtain ⟨b, off, rfl, _, hc⟩ := HS.out.1.at' (by omega)
        obtain ⟨b2, off2, rfl, _, hc2⟩ := HS.out.2.at' (by omega)
        have g1 := hc k hlt
        have g2 := hc2 k hlt
        clear hc hc2
        have HK := Lib.hid hok
        clear hok
        by_cases hbad : 0 ≤ nth d k ∧ nth d k < nth Z k
        · obtain ⟨x, hx⟩ : ∃ x, x = nth d k := ⟨_, rfl⟩
          obtain ⟨z, hzz⟩ : ∃ z, z = nth Z k := ⟨_, rfl⟩
          rw [← hx, ← hzz] at hbad
          rw [← hx] at g2
          rw [← hzz] at g1
          have hb1 := hbad.1
          have hb2 := hbad.2
          have hok2 : ∀ i, i < k + 1 → 0 ≤ nth d i ∧ nth d i < nth Z i := fun i hi => by
            by_cases h : i < k
            · exact HK.out i h
            · obtain rfl : i = k := by omega
              rw [← hx, ← hzz]; exact hbad
          have hs := atS_take HL.out.2.2.1 HDL.out (k := k + 1) (by rw [HL.out.1]; omega) hok2
          have he : atS (Z.take (k + 1)) (d.take (k + 1)) = atS (Z.take k) (d.take k) * z + x := by
            rw [take_snoc (by rw [HL.out.1]; omega), take_snoc (by rw [HL.out.2.1]; omega), atS_snoc (by rw [List.length_take, List.length_take, HDL.out]), ← hx, ← hzz]
          have hs0 := atS_take HL.out.2.2.1 HDL.out (k := k) (by rw [HL.out.1]; omega) HK.out
          have hm := HL.out.2.2.2.1
          obtain ⟨a, ha⟩ : ∃ a, a = atS (Z.take k) (d.take k) := ⟨_, rfl⟩
          rw [← ha] at he hs0 ⊢
          obtain ⟨p, hp⟩ : ∃ p, p = a * z := ⟨_, rfl⟩
          rw [← hp] at he
          rw [he] at hs
          have hp0 : 0 ≤ p := by rw [hp]; exact Int.mul_nonneg hs0.1 (by omega)
          have hpw : IntKind.i64.wrap (a * z) = p := by
            rw [← hp]
            simp [IntKind.wrap, IntKind.bits, IntKind.signed]; omega
          have hs1 : p + x ≤ 2147483647 := by omega
          have d1 : decide (x < 0) = false := by simp; omega
          have d2 : decide (z ≤ x) = false := by simp; omega
          have HE := Lib.hid (And.intro he hok2)
          clear he hok2 hs hs0 ha hp hx hzz hm hbad
          go_wp2_with fail
          exact ⟨⟨k + 1, by omega, by go_num, by rw [HE.out.1], HE.out.2⟩, by simp [intOf]; omega⟩
        · have hat := atC_bad HDL.out (by rw [HL.out.1]; exact hlt) hbad
          obtain ⟨x, hx⟩ : ∃ x, x = nth d k := ⟨_, rfl⟩
          obtain ⟨z, hzz⟩ : ∃ z, z = nth Z k := ⟨_, rfl⟩
          rw [← hx, ← hzz] at hbad
          rw [← hx] at g2
          rw [← hzz] at g1
          have HAT := Lib.hid hat
          clear hx hzz hat
          by_cases hneg : x < 0
          · have d1 : decide (x < 0) = true := by simpa using hneg
            go_wp2_with fail
            go_ret2
            rw [HAT.out]
            exact ⟨rfl, rfl⟩
          · have d1 : decide (x < 0) = false := by simpa using hneg
            have hge : z ≤ x := by omega
            have d2 : decide (z ≤ x) = true := by simpa using hge
            go_wp2_with fail
            go_ret2
            rw [HAT.out]
            exact ⟨rfl, rfl⟩
      · obtain rfl : k = n := by omega
        have hat := atC_ok HDL.out (fun i hi => hok i (by rw [← HL.out.1]; exact hi))
        rw [List.take_of_length_le (by rw [HL.out.1]; exact Nat.le_refl _), List.take_of_length_le (by rw [HL.out.2.1]; exact Nat.le_refl _)]
        have HAT := Lib.hid hat
        clear hat hok
        go_wp2_with fail
        go_ret2
        rw [HAT.out]
        exact ⟨rfl, rfl⟩
  · have hat := atC_len (Z := Z) (d := d) (by rw [HL.out.1, HL.out.2.1]; exact fun h => hnm h.symm)
    have HAT := Lib.hid hat
    have hne : ((m : Int) != (n : Int)) = true := by rw [bne_iff_ne]; omega
    clear hat
    go_enter Try.func47, Try.ntmps47
    go_wp2_with fail
    refine (count_any A n c Z _ HS.out.1).mono ?_
    rintro e w1 ⟨rfl, rfl⟩
    rw [HL.out.2.2.2.2]
    go_wp2_with fail
    go_ret2
    rw [HAT.out]
    exact ⟨rfl, rfl⟩
end Go.Proofs.Ytgmchedfgdgenaa
