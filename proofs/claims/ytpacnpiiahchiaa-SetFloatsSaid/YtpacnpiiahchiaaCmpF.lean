/- cmp.Compare, cmp.Less, isNaN at float64: what they return. No condition. -/
import Derived.Test.YtpacnpiiahchiaaSetMath
namespace Go.Proofs.Ytpacnpiiahchiaa
open Go.RowKit
@[go_sem] theorem run_store_float {P : Program} {w : World} {a : Addr} {m : Mode} (k : FloatKind) (b : Nat) : (store a (.float k b) m).run P w = stored P w a (.float k b) m := run_store P w a _ m rfl
namespace Fl
open Ieee

/-- the kind of a float: what is no number, minus infinity, a number, infinity -/
def clsD : Datum → Int
  | .nan _ _ => -2
  | .infinity true => -1
  | .number _ _ _ => 0
  | .infinity false => 1
/-- a number, in units of the least place -/
def valD : Datum → Int
  | .number s m i => signed s m (i - double.leastPlace).toNat
  | _ => 0
def cls (a : Nat) : Int := clsD (double.read a)
def val (a : Nat) : Int := valD (double.read a)
theorem place (a : Nat) {s : Bool} {m : Nat} {i : Int} (h : double.read a = .number s m i) : double.leastPlace ≤ i := by
  unfold Format.read at h
  simp only at h
  split at h
  · injection h with _ _ h3; omega
  · split at h
    · injection h with _ _ h3; omega
    · split at h <;> cases h
theorem signed_add (s : Bool) (m a k : Nat) : signed s m (a + k) = signed s m a * (2 ^ k : Nat) := by
  unfold signed
  simp only [Nat.shiftLeft_eq, Nat.pow_add]
  split
  · push_cast; rw [Int.neg_mul, Int.mul_assoc]
  · push_cast; rw [Int.mul_assoc]
theorem cmp_int (x y : Int) : compare x y = if x < y then .lt else if x = y then .eq else .gt := rfl
theorem cmp_scale (x y : Int) (k : Nat) : compare (x * (2 ^ k : Nat)) (y * (2 ^ k : Nat)) = compare x y := by
  have hp : (0 : Int) < ((2 ^ k : Nat) : Int) := by exact_mod_cast Nat.two_pow_pos k
  have h1 : (x * ((2 ^ k : Nat) : Int) < y * ((2 ^ k : Nat) : Int)) ↔ x < y := Int.mul_lt_mul_right hp
  have h2 : (x * ((2 ^ k : Nat) : Int) = y * ((2 ^ k : Nat) : Int)) ↔ x = y := Int.mul_eq_mul_right_iff (by omega)
  rw [cmp_int, cmp_int]
  simp only [h1, h2]
end Fl
open Fl

def cmpF (a b : Nat) : Int := if cls a < cls b ∨ (cls a = cls b ∧ val a < val b) then -1 else if cls a = cls b ∧ val a = val b then 0 else 1
theorem cmpF_neg (a b : Nat) : (cmpF a b < 0) = (cls a < cls b ∨ (cls a = cls b ∧ val a < val b)) := by
  unfold cmpF; split <;> (try split) <;> simp_all
theorem cmpF_zero (a b : Nat) : (cmpF a b = 0) = (cls a = cls b ∧ val a = val b) := by
  unfold cmpF; split
  · apply propext; constructor
    · intro h; omega
    · intro h; omega
  · split <;> simp_all
theorem cmpF_pos (a b : Nat) : (0 < cmpF a b) = (cls b < cls a ∨ (cls b = cls a ∧ val b < val a)) := by
  unfold cmpF; split
  · apply propext; constructor
    · intro h; omega
    · intro h; omega
  · split
    · apply propext; constructor
      · intro h; omega
      · intro h; omega
    · apply propext; constructor
      · intro h; omega
      · intro h; omega
theorem cmpokF : CmpOk cmpF := by
  refine ⟨⟨fun x => ?_, fun {x y z} => ?_, fun {x z} => ?_⟩, fun a b => ?_⟩
  · rw [cmpF_neg]; omega
  · simp only [cmpF_neg]; omega
  · simp only [cmpF_neg]; omega
  · rw [cmpF_neg, cmpF_pos]
namespace Fl
open Ieee
theorem cls_nan (a : Nat) : cls a = -2 ↔ (double.read a).isNaN = true := by
  unfold cls clsD Datum.isNaN
  cases h : double.read a with
  | number => simp
  | infinity s => cases s <;> simp
  | nan => simp
theorem order_eq (a b : Nat) : FloatKind.f64.format.order a b = if cls a = -2 ∨ cls b = -2 then none else some (if cmpF a b < 0 then .lt else if cmpF a b = 0 then .eq else .gt) := by
  simp only [cmpF_neg, cmpF_zero]
  show (double.read a).order (double.read b) = _
  cases ha : double.read a with
  | nan s f => simp [Datum.order, cls, clsD, ha]
  | infinity s =>
    cases hb : double.read b with
    | nan t f => simp [Datum.order, cls, clsD, hb]
    | infinity t => cases s <;> cases t <;> simp [Datum.order, cls, clsD, val, valD, ha, hb] <;> decide
    | number t n j => cases s <;> simp [Datum.order, cls, clsD, val, valD, ha, hb]
  | number s m i =>
    cases hb : double.read b with
    | nan t f => simp [Datum.order, cls, clsD, hb]
    | infinity t => cases t <;> simp [Datum.order, cls, clsD, val, valD, ha, hb]
    | number t n j =>
      have hi := place a ha
      have hj := place b hb
      have e1 : (i - double.leastPlace).toNat = (i - min i j).toNat + (min i j - double.leastPlace).toNat := by omega
      have e2 : (j - double.leastPlace).toNat = (j - min i j).toNat + (min i j - double.leastPlace).toNat := by omega
      simp only [Datum.order, cls, clsD, val, valD, ha, hb]
      rw [e1, e2, signed_add, signed_add, ← cmp_scale _ _ (min i j - double.leastPlace).toNat, cmp_int]
      simp
theorem ne_self (a : Nat) : (FloatKind.f64.format.order a a != some .eq) = decide (cls a = -2) := by
  rw [order_eq]
  by_cases h : cls a = -2
  · simp [h]
  · have h0 : cmpF a a = 0 := by rw [cmpF_zero]; exact ⟨rfl, rfl⟩
    simp [h, h0]
theorem lss (a b : Nat) : (FloatKind.f64.format.order a b == some .lt) = decide (cls a ≠ -2 ∧ cls b ≠ -2 ∧ cmpF a b < 0) := by
  rw [order_eq]
  by_cases h : cls a = -2
  · simp [h]
  · by_cases h' : cls b = -2
    · simp [h']
    · by_cases h1 : cmpF a b < 0
      · simp [h, h', h1]
      · by_cases h2 : cmpF a b = 0 <;> simp [h, h', h1, h2]
theorem gtr (a b : Nat) : (FloatKind.f64.format.order a b == some .gt) = decide (cls a ≠ -2 ∧ cls b ≠ -2 ∧ 0 < cmpF a b) := by
  rw [order_eq]
  by_cases h : cls a = -2
  · simp [h]
  · by_cases h' : cls b = -2
    · simp [h']
    · by_cases h1 : cmpF a b < 0
      · simp [h, h', h1]; omega
      · by_cases h2 : cmpF a b = 0
        · simp [h, h', h2]
        · simp [h, h', h1, h2]; omega
theorem eql (a b : Nat) : (FloatKind.f64.format.order a b == some .eq) = decide (cls a ≠ -2 ∧ cls b ≠ -2 ∧ cmpF a b = 0) := by
  rw [order_eq]
  by_cases h : cls a = -2
  · simp [h]
  · by_cases h' : cls b = -2
    · simp [h']
    · by_cases h1 : cmpF a b < 0
      · simp [h, h', h1]; omega
      · by_cases h2 : cmpF a b = 0 <;> simp [h, h', h1, h2]
theorem cls_ge (a : Nat) : -2 ≤ cls a := by
  unfold cls clsD
  cases h : double.read a with
  | number => simp
  | infinity s => cases s <;> simp
  | nan => simp
theorem val_nan (a : Nat) (h : cls a = -2) : val a = 0 := by
  unfold cls at h; unfold val
  cases h' : double.read a with
  | number => rw [h'] at h; simp [clsD] at h
  | infinity s => simp [valD]
  | nan => simp [valD]
end Fl
/-- is it no number? -/
def nanB (a : Nat) : Bool := decide (cls a = -2)
theorem nan_f (a : Nat) (w : World) : Calls Try.prog 94 #[.float .f64 a] w fun e w' => e = .returned (.bool (nanB a)) ∧ w = w' := by
  go_enter Try.func94, Try.ntmps94
  go_wp2
  go_ret
  exact ⟨ret_bool (Fl.ne_self a), rfl⟩
theorem snan_f (a : Nat) (w : World) : Calls Try.prog 112 #[.float .f64 a] w fun e w' => e = .returned (.bool (nanB a)) ∧ w = w' := by
  go_enter Try.func112, Try.ntmps112
  go_wp2
  go_ret
  exact ⟨ret_bool (Fl.ne_self a), rfl⟩
/-- the two ways to be the same thing -/
theorem eqcase_f (y x : Nat) : ∃ e p q : Bool, (FloatKind.f64.format.order y x == some .eq) = e ∧ nanB y = p ∧ nanB x = q ∧ (cmpF y x == 0) = (e || (p && q)) := by
  refine ⟨_, _, _, rfl, rfl, rfl, ?_⟩
  rw [Fl.eql, Bool.eq_iff_iff]
  have h1 := Fl.val_nan y
  have h2 := Fl.val_nan x
  have h3 := cmpF_zero y x
  unfold nanB
  simp only [beq_iff_eq, Bool.or_eq_true, Bool.and_eq_true, decide_eq_true_eq, h3]
  omega
theorem cmp_f (a b : Nat) (w : World) : Calls Try.prog 74 #[.float .f64 a, .float .f64 b] w fun e w' => e = .returned (.int .i64 (cmpF a b)) ∧ w = w' := by
  have ga := Fl.cls_ge a
  have gb := Fl.cls_ge b
  have na := Fl.val_nan a
  have nb := Fl.val_nan b
  have hl := Fl.lss a b
  have hg := Fl.gtr a b
  have pa : nanB a = decide (cls a = -2) := rfl
  have pb : nanB b = decide (cls b = -2) := rfl
  by_cases ha : cls a = -2
  · by_cases hb : cls b = -2
    · rw [decide_eq_true ha] at pa
      rw [decide_eq_true hb] at pb
      have H := Lib.hid (And.intro ha (And.intro hb (And.intro (na ha) (nb hb)))); clear ha hb ga gb na nb hl hg
      go_enter Try.func74, Try.ntmps74
      go_wp2_with (go_at_call 94; refine (nan_f _ _).mono ?_; rintro e w' ⟨rfl, rfl⟩)
      go_ret
      exact ⟨ret_int (by symm; rw [cmpF_zero]; exact ⟨by rw [H.out.1, H.out.2.1], by rw [H.out.2.2.1, H.out.2.2.2]⟩), rfl⟩
    · have hk : cmpF a b = -1 := by unfold cmpF; rw [if_pos (.inl (by omega))]
      rw [decide_eq_true ha] at pa
      rw [decide_eq_false hb] at pb
      have H := Lib.hid (And.intro ha (And.intro hb hk)); clear ha hb ga gb na nb hl hg hk
      go_enter Try.func74, Try.ntmps74
      go_wp2_with (go_at_call 94; refine (nan_f _ _).mono ?_; rintro e w' ⟨rfl, rfl⟩)
      go_ret
      exact ⟨ret_int H.out.2.2.symm, rfl⟩
  · by_cases hb : cls b = -2
    · have hk : cmpF a b = 1 := by unfold cmpF; rw [if_neg (by omega), if_neg (by omega)]
      rw [decide_eq_false ha] at pa
      rw [decide_eq_true hb] at pb
      have H := Lib.hid (And.intro ha (And.intro hb hk)); clear ha hb ga gb na nb hl hg hk
      go_enter Try.func74, Try.ntmps74
      go_wp2_with (go_at_call 94; refine (nan_f _ _).mono ?_; rintro e w' ⟨rfl, rfl⟩)
      go_ret
      exact ⟨ret_int H.out.2.2.symm, rfl⟩
    · by_cases h1 : cmpF a b < 0
      · have d1 : (FloatKind.f64.format.order a b == some .lt) = true := by rw [hl]; simp [ha, hb, h1]
        have hk : cmpF a b = -1 := by have := cmpF_neg a b; unfold cmpF; rw [if_pos (by rw [← this]; exact h1)]
        rw [decide_eq_false ha] at pa
        rw [decide_eq_false hb] at pb
        have H := Lib.hid (And.intro ha (And.intro hb hk)); clear ha hb ga gb na nb hl hg hk h1
        go_enter Try.func74, Try.ntmps74
        go_wp2_with (go_at_call 94; refine (nan_f _ _).mono ?_; rintro e w' ⟨rfl, rfl⟩)
        go_ret
        exact ⟨ret_int H.out.2.2.symm, rfl⟩
      · have d1 : (FloatKind.f64.format.order a b == some .lt) = false := by rw [hl]; simp [h1]
        by_cases h2 : 0 < cmpF a b
        · have d2 : (FloatKind.f64.format.order a b == some .gt) = true := by rw [hg]; simp [ha, hb, h2]
          have hk : cmpF a b = 1 := by
            have := cmpF_pos a b
            rw [this] at h2
            unfold cmpF; rw [if_neg (by omega), if_neg (by omega)]
          rw [decide_eq_false ha] at pa
          rw [decide_eq_false hb] at pb
          have H := Lib.hid (And.intro ha (And.intro hb hk)); clear ha hb ga gb na nb hl hg hk h1 h2
          go_enter Try.func74, Try.ntmps74
          go_wp2_with (go_at_call 94; refine (nan_f _ _).mono ?_; rintro e w' ⟨rfl, rfl⟩)
          go_ret
          exact ⟨ret_int H.out.2.2.symm, rfl⟩
        · have d2 : (FloatKind.f64.format.order a b == some .gt) = false := by rw [hg]; simp [h2]
          have hk : cmpF a b = 0 := by omega
          rw [decide_eq_false ha] at pa
          rw [decide_eq_false hb] at pb
          have H := Lib.hid (And.intro ha (And.intro hb hk)); clear ha hb ga gb na nb hl hg hk h1 h2
          go_enter Try.func74, Try.ntmps74
          go_wp2_with (go_at_call 94; refine (nan_f _ _).mono ?_; rintro e w' ⟨rfl, rfl⟩)
          go_ret
          exact ⟨ret_int H.out.2.2.symm, rfl⟩
/-- less, as the comparison has it -/
def ltbF (a b : Nat) : Bool := decide (cmpF a b < 0)
theorem ltb_f (a b : Nat) (w : World) : Calls Try.prog 111 #[.float .f64 a, .float .f64 b] w fun e w' => e = .returned (.bool (ltbF a b)) ∧ w = w' := by
  have ga := Fl.cls_ge a
  have gb := Fl.cls_ge b
  have na := Fl.val_nan a
  have nb := Fl.val_nan b
  have hl := Fl.lss a b
  have hn := cmpF_neg a b
  have pa : nanB a = decide (cls a = -2) := rfl
  have pb : nanB b = decide (cls b = -2) := rfl
  by_cases ha : cls a = -2
  · by_cases hb : cls b = -2
    · have d1 : (FloatKind.f64.format.order a b == some .lt) = false := by rw [hl]; simp [ha]
      have hk : ltbF a b = false := by unfold ltbF; rw [decide_eq_false]; rw [hn, na ha, nb hb]; omega
      rw [decide_eq_true ha] at pa
      rw [decide_eq_true hb] at pb
      have H := Lib.hid (And.intro ha (And.intro hb hk)); clear ha hb ga gb na nb hl hn hk
      go_enter Try.func111, Try.ntmps111
      go_wp2_with (go_at_call 94; refine (nan_f _ _).mono ?_; rintro e w' ⟨rfl, rfl⟩)
      go_ret
      exact ⟨ret_bool H.out.2.2.symm, rfl⟩
    · have d1 : (FloatKind.f64.format.order a b == some .lt) = false := by rw [hl]; simp [ha]
      have hk : ltbF a b = true := by unfold ltbF; rw [decide_eq_true]; rw [hn]; omega
      rw [decide_eq_true ha] at pa
      rw [decide_eq_false hb] at pb
      have H := Lib.hid (And.intro ha (And.intro hb hk)); clear ha hb ga gb na nb hl hn hk
      go_enter Try.func111, Try.ntmps111
      go_wp2_with (go_at_call 94; refine (nan_f _ _).mono ?_; rintro e w' ⟨rfl, rfl⟩)
      go_ret
      exact ⟨ret_bool H.out.2.2.symm, rfl⟩
  · by_cases hb : cls b = -2
    · have d1 : (FloatKind.f64.format.order a b == some .lt) = false := by rw [hl]; simp [hb]
      have hk : ltbF a b = false := by unfold ltbF; rw [decide_eq_false]; rw [hn]; omega
      rw [decide_eq_false ha] at pa
      rw [decide_eq_true hb] at pb
      have H := Lib.hid (And.intro ha (And.intro hb hk)); clear ha hb ga gb na nb hl hn hk
      go_enter Try.func111, Try.ntmps111
      go_wp2_with (go_at_call 94; refine (nan_f _ _).mono ?_; rintro e w' ⟨rfl, rfl⟩)
      go_ret
      exact ⟨ret_bool H.out.2.2.symm, rfl⟩
    · have d1 : (FloatKind.f64.format.order a b == some .lt) = ltbF a b := by rw [hl]; unfold ltbF; simp [ha, hb]
      rw [decide_eq_false ha] at pa
      rw [decide_eq_false hb] at pb
      have H := Lib.hid (And.intro ha (And.intro hb d1)); clear ha hb ga gb na nb hl hn d1
      go_enter Try.func111, Try.ntmps111
      go_wp2_with (go_at_call 94; refine (nan_f _ _).mono ?_; rintro e w' ⟨rfl, rfl⟩)
      all_goals go_ret
      all_goals exact ⟨ret_bool (by have := H.out.2.2; simp_all), rfl⟩
end Go.Proofs.Ytpacnpiiahchiaa
