/- credencelaw11.SetFloats, walked: it returns true. Condition: the slices read as lists of floats. -/
import Derived.Test.YtpacnpiiahchiaaRefGF
import Derived.Test.YtpacnpiiahchiaaSet5F
import Derived.Test.YtpacnpiiahchiaaInsF
import Derived.Laws.Externs
namespace Go.Proofs.Ytpacnpiiahchiaa.SetFloats
open Go.RowKit

theorem isIn_snoc {α : Type} {c : α → α → Int} (x y : α) (l : List α) : isIn c x (l ++ [y]) = (isIn c x l || (c y x == 0)) := by simp [isIn]
theorem isIn_rem {α : Type} {c : α → α → Int} (x : α) (l : List α) : isIn c x (rem c x l) = false := by
  rcases hi : isIn c x (rem c x l)
  · rfl
  · obtain ⟨y, hy, h0⟩ := isIn_iff.1 hi
    exact absurd h0 (mem_rem.1 hy).2
/-- a thing is in a set made of a list just where an equal one is in the list -/
theorem isIn_setOf {α : Type} {c : α → α → Int} (h : CmpOk c) (x : α) : ∀ l : List α, isIn c x (setOf c l) = isIn c x l := by
  intro l
  rw [Bool.eq_iff_iff, isIn_iff, isIn_iff]
  constructor
  · rintro ⟨y, hy, h0⟩
    obtain ⟨i, hi, e, _⟩ := (mem_setOf h y l).1 hy
    exact ⟨y, List.mem_of_getElem? e, h0⟩
  · rintro ⟨y, hy, h0⟩
    obtain ⟨i0, hi0⟩ := List.getElem?_of_mem hy
    have hi0l := (List.getElem?_eq_some_iff.1 hi0).1
    -- the first one of its kind
    have : ∀ n i : Nat, i ≤ n → ∀ z, l[i]? = some z → c z x = 0 → ∃ z', z' ∈ setOf c l ∧ c z' x = 0 := by
      intro n
      induction n with
      | zero =>
        intro i hi z hz hz0
        obtain rfl : i = 0 := by omega
        exact ⟨z, (mem_setOf h z l).2 ⟨0, (List.getElem?_eq_some_iff.1 hz).1, hz, fun j _ hj => by omega⟩, hz0⟩
      | succ n ih =>
        intro i hi z hz hz0
        by_cases hex : ∃ j y', j < i ∧ l[j]? = some y' ∧ c y' z = 0
        · obtain ⟨j, y', hj, hy', hc⟩ := hex
          exact ih j (by omega) y' hy' (h.zero_trans hc hz0)
        · exact ⟨z, (mem_setOf h z l).2 ⟨i, (List.getElem?_eq_some_iff.1 hz).1, hz, fun j y' hj hy' hc => hex ⟨j, y', hj, hy', hc⟩⟩, hz0⟩
    obtain ⟨z', h1, h2⟩ := this i0 i0 (Nat.le_refl _) y hi0 h0
    exact ⟨z', h1, h2⟩
/-- a set's things, one list behind another -/
theorem mem_setOf_append {α : Type} {c : α → α → Int} (h : CmpOk c) (z : α) : ∀ (ys xs : List α), z ∈ setOf c (xs ++ ys) ↔ z ∈ setOf c xs ∨ (z ∈ setOf c ys ∧ isIn c z (setOf c xs) = false) := by
  intro ys xs
  have hin : isIn c z (setOf c xs) = isIn c z xs := isIn_setOf h z xs
  rw [hin, mem_setOf h, mem_setOf h, mem_setOf h]
  have hno : isIn c z xs = false ↔ ∀ y, y ∈ xs → c y z ≠ 0 := by
    rw [← Bool.not_eq_true, isIn_iff]
    constructor
    · intro h1 y hy h0; exact h1 ⟨y, hy, h0⟩
    · rintro h1 ⟨y, hy, h0⟩; exact h1 y hy h0
  rw [hno]
  constructor
  · rintro ⟨i, hi, e, hf⟩
    by_cases hix : i < xs.length
    · left
      rw [List.getElem?_append_left hix] at e
      exact ⟨i, hix, e, fun j y hj hy => hf j y hj (by rw [List.getElem?_append_left (by omega)]; exact hy)⟩
    · right
      rw [List.getElem?_append_right (by omega)] at e
      refine ⟨⟨i - xs.length, by simp at hi; omega, e, fun j y hj hy => hf (j + xs.length) y (by omega) (by rw [List.getElem?_append_right (by omega), Nat.add_sub_cancel]; exact hy)⟩, fun y hy => ?_⟩
      obtain ⟨j, hj⟩ := List.getElem?_of_mem hy
      have hjl := (List.getElem?_eq_some_iff.1 hj).1
      exact hf j y (by omega) (by rw [List.getElem?_append_left hjl]; exact hj)
  · rintro (⟨i, hi, e, hf⟩ | ⟨⟨i, hi, e, hf⟩, hn⟩)
    · exact ⟨i, by simp; omega, by rw [List.getElem?_append_left hi]; exact e, fun j y hj hy => hf j y hj (by rw [List.getElem?_append_left (by omega)] at hy; exact hy)⟩
    · refine ⟨i + xs.length, by simp; omega, by rw [List.getElem?_append_right (by omega), Nat.add_sub_cancel]; exact e, fun j y hj hy => ?_⟩
      by_cases hjx : j < xs.length
      · rw [List.getElem?_append_left hjx] at hy
        exact hn y (List.mem_of_getElem? hy)
      · rw [List.getElem?_append_right (by omega)] at hy
        exact hf (j - xs.length) y (by omega) hy
theorem join_eq {α : Type} {c : α → α → Int} (h : CmpOk c) {xs ys out : List α} (hc : Chosen c true true true (setOf c xs) (setOf c ys) out) : out = setOf c (xs ++ ys) := by
  refine Asc.ext h hc.asc (asc_setOf h _) fun z => ?_
  rw [hc.mem, mem_setOf_append h]
  have hw : want c true true (setOf c ys) z = true := by unfold want; split <;> rfl
  simp [hw]
theorem filter_eq {α : Type} {c : α → α → Int} (h : CmpOk c) {l b : Bool} {s o out : List α} (hs : Asc c s) (hc : Chosen c l b false s o out) : out = s.filter (want c l b o) := by
  refine Asc.ext h hc.asc (List.Pairwise.sublist List.filter_sublist hs) fun z => ?_
  rw [hc.mem, List.mem_filter]
  simp

theorem bits_run (a : Nat) (w : World) : (callFunc 95 #[.float .f64 a]).run Try.prog w = .ok (.value (.int .u64 a)) w := by
  rw [run_callFunc_extern Try.func95 (by kernel_rfl) (by kernel_rfl) (by kernel_rfl) (e := Extern.MathFloatBits.float64bits) (by kernel_rfl)]
  rfl
theorem alike_same (a : Nat) (w : World) : Calls Try.prog 77 #[.float .f64 a, .float .f64 a] w fun e w' => e = .returned (.bool true) ∧ w' = w := by
  have hb := bits_run a
  go_enter Try.func77, Try.ntmps77
  go_wp2_with (simp only [hb])
  go_ret
  exact ⟨rfl, rfl⟩
set_option maxHeartbeats 1000000 in
theorem floats_same (A A' : Option Addr) (n c c' : Nat) (xs : List Nat) (w : World) (hx : Sl (Value.float .f64) w A n xs) (hy : Sl (Value.float .f64) w A' n xs) :
    Calls Try.prog 42 #[.slice A n c, .slice A' n c'] w fun e w' => e = .returned (.bool true) ∧ ∃ k, w' = w.drewN k := by
  have hbig := hx.big
  obtain ⟨wa, hwa⟩ : ∃ wa : World, wa = w := ⟨_, rfl⟩
  subst hwa
  go_enter Try.func42, Try.ntmps42
  go_wp2_with fail
  go_loopw [5] (fun i wr => ∃ k m : Nat, i = .int .i64 (k : Nat) ∧ k ≤ n ∧ wr = wa.drewN m) (fun i _ => n - (intOf i).toNat)
  case atStart => exact ⟨0, 0, rfl, Nat.zero_le _, rfl⟩
  case round =>
    obtain ⟨k, m, rfl, hk, hwr⟩ := hrel
    have hx1 : Sl (Value.float .f64) wr A n xs := by rw [hwr]; exact hx.drewN m
    have hy1 : Sl (Value.float .f64) wr A' n xs := by rw [hwr]; exact hy.drewN m
    by_cases hlt : k < n
    · obtain ⟨b1, o1, rfl, _, hc1⟩ := hx1.at' (by omega)
      obtain ⟨b2, o2, rfl, _, hc2⟩ := hy1.at' (by omega)
      have g1 := hc1 k hlt
      have g2 := hc2 k hlt
      have q1 : (0 : Int) ≤ (k : Nat) := by omega
      have q2 : ((k : Nat) : Int) < n := by omega
      have HW := Lib.hid hwr; clear hwr hc1 hc2 hx1 hy1
      go_wp2_with fail
      go_quiet ((go_at_call 77; exact Calls.quiet_of_same (alike_same _ _)))
      go_wp2_with fail
      exact ⟨⟨k + 1, m + nq, by go_num, by omega, by rw [HW.out, World.drewN_drewN]⟩, by simp [intOf]; omega⟩
    · go_wp2_with fail
      go_ret
      exact ⟨rfl, m, rfl⟩
theorem floats_same2 (A A' : Option Addr) (n n' c c' : Nat) (xs : List Nat) (w : World) (hx : Sl (Value.float .f64) w A n xs) (hy : Sl (Value.float .f64) w A' n' xs) :
    Calls Try.prog 42 #[.slice A n c, .slice A' n' c'] w fun e w' => e = .returned (.bool true) ∧ ∃ k, w' = w.drewN k := by
  obtain rfl : n = n' := by rw [← hx.len, ← hy.len]
  exact floats_same A A' n c c' xs w hx hy
theorem has_b (A : Option Addr) (n c : Nat) (xs : List Nat) (x : Nat) (b : Bool) (w : World) (hb : isIn cmpF x xs = b) (hx : Sl (Value.float .f64) w A n xs) (ha : Asc cmpF xs) :
    Calls Try.prog 44 #[.agg #[.slice A n c], .float .f64 x] w fun e w' => e = .returned (.bool b) ∧ Below w.heap.size w w' :=
  (SoF.has_any A n c xs x w hx ha).mono fun _ _ h => ⟨by rw [h.1, hb], h.2⟩
theorem zero_iff (x y : Nat) : (cmpF y x == 0) = (!ltbF y x && !ltbF x y) := by
  rw [Bool.eq_iff_iff]
  unfold ltbF
  have h1 := cmpokF.flip y x
  simp only [beq_iff_eq, Bool.and_eq_true, Bool.not_eq_true', decide_eq_false_iff_not]
  omega
set_option maxHeartbeats 1000000 in
theorem rhas_any (A : Option Addr) (n c : Nat) (xs : List Nat) (x : Nat) (w : World) (hx : Sl (Value.float .f64) w A n xs) :
    Calls Try.prog 45 #[.slice A n c, .float .f64 x] w fun e w' => e = .returned (.bool (isIn cmpF x xs)) ∧ w = w' := by
  have hbig := hx.big
  have HI := Lib.hid hx.len
  obtain ⟨wa, hwa⟩ : ∃ wa : World, wa = w := ⟨_, rfl⟩
  subst hwa
  go_enter Try.func45, Try.ntmps45
  go_wp2_with fail
  go_loopw [5] (fun i wr => ∃ k : Nat, i = .int .i64 (k : Nat) ∧ k ≤ n ∧ isIn cmpF x (xs.take k) = false ∧ wr = wa) (fun i _ => n - (intOf i).toNat)
  case atStart => exact ⟨0, rfl, Nat.zero_le _, by simp [isIn], rfl⟩
  case round =>
    obtain ⟨k, rfl, hk, hno, rfl⟩ := hrel
    by_cases hlt : k < n
    · obtain ⟨bb, off, rfl, hbb, hc⟩ := hx.at' (by omega)
      have g1 := hc k hlt
      have hsn : isIn cmpF x (xs.take (k + 1)) = (!ltbF (nth xs k) x && !ltbF x (nth xs k)) := by
        rw [take_snoc (by rw [HI.out]; exact hlt), isIn_snoc, hno, zero_iff]; rfl
      have hup : isIn cmpF x (xs.take (k + 1)) = true → isIn cmpF x xs = true := by
        intro h1
        obtain ⟨y, hy, h0⟩ := isIn_iff.1 h1
        exact isIn_iff.2 ⟨y, List.mem_of_mem_take hy, h0⟩
      have HS := Lib.hid (And.intro hsn hup); clear hsn hup hno hc
      rcases h1 : ltbF (nth xs k) x
      · rcases h2 : ltbF x (nth xs k)
        · have HH := Lib.hid (And.intro h1 h2)
          go_wp2_with (go_at_call 71; refine (SoF.before_any _ _ _).mono ?_; rintro e w' ⟨rfl, rfl⟩)
          go_ret
          exact ⟨ret_bool (by rw [HS.out.2 (by rw [HS.out.1, HH.out.1, HH.out.2]; rfl)]), rfl⟩
        · have HH := Lib.hid (And.intro h1 h2)
          go_wp2_with (go_at_call 71; refine (SoF.before_any _ _ _).mono ?_; rintro e w' ⟨rfl, rfl⟩)
          exact ⟨⟨k + 1, by go_num, by omega, by rw [HS.out.1, HH.out.1, HH.out.2]; rfl, trivial⟩, by simp [intOf]; omega⟩
      · have HH := Lib.hid h1
        go_wp2_with (go_at_call 71; refine (SoF.before_any _ _ _).mono ?_; rintro e w' ⟨rfl, rfl⟩)
        exact ⟨⟨k + 1, by go_num, by omega, by rw [HS.out.1, HH.out]; rfl, trivial⟩, by simp [intOf]; omega⟩
    · have hq : isIn cmpF x xs = false := by rw [List.take_of_length_le (by rw [HI.out]; omega)] at hno; exact hno
      have HQ := Lib.hid hq; clear hq hno
      go_wp2_with fail
      go_ret
      exact ⟨ret_bool HQ.out.symm, rfl⟩

theorem rhas_b (A : Option Addr) (n c : Nat) (xs : List Nat) (x : Nat) (b : Bool) (w : World) (hb : isIn cmpF x xs = b) (hx : Sl (Value.float .f64) w A n xs) :
    Calls Try.prog 45 #[.slice A n c, .float .f64 x] w fun e w' => e = .returned (.bool b) ∧ w = w' :=
  (rhas_any A n c xs x w hx).mono fun _ _ h => ⟨by rw [h.1, hb], h.2⟩

/-- two slices' rows are not the same -/
def Apart (u v : Value) : Prop := ∀ g, u.ownBlock = some g → v.ownBlock ≠ some g
theorem Apart.symm {u v : Value} (h : Apart u v) : Apart v u := fun g h1 h2 => h g h2 h1
theorem Apart.keep {u : Value} {w w' : World} {base : Nat} {e : TypeId} {A : Option Addr} {n c : Nat} {xs : List Nat} (h : Apart u (.slice A n c)) (ho : OwnR (Value.float .f64) w base e A n c xs) (hg : w.grownBy w' u.ownBlock) : OwnR (Value.float .f64) w' base e A n c xs := by
  refine World.ownsRow.kept ho hg ?_
  rcases hq : (Value.slice A n c).ownBlock with _ | g
  · exact .inl rfl
  · exact .inr fun e => h g e.symm hq
theorem Apart.step {u u' : Value} {w : World} {base : Nat} {e : TypeId} {A : Option Addr} {n c : Nat} {xs : List Nat} (h : Apart u (.slice A n c)) (ho : OwnR (Value.float .f64) w base e A n c xs) {T : Nat} (hd : u'.ownBlock = u.ownBlock ∨ u'.ownBlock = some T) (hT : w.heap.size ≤ T) : Apart u' (.slice A n c) := by
  intro g h1 h2
  rcases hd with hd | hd
  · exact h g (by rw [← hd]; exact h1) h2
  · have := (World.ownsRow.lt ho g h2).2
    rw [hd] at h1
    injection h1 with h1
    omega

/-- what stands all along -/
structure F0 (A : Option Addr) (n : Nat) (A' : Option Addr) (n' : Nat) (P : Option Addr) (kp : Nat) (B8 : Option Addr) (k8 d8 p8 : Nat) (B9 : Option Addr) (k9 d9 p9 : Nat) (xs ys L M : List Nat) (w : World) : Prop where
  xs : Sl (Value.float .f64) w A n xs
  ys : Sl (Value.float .f64) w A' n' ys
  p : Sl (Value.float .f64) w P kp L
  s8 : Sl (Value.float .f64) w B8 k8 L
  q8 : RowC w p8 61 [.slice B8 k8 d8]
  s9 : Sl (Value.float .f64) w B9 k9 M
  q9 : RowC w p9 61 [.slice B9 k9 d9]
instance {A : Option Addr} {n : Nat} {A' : Option Addr} {n' : Nat} {P : Option Addr} {kp : Nat} {B8 : Option Addr} {k8 d8 p8 : Nat} {B9 : Option Addr} {k9 d9 p9 : Nat} {xs ys L M : List Nat} : Stable (fun w => F0 A n A' n' P kp B8 k8 d8 p8 B9 k9 d9 p9 xs ys L M w) :=
  ⟨fun hb h => ⟨h.xs.below (Nat.le_refl _) hb, h.ys.below (Nat.le_refl _) hb, h.p.below (Nat.le_refl _) hb, h.s8.below (Nat.le_refl _) hb, h.q8.below' hb, h.s9.below (Nat.le_refl _) hb, h.q9.below' hb⟩⟩

set_option maxRecDepth 100000 in
set_option maxHeartbeats 4000000 in
theorem law (A : Option Addr) (n c : Nat) (xs : List Nat) (A' : Option Addr) (n' c' : Nat) (ys : List Nat) (x : Nat) (w : World) (hx : Sl (Value.float .f64) w A n xs) (hy : Sl (Value.float .f64) w A' n' ys) (_ : (Lit.float .f64 x).wf = true) :
    Calls Try.prog 9 #[.slice A n c, .slice A' n' c', .float .f64 x] w fun e w' => e = .returned (.bool true) ∧ Below w.heap.size w w' := by
  obtain ⟨i0, hi0, hz0, hz1, hz2⟩ := info_parts SoF.info
  obtain ⟨L, hLd⟩ : ∃ L, L = setOf cmpF xs := ⟨_, rfl⟩
  have hLl : L.length ≤ xs.length := by rw [hLd]; exact setOf_length_le (c := cmpF) xs
  have hasc : Asc cmpF L := by rw [hLd]; exact asc_setOf cmpokF xs
  obtain ⟨M, hMd⟩ : ∃ M, M = setOf cmpF ys := ⟨_, rfl⟩
  have hMl : M.length ≤ ys.length := by rw [hMd]; exact setOf_length_le (c := cmpF) ys
  have hasc' : Asc cmpF M := by rw [hMd]; exact asc_setOf cmpokF ys
  have hxl := hx.len
  have hyl := hy.len
  have HL := Lib.hid (And.intro hLd (And.intro hLl (And.intro hasc hxl))); clear hLd hLl hasc hxl
  have HM := Lib.hid (And.intro hMd (And.intro hMl (And.intro hasc' hyl))); clear hMd hMl hasc' hyl
  have HI := Lib.hid hi0; clear hi0
  go_enter Try.func9, Try.ntmps9
  by_cases hn1 : 300 < n
  · go_wp2_with fail
    go_ret
    exact ⟨rfl, Below.refl _ _⟩
  have hn1' : decide (300 < n) = false := by simpa using hn1
  by_cases hn2 : 300 < n'
  · go_wp2_with fail
    go_ret
    exact ⟨rfl, Below.refl _ _⟩
  have hn2' : decide (300 < n') = false := by simpa using hn2
  go_wp2_with fail
  clear hn1' hn2'
  have hm1 : n ≤ 300 := by omega
  have hm2 : n' ≤ 300 := by omega
  clear hn1 hn2
  refine (SoF.rof_any A n c xs _ hx (by omega)).mono ?_
  rintro e w1 ⟨P, kp, cp, rfl, hp, hb⟩
  rw [← HL.out.1] at hp
  have H1 := ((((Held.init w).sl hy).sl hx).step hb).sl hp
  clear hp hb hx hy
  go_wp2_with fail
  refine (SoF.of_any A n c xs _ H1.has.2.1 (by omega)).mono ?_
  rintro e w2 ⟨B8, k8, d8, rfl, how, hb⟩
  rw [← HL.out.1] at how
  have hk8 : k8 ≤ 300 := by have := how.length; have := HL.out; omega
  have hl8 := how.length
  have H2 := ((H1.step hb).sl (how.sl (by omega))).new 61 [.slice B8 k8 d8]
  clear how hb H1
  go_wp2_with fail
  refine (SoF.of_any A' n' c' ys _ H2.has.2.2.2.2.1 (by omega)).mono ?_
  rintro e w3 ⟨B9, k9, d9, rfl, how, hb⟩
  rw [← HM.out.1] at how
  have hk9 : k9 ≤ 300 := by have := how.length; have := HM.out; omega
  have hl9 := how.length
  have H3 := ((H2.step hb).sl (how.sl (by omega))).new 61 [.slice B9 k9 d9]
  clear how hb H2
  have H4 : Held w (fun w => F0 A n A' n' P kp B8 k8 d8 w2.heap.size B9 k9 d9 w3.heap.size xs ys L M w) (w3.alloc (.cells #[.slice B9 k9 d9] 61)) :=
    ⟨H3.bel, H3.has.2.2.2.2.2.1, H3.has.2.2.2.2.2.2.1, H3.has.2.2.2.2.1, H3.has.2.2.2.1, H3.has.2.2.1, H3.has.2.1, H3.has.1⟩
  clear H3
  go_upto_region 6 with fail
  generalize w3.alloc (.cells #[.slice B9 k9 d9] 61) = w4 at *
  generalize w2.heap.size = p8 at *
  generalize w3.heap.size = p9 at *
  have hown0 := OwnR.nil (Value.float .f64) w4 w4.heap.size 57
  have hq1 : 0 + n ≤ maxLen ∧ n + n' ≤ maxLen ∧ n + 1 ≤ maxLen := by unfold maxLen; omega
  have hq2 : (0 + n) * 8 ≤ 140737488355328 ∧ (n + n') * 8 ≤ 140737488355328 ∧ (n + 1) * 8 ≤ 140737488355328 := by omega
  have HQ := Lib.hid (And.intro hq1 hq2); clear hq1 hq2
  go_upto_region 8 with (first
    | (at_builtin; refine wpList_append_sl _ (Value.float .f64) SoF.one rfl _ _ 56 rfl w4.heap.size 57 i0 (.float .f64 0) 8 Try.underlying56 HI.out hz0 hz1 hz2 rfl _ _ _ _ rfl hown0 _ _ _ _ rfl H4.has.xs HQ.out.1.1 HQ.out.2.1 (Nat.le_refl _) ?_)
    | fail)
  intro A5 c5 w5 ho5 _ hb5 _
  have H5 := H4.step hb5
  have hz5 := hb5.size
  clear hown0
  go_upto_region 9 with (first
    | (at_builtin; refine wpList_append_sl _ (Value.float .f64) SoF.one rfl _ _ 56 rfl w4.heap.size 57 i0 (.float .f64 0) 8 Try.underlying56 HI.out hz0 hz1 hz2 rfl _ _ _ _ rfl ho5 _ _ _ _ rfl H5.has.ys HQ.out.1.2.1 HQ.out.2.2.1 hz5 ?_)
    | fail)
  intro A6 c6 w6 ho6 _ hb6 _
  have H6 := (H4.step (hb5.trans hb6)).sl (ho6.sl (by omega))
  clear H4 H5 hb5 hb6 ho5 ho6 hz5
  have hown6 := OwnR.nil (Value.float .f64) w6 w6.heap.size 57
  go_upto_region 11 with (first
    | (at_builtin; refine wpList_append_sl _ (Value.float .f64) SoF.one rfl _ _ 56 rfl w6.heap.size 57 i0 (.float .f64 0) 8 Try.underlying56 HI.out hz0 hz1 hz2 rfl _ _ _ _ rfl hown6 _ _ _ _ rfl H6.has.2.xs HQ.out.1.1 HQ.out.2.1 (Nat.le_refl _) ?_)
    | fail)
  intro A7 c7 w7 ho7 _ hb7 _
  have hb7a := hb7.alloc hb7.size (.cells #[.float .f64 x] 57)
  have ho7a := ho7.alloc (.cells #[.float .f64 x] 57)
  have hz7 := hb7a.size
  clear hown6 hb7 ho7
  go_upto_region 12 with (first
    | (at_builtin; refine wpList_append_sl _ (Value.float .f64) SoF.one rfl _ _ 56 rfl w6.heap.size 57 i0 (.float .f64 0) 8 Try.underlying56 HI.out hz0 hz1 hz2 rfl _ _ _ _ rfl ho7a _ _ _ _ rfl (Sl.one _ _ _) HQ.out.1.2.2 HQ.out.2.2.2 hz7 ?_)
    | fail)
  intro A8 c8 w8 ho8 _ hb8 _
  have H8 := (H6.step (hb7a.trans hb8)).sl (ho8.sl (by omega))
  clear H6 hb7a hb8 ho8 ho7a hz7
  obtain ⟨bb, hbb⟩ : ∃ bb, isIn cmpF x L = bb := ⟨_, rfl⟩
  have HB := Lib.hid hbb; clear hbb
  -- the first test
  have r8 := H8.has.2.2.q8.cell 0
  go_wp2_with fail
  refine (SoF.list_any B8 k8 d8 L _ H8.has.2.2.s8 (by omega)).mono ?_
  rintro e v1 ⟨E1, e1, rfl, how, hb⟩
  have G1 := (H8.step hb).sl (how.sl (by omega))
  clear how hb H8 r8
  go_wp2_with fail
  refine (floats_same2 E1 P k8 kp e1 cp L _ G1.has.1 G1.has.2.2.2.p).mono ?_
  rintro e v2 ⟨rfl, j2, rfl⟩
  have G2 := G1.drewN j2
  clear G1
  have r8 := G2.has.2.2.2.q8.cell 0
  go_wp2_with fail
  refine (has_b B8 k8 d8 L x bb _ HB.out G2.has.2.2.2.s8 HL.out.2.2.1).mono ?_
  rintro e v3 ⟨rfl, hb⟩
  have G3 := G2.step hb
  clear G2 hb r8
  go_wp2_with fail
  refine (rhas_b P kp cp L x bb _ HB.out G3.has.2.2.2.p).mono ?_
  rintro e v4 ⟨rfl, rfl⟩
  have r8 := G3.has.2.2.2.q8.cell 0
  have r9 := G3.has.2.2.2.q9.cell 0
  go_wp2_with fail
  refine (SoF.join_any B8 B9 k8 k9 d8 d9 L M _ G3.has.2.2.2.s8 G3.has.2.2.2.s9 HL.out.2.2.1 HM.out.2.2.1 (by omega)).mono ?_
  rintro e v5 ⟨C5, m5, f5, out5, rfl, hch, hs5, hb⟩
  have ho5 : out5 = setOf cmpF (xs ++ ys) := by rw [HL.out.1, HM.out.1] at hch; exact join_eq cmpokF hch
  have hl5 : out5.length ≤ 600 := by have := hch.len; omega
  have G5 := (G3.step hb).sl hs5
  have hm5 : m5 ≤ 600 := by rw [← hs5.len]; exact hl5
  have HO := Lib.hid ho5; clear ho5 hch hs5 hb hl5 G3 r8 r9
  go_wp2_with fail
  refine (SoF.list_any C5 m5 f5 out5 _ G5.has.1 (by omega)).mono ?_
  rintro e v6 ⟨E6, e6, rfl, how, hb⟩
  have G6 := (G5.step hb).sl (how.sl (by omega))
  clear how hb G5
  go_wp2_with fail
  refine (SoF.rof_any A6 (n + n') c6 (xs ++ ys) _ G6.has.2.2.2.2.1 (by omega)).mono ?_
  rintro e v7 ⟨E7, m7, e7, rfl, hs7, hb⟩
  rw [← HO.out] at hs7
  have G7 := (G6.step hb).sl hs7
  clear hs7 hb G6
  go_wp2_with fail
  refine (floats_same2 E6 E7 m5 m7 e6 e7 out5 _ G7.has.2.1 G7.has.1).mono ?_
  rintro e v8 ⟨rfl, j8, rfl⟩
  have G8 := G7.drewN j8
  clear G7
  have r8 := G8.has.2.2.2.2.2.2.q8.cell 0
  go_wp2_with fail
  refine (SoF.with_any B8 k8 d8 L x _ G8.has.2.2.2.2.2.2.s8 HL.out.2.2.1 (by omega)).mono ?_
  rintro e v9 ⟨C9, m9, f9, rfl, hs9, hb⟩
  have hm9 : m9 ≤ 301 := by rw [← hs9.len]; have := ins_length_le (c := cmpF) x L; omega
  have G9 := (G8.step hb).sl hs9
  clear hs9 hb G8 r8
  go_wp2_with fail
  refine (SoF.list_any C9 m9 f9 (ins cmpF x L) _ G9.has.1 (by omega)).mono ?_
  rintro e v10 ⟨E10, e10, rfl, how, hb⟩
  have G10 := (G9.step hb).sl (how.sl (by omega))
  clear how hb G9
  go_wp2_with fail
  refine (SoF.rof_any A8 (n + 1) c8 (xs ++ [x]) _ G10.has.2.2.2.2.2.2.1 (by omega)).mono ?_
  rintro e v11 ⟨E11, m11, e11, rfl, hs11, hb⟩
  rw [setOf_snoc, ← HL.out.1] at hs11
  have G11 := (G10.step hb).sl hs11
  clear hs11 hb G10
  go_wp2_with fail
  refine (floats_same2 E10 E11 m9 m11 e10 e11 (ins cmpF x L) _ G11.has.2.1 G11.has.1).mono ?_
  rintro e v12 ⟨rfl, j12, rfl⟩
  have K0 := (G11.drewN j12).imp (fun h => h.2.2.2.2.2.2.2.2.2)
  clear G11
  go_wp2_with fail
  refine (SoF.rof_any A' n' c' ys _ K0.has.ys (by omega)).mono ?_
  rintro e v13 ⟨Q, kq, cq, rfl, hq, hb⟩
  rw [← HM.out.1] at hq
  have K1 := (K0.step hb).sl hq
  clear hq hb K0
  obtain ⟨va, hva⟩ : ∃ va : World, va = v13 := ⟨_, rfl⟩
  subst hva
  have hkp : L.length = kp := by rw [← K1.has.2.p.len]
  have HK := Lib.hid hkp
  have hkp3 : kp ≤ 300 := by omega
  clear hkp
  have hoA := OwnR.nil (Value.float .f64) va va.heap.size 57
  go_wp2_with fail
  go_loopw [13, 14, 15] (fun a b i wr => ∃ (k na nb : Nat) (Aa Ab : Option Addr) (ca cb : Nat), a = .slice Aa na ca ∧ b = .slice Ab nb cb ∧ i = .int .i64 (k : Nat) ∧ k ≤ kp ∧ OwnR (Value.float .f64) wr va.heap.size 57 Aa na ca ((L.take k).filter (fun z => isIn cmpF z M)) ∧
      OwnR (Value.float .f64) wr va.heap.size 57 Ab nb cb ((L.take k).filter (fun z => !isIn cmpF z M)) ∧ Apart (.slice Aa na ca) (.slice Ab nb cb) ∧ Below va.heap.size va wr) (fun _ _ i _ => kp - (intOf i).toNat)
  case atStart => exact ⟨0, 0, 0, none, none, 0, 0, rfl, rfl, rfl, Nat.zero_le _, by simpa using hoA, by simpa using hoA, fun g h => by simp [Value.ownBlock] at h, Below.refl _ _⟩
  case round =>
    obtain ⟨k, na, nb, Aa, Ab, ca, cb, rfl, rfl, rfl, hk, ha, hb, hap, hbl⟩ := hrel
    obtain ⟨wb, hwb⟩ : ∃ wb : World, wb = wr := ⟨_, rfl⟩
    subst hwb
    have K2 := K1.step hbl
    have hna : na ≤ k := by rw [← ha.length]; exact Nat.le_trans (List.length_filter_le _ _) (List.length_take_le _ _)
    have hnb : nb ≤ k := by rw [← hb.length]; exact Nat.le_trans (List.length_filter_le _ _) (List.length_take_le _ _)
    by_cases hlt : k < kp
    · obtain ⟨bp, op, hPe, _, hcp⟩ := K2.has.2.p.at' (by omega)
      have g1 := hcp k hlt
      clear hcp
      subst hPe
      obtain ⟨dd, hdd⟩ : ∃ dd, isIn cmpF (nth L k) M = dd := ⟨_, rfl⟩
      have hf1 : (L.take (k + 1)).filter (fun z => isIn cmpF z M) = (L.take k).filter (fun z => isIn cmpF z M) ++ (if dd then [nth L k] else []) := by
        rw [take_snoc (by rw [HK.out]; exact hlt), List.filter_append]
        cases dd <;> simp [hdd]
      have hf2 : (L.take (k + 1)).filter (fun z => !isIn cmpF z M) = (L.take k).filter (fun z => !isIn cmpF z M) ++ (if dd then [] else [nth L k]) := by
        rw [take_snoc (by rw [HK.out]; exact hlt), List.filter_append]
        cases dd <;> simp [hdd]
      have hzb := hbl.size
      have hza : va.heap.size ≤ (wb.alloc (.cells #[.float .f64 (nth L k)] 57)).heap.size := by simp; omega
      have hbl1 := hbl.alloc hzb (.cells #[.float .f64 (nth L k)] 57)
      have ha1 := ha.alloc (.cells #[.float .f64 (nth L k)] 57)
      have hb1 := hb.alloc (.cells #[.float .f64 (nth L k)] 57)
      have HF := Lib.hid (And.intro hdd (And.intro hf1 (And.intro hf2 (And.intro hap (And.intro hbl1 (And.intro ha (And.intro hb hbl))))))); clear hdd hf1 hf2 hap hbl1 ha hb hbl
      rcases dd
      · have hc1 : nb + 1 ≤ maxLen := by unfold maxLen; omega
        have hc2 : (nb + 1) * 8 ≤ 140737488355328 := by omega
        have HC := Lib.hid (And.intro hc1 hc2); clear hc1 hc2
        go_wp2_with fail
        refine (rhas_b Q kq cq M (nth L k) false _ HF.out.1 K2.has.1).mono ?_
        rintro e vx ⟨rfl, rfl⟩
        go_wp2_with (first
          | (at_builtin; refine wpList_append_sl _ (Value.float .f64) SoF.one rfl _ _ 56 rfl va.heap.size 57 i0 (.float .f64 0) 8 Try.underlying56 HI.out hz0 hz1 hz2 rfl _ _ _ _ rfl hb1 _ _ _ _ rfl (Sl.one _ _ _) HC.out.1 HC.out.2 hza ?_)
          | fail)
        intro A9 c9 w9 ho9 hg9 hb9 hd9
        have ha9 := HF.out.2.2.2.1.symm.keep ha1 hg9
        have hap9 := (HF.out.2.2.2.1.symm.step ha1 hd9 (by simp)).symm
        have HR := Lib.hid (And.intro ho9 (And.intro ha9 (And.intro hap9 (HF.out.2.2.2.2.1.trans hb9)))); clear ho9 ha9 hap9 hb9 hg9 hd9 ha1 hb1
        go_wp2_with fail
        exact ⟨⟨k + 1, na, nb + 1, Aa, A9, ca, c9, rfl, rfl, by go_num, by omega, by rw [HF.out.2.1]; simpa using HR.out.2.1, by rw [HF.out.2.2.1]; simpa using HR.out.1, HR.out.2.2.1, HR.out.2.2.2⟩, by simp [intOf]; omega⟩
      · have hc1 : na + 1 ≤ maxLen := by unfold maxLen; omega
        have hc2 : (na + 1) * 8 ≤ 140737488355328 := by omega
        have HC := Lib.hid (And.intro hc1 hc2); clear hc1 hc2
        go_wp2_with fail
        refine (rhas_b Q kq cq M (nth L k) true _ HF.out.1 K2.has.1).mono ?_
        rintro e vx ⟨rfl, rfl⟩
        go_wp2_with (first
          | (at_builtin; refine wpList_append_sl _ (Value.float .f64) SoF.one rfl _ _ 56 rfl va.heap.size 57 i0 (.float .f64 0) 8 Try.underlying56 HI.out hz0 hz1 hz2 rfl _ _ _ _ rfl ha1 _ _ _ _ rfl (Sl.one _ _ _) HC.out.1 HC.out.2 hza ?_)
          | fail)
        intro A9 c9 w9 ho9 hg9 hb9 hd9
        have hb9' := HF.out.2.2.2.1.keep hb1 hg9
        have hap9 := HF.out.2.2.2.1.step hb1 hd9 (by simp)
        have HR := Lib.hid (And.intro ho9 (And.intro hb9' (And.intro hap9 (HF.out.2.2.2.2.1.trans hb9)))); clear ho9 hb9' hap9 hb9 hg9 hd9 ha1 hb1
        go_wp2_with fail
        exact ⟨⟨k + 1, na + 1, nb, A9, Ab, c9, cb, rfl, rfl, by go_num, by omega, by rw [HF.out.2.1]; simpa using HR.out.1, by rw [HF.out.2.2.1]; simpa using HR.out.2.1, HR.out.2.2.1, HR.out.2.2.2⟩, by simp [intOf]; omega⟩
    · obtain rfl : k = kp := by omega
      have e1 : L.take k = L := List.take_of_length_le (by rw [HK.out]; omega)
      rw [e1] at ha hb
      have hmL : (L.filter (want cmpF false true M)) = L.filter (fun z => isIn cmpF z M) := by
        congr 1; funext z; unfold want; cases isIn cmpF z M <;> rfl
      have hnL : (L.filter (want cmpF true false M)) = L.filter (fun z => !isIn cmpF z M) := by
        congr 1; funext z; unfold want; cases isIn cmpF z M <;> rfl
      have K3 := (K2.sl (ha.sl (by omega))).sl (hb.sl (by omega))
      have hwm : SoF.withinB L M = decide (nb = 0) := by
        rw [Bool.eq_iff_iff, decide_eq_true_iff]
        unfold SoF.withinB
        rw [List.all_eq_true, ← hb.length, List.length_eq_zero_iff, List.filter_eq_nil_iff]
        constructor
        · intro h z hz; rw [h z hz]; simp
        · intro h z hz; have := h z hz; simpa using this
      obtain ⟨bz, hbz⟩ : ∃ bz, decide (nb = 0) = bz := ⟨_, rfl⟩
      have hbz' : (((nb : Nat) : Int) == 0) = bz := by rw [← hbz]; rw [Bool.eq_iff_iff]; simp
      have hbz2 : decide (((nb : Nat) : Int) = 0) = bz := by rw [← hbz]; rw [Bool.eq_iff_iff]; simp
      rw [hbz] at hwm
      have HW := Lib.hid (And.intro hmL (And.intro hnL (And.intro hwm hbz))); clear hmL hnL hwm hbz ha hb hap hbl K1 K2 e1 hoA
      have r8 := K3.has.2.2.2.q8.cell 0
      have r9 := K3.has.2.2.2.q9.cell 0
      go_wp2_with fail
      refine (SoF.meet_any B8 B9 k8 k9 d8 d9 L M _ K3.has.2.2.2.s8 K3.has.2.2.2.s9 HL.out.2.2.1 HM.out.2.2.1 (by omega)).mono ?_
      rintro e u1 ⟨C1, m1, f1, out1, rfl, hch, hs1, hb⟩
      have ho1 := filter_eq cmpokF HL.out.2.2.1 hch
      rw [HW.out.1] at ho1
      subst ho1
      have hm1' : m1 ≤ 300 := by have := hs1.len; have := List.length_filter_le (fun z => isIn cmpF z M) L; omega
      have G1 := (K3.step hb).sl hs1
      clear hch hs1 hb K3 r8 r9
      go_wp2_with fail
      refine (SoF.list_any C1 m1 f1 _ _ G1.has.1 (by omega)).mono ?_
      rintro e u2 ⟨E2, e2, rfl, how, hb⟩
      have G2 := (G1.step hb).sl (how.sl (by omega))
      clear how hb G1
      go_wp2_with fail
      refine (floats_same2 E2 Aa m1 na e2 ca _ _ G2.has.1 G2.has.2.2.2.1).mono ?_
      rintro e u3 ⟨rfl, j3, rfl⟩
      have G3 := G2.drewN j3
      clear G2
      have r8 := G3.has.2.2.2.2.2.q8.cell 0
      have r9 := G3.has.2.2.2.2.2.q9.cell 0
      go_wp2_with fail
      refine (SoF.minus_any B8 B9 k8 k9 d8 d9 L M _ G3.has.2.2.2.2.2.s8 G3.has.2.2.2.2.2.s9 HL.out.2.2.1 HM.out.2.2.1 (by omega)).mono ?_
      rintro e u4 ⟨C4, m4, f4, out4, rfl, hch, hs4, hb⟩
      have ho4 := filter_eq cmpokF HL.out.2.2.1 hch
      rw [HW.out.2.1] at ho4
      subst ho4
      have hm4' : m4 ≤ 300 := by have := hs4.len; have := List.length_filter_le (fun z => !isIn cmpF z M) L; omega
      have G4 := (G3.step hb).sl hs4
      clear hch hs4 hb G3 r8 r9
      go_wp2_with fail
      refine (SoF.list_any C4 m4 f4 _ _ G4.has.1 (by omega)).mono ?_
      rintro e u5 ⟨E5, e5, rfl, how, hb⟩
      have G5 := (G4.step hb).sl (how.sl (by omega))
      clear how hb G4
      go_wp2_with fail
      refine (floats_same2 E5 Ab m4 nb e5 cb _ _ G5.has.1 G5.has.2.2.2.2.1).mono ?_
      rintro e u6 ⟨rfl, j6, rfl⟩
      have G6 := G5.drewN j6
      clear G5
      have r8 := G6.has.2.2.2.2.2.2.2.q8.cell 0
      have r9 := G6.has.2.2.2.2.2.2.2.q9.cell 0
      go_wp2_with fail
      refine (SoF.within_any B8 B9 k8 k9 d8 d9 L M _ G6.has.2.2.2.2.2.2.2.s8 G6.has.2.2.2.2.2.2.2.s9 HL.out.2.2.1 HM.out.2.2.1 (by omega)).mono ?_
      rintro e u7 ⟨rfl, hb⟩
      rw [HW.out.2.2.1]
      have G7 := G6.step hb
      clear hb G6 r8 r9
      have r8 := G7.has.2.2.2.2.2.2.2.q8.cell 0
      go_wp2_with fail
      refine (SoF.without_any B8 k8 d8 L x _ G7.has.2.2.2.2.2.2.2.s8 HL.out.2.2.1 (by omega)).mono ?_
      rintro e u8 ⟨C8, m8, f8, rfl, hs8, hb⟩
      have G8 := (G7.step hb).sl hs8
      clear hs8 hb G7 r8
      go_wp2_with fail
      refine (has_b C8 m8 f8 (rem cmpF x L) x false _ (isIn_rem x L) G8.has.1 (asc_rem HL.out.2.2.1)).mono ?_
      rintro e u9 ⟨rfl, hb⟩
      have G9 := G8.step hb
      clear hb G8
      go_wp2_with fail
      go_ret
      exact ⟨rfl, G9.bel⟩
end Go.Proofs.Ytpacnpiiahchiaa.SetFloats
