/- credenceref11's With, Of over ints, walked: what they compute is what the sets hold. Conditions: the lists rise; their lengths are within Go's bound. -/
import Derived.Test.YtpacnpiiahchiaaLaw0
import Derived.Test.YtpacnpiiahchiaaRises
import Derived.Outline
namespace Go.Proofs.Ytpacnpiiahchiaa
open Go.RowKit

theorem ins_all {x : Int} : ∀ {l : List Int}, (∀ z ∈ l, z < x) → ins cmpI x l = l ++ [x]
  | [], _ => rfl
  | y :: l, h => by
    have h1 := h y (by simp)
    unfold ins
    rw [if_neg (by rw [cmpI_neg]; omega), if_neg (by rw [cmpI_zero]; omega), ins_all (fun z hz => h z (by simp [hz]))]
    rfl
theorem ins_gt {x y : Int} : ∀ {l : List Int}, (∀ z ∈ l, z < x) → x < y → ins cmpI x (l ++ [y]) = l ++ [x, y]
  | [], _, hy => by simp [ins, cmpI_neg, hy]
  | u :: l, h, hy => by
    have h1 := h u (by simp)
    rw [List.cons_append]
    unfold ins
    rw [if_neg (by rw [cmpI_neg]; omega), if_neg (by rw [cmpI_zero]; omega), ins_gt (fun z hz => h z (by simp [hz])) hy]
    rfl
theorem ins_eq {x : Int} : ∀ {l : List Int}, (∀ z ∈ l, z < x) → ins cmpI x (l ++ [x]) = l ++ [x]
  | [], _ => by simp [ins, cmpI_neg, cmpI_zero]
  | u :: l, h => by
    have h1 := h u (by simp)
    rw [List.cons_append]
    unfold ins
    rw [if_neg (by rw [cmpI_neg]; omega), if_neg (by rw [cmpI_zero]; omega), ins_eq (fun z hz => h z (by simp [hz]))]
theorem ins_past {x y : Int} : ∀ {l : List Int}, (∃ z ∈ l, x ≤ z) → ins cmpI x (l ++ [y]) = ins cmpI x l ++ [y]
  | [], h => by obtain ⟨z, hz, _⟩ := h; simp at hz
  | u :: l, h => by
    rw [List.cons_append]
    unfold ins
    by_cases h1 : cmpI x u < 0
    · rw [if_pos h1, if_pos h1]; rfl
    · rw [if_neg h1, if_neg h1]
      by_cases h2 : cmpI x u = 0
      · rw [if_pos h2, if_pos h2]; rfl
      · rw [if_neg h2, if_neg h2, ins_past (l := l)]; · rfl
        obtain ⟨z, hz, hxz⟩ := h
        rcases List.mem_cons.1 hz with rfl | hz
        · rw [cmpI_neg] at h1; rw [cmpI_zero] at h2; omega
        · exact ⟨z, hz, hxz⟩

/-- what the loop of With has made of the first k things -/
def RefAt (x : Int) (xs : List Int) (k : Nat) (b : Bool) (out : List Int) : Prop :=
  (b = false → out = xs.take k ∧ ∀ z ∈ xs.take k, z < x) ∧ (b = true → out = ins cmpI x (xs.take k) ∧ ∃ z ∈ xs.take k, x ≤ z)
theorem RefAt.start (x : Int) (xs : List Int) : RefAt x xs 0 false [] := ⟨fun _ => ⟨rfl, by simp⟩, fun h => by cases h⟩
theorem RefAt.below {x : Int} {xs out : List Int} {k : Nat} (h : RefAt x xs k false out) (hk : k < xs.length) (hx : nth xs k < x) : RefAt x xs (k + 1) false (out ++ [nth xs k]) := by
  obtain ⟨e, hz⟩ := h.1 rfl
  refine ⟨fun _ => ⟨by rw [take_snoc hk, e], fun z hz' => ?_⟩, fun h => by cases h⟩
  rw [take_snoc hk] at hz'
  rcases List.mem_append.1 hz' with h1 | h1
  · exact hz z h1
  · rw [List.mem_singleton.1 h1]; exact hx
theorem RefAt.gt {x : Int} {xs out : List Int} {k : Nat} (h : RefAt x xs k false out) (hk : k < xs.length) (hx : x < nth xs k) : RefAt x xs (k + 1) true (out ++ [x] ++ [nth xs k]) := by
  obtain ⟨e, hz⟩ := h.1 rfl
  refine ⟨fun h => (by cases h), fun _ => ⟨?_, nth xs k, ?_, by omega⟩⟩
  · rw [take_snoc hk, ins_gt hz hx, e]; simp
  · rw [take_snoc hk]; simp
theorem RefAt.eq {x : Int} {xs out : List Int} {k : Nat} (h : RefAt x xs k false out) (hk : k < xs.length) (hx : nth xs k = x) : RefAt x xs (k + 1) true (out ++ [nth xs k]) := by
  obtain ⟨e, hz⟩ := h.1 rfl
  refine ⟨fun h => (by cases h), fun _ => ⟨?_, nth xs k, ?_, by omega⟩⟩
  · rw [take_snoc hk, hx, ins_eq hz, e]
  · rw [take_snoc hk]; simp
theorem RefAt.past {x : Int} {xs out : List Int} {k : Nat} (h : RefAt x xs k true out) (hk : k < xs.length) : RefAt x xs (k + 1) true (out ++ [nth xs k]) := by
  obtain ⟨e, z, hz, hxz⟩ := h.2 rfl
  refine ⟨fun h => (by cases h), fun _ => ⟨?_, z, ?_, hxz⟩⟩
  · rw [take_snoc hk, ins_past ⟨z, hz, hxz⟩, e]
  · rw [take_snoc hk]; simp [hz]
theorem RefAt.done {x : Int} {xs out : List Int} (h : RefAt x xs xs.length true out) : out = ins cmpI x xs := by
  have := (h.2 rfl).1
  rwa [List.take_length] at this
theorem RefAt.end' {x : Int} {xs out : List Int} (h : RefAt x xs xs.length false out) : out ++ [x] = ins cmpI x xs := by
  obtain ⟨e, hz⟩ := h.1 rfl
  rw [List.take_length] at e hz
  rw [ins_all hz, e]

set_option maxHeartbeats 4000000 in
set_option maxRecDepth 100000 in
theorem rwith_any (A : Option Addr) (n c : Nat) (xs : List Int) (x : Int) (w : World) (hx : Sl (Value.int .i64) w A n xs) (hb : n ≤ 100000) :
    Calls Try.prog 23 #[.slice A n c, .int .i64 x] w fun e w' => ∃ A' c', e = .returned (.slice A' (ins cmpI x xs).length c') ∧ OwnR (Value.int .i64) w' w.heap.size 3 A' (ins cmpI x xs).length c' (ins cmpI x xs) ∧ Below w.heap.size w w' := by
  obtain ⟨i0, hi0, hz0, hz1, hz2⟩ := info_parts SoI.info
  have HI := Lib.hid (And.intro hx.len hi0); clear hi0
  have hown0 := OwnR.nil (Value.int .i64) w w.heap.size 3
  obtain ⟨wa, hwa⟩ : ∃ wa : World, wa = w := ⟨_, rfl⟩
  subst hwa
  go_enter Try.func23, Try.ntmps23
  go_wp2_with fail
  go_loopw [5, 6, 7] (fun v bv i wr => ∃ (b : Bool) (k m cb : Nat) (Ab : Option Addr) (out : List Int), bv = .bool b ∧ i = .int .i64 (k : Nat) ∧ k ≤ n ∧ m ≤ k + 1 ∧ v = .slice Ab m cb ∧ RefAt x xs k b out ∧
      OwnR (Value.int .i64) wr wa.heap.size 3 Ab m cb out ∧ Below wa.heap.size wa wr) (fun _ _ i _ => n - (intOf i).toNat)
  case atStart => exact ⟨false, 0, 0, 0, none, [], rfl, rfl, Nat.zero_le _, by omega, rfl, RefAt.start x xs, hown0, Below.refl _ _⟩
  case round =>
    obtain ⟨b, k, m, cb, Ab, out, rfl, rfl, hk, hm, rfl, hat, how, hbl⟩ := hrel
    have hsz := hbl.size
    by_cases hlt : k < n
    · have hx6 := hx.below (Nat.le_refl _) hbl
      have hkl : k < xs.length := by rw [HI.out.1]; exact hlt
      obtain ⟨bb, off, rfl, hbb, hc⟩ := hx6.at' (by omega)
      have g1 := hc k hlt
      clear hc hx6
      have k1 : m + 1 ≤ maxLen := by unfold maxLen; omega
      have k2 : (m + 1) * 8 ≤ 140737488355328 := by omega
      have k3 : m + 1 + 1 ≤ maxLen := by unfold maxLen; omega
      have k4 : (m + 1 + 1) * 8 ≤ 140737488355328 := by omega
      rcases b
      · rcases Int.lt_trichotomy (nth xs k) x with hlt3 | heq | hgt
        · have d1 : decide (x ≤ nth xs k) = false := by simpa using hlt3
          have hw1 := how.alloc (.cells #[.int .i64 (nth xs k)] 3)
          have hx1 := Sl.one (enc := Value.int .i64) wr 3 (nth xs k)
          have hb1 : wa.heap.size ≤ (wr.alloc (.cells #[.int .i64 (nth xs k)] 3)).heap.size := by simp; omega
          go_wp2_with (first
              | (at_builtin; refine wpList_append_sl _ (Value.int .i64) SoI.one rfl _ _ 35 rfl wa.heap.size 3 i0 (.int .i64 0) 8 Try.underlying35 HI.out.2 hz0 hz1 hz2 rfl _ _ _ _ rfl hw1 _ _ _ _ rfl hx1 k1 k2 hb1 ?_)
              | fail)
          intro A1 c1 w1 how1 _ hb' _
          go_wp2_with fail
          have hbl1 : Below wa.heap.size wa w1 := (hbl.alloc hsz _).trans hb'
          exact ⟨⟨false, k + 1, m + 1, c1, A1, _, rfl, by go_num, by omega, by omega, rfl, hat.below hkl hlt3, how1, hbl1⟩, by simp [intOf]; omega⟩
        · have d1 : decide (x ≤ nth xs k) = true := by simpa using (show x ≤ nth xs k by omega)
          have d2 : decide (x < nth xs k) = false := by simpa using (show nth xs k ≤ x by omega)
          have HE := Lib.hid heq
          clear heq
          have hw1 := how.alloc (.cells #[.int .i64 (nth xs k)] 3)
          have hx1 := Sl.one (enc := Value.int .i64) wr 3 (nth xs k)
          have hb1 : wa.heap.size ≤ (wr.alloc (.cells #[.int .i64 (nth xs k)] 3)).heap.size := by simp; omega
          go_wp2_with (first
              | (at_builtin; refine wpList_append_sl _ (Value.int .i64) SoI.one rfl _ _ 35 rfl wa.heap.size 3 i0 (.int .i64 0) 8 Try.underlying35 HI.out.2 hz0 hz1 hz2 rfl _ _ _ _ rfl hw1 _ _ _ _ rfl hx1 k1 k2 hb1 ?_)
              | fail)
          intro A1 c1 w1 how1 _ hb' _
          go_wp2_with fail
          have hbl1 : Below wa.heap.size wa w1 := (hbl.alloc hsz _).trans hb'
          exact ⟨⟨true, k + 1, m + 1, c1, A1, _, rfl, by go_num, by omega, by omega, rfl, hat.eq hkl HE.out, how1, hbl1⟩, by simp [intOf]; omega⟩
        · have d1 : decide (x ≤ nth xs k) = true := by simpa using (show x ≤ nth xs k by omega)
          have d2 : decide (x < nth xs k) = true := by simpa using hgt
          have hw1 := how.alloc (.cells #[.int .i64 x] 3)
          have hx1 := Sl.one (enc := Value.int .i64) wr 3 x
          have hb1 : wa.heap.size ≤ (wr.alloc (.cells #[.int .i64 x] 3)).heap.size := by simp; omega
          go_wp2_with (first
          | (at_builtin; refine wpList_append_sl _ (Value.int .i64) SoI.one rfl _ _ 35 rfl wa.heap.size 3 i0 (.int .i64 0) 8 Try.underlying35 HI.out.2 hz0 hz1 hz2 rfl _ _ _ _ rfl hw1 _ _ _ _ rfl hx1 k1 k2 hb1 ?_)
          | fail)
          intro A1 c1 w1 how1 _ hb' _
          have hbl1 : Below wa.heap.size wa w1 := (hbl.alloc hsz _).trans hb'
          have hsz1 := hbl1.size
          have g2 : w1.cell? ⟨bb, off + k, none⟩ = some (.int .i64 (nth xs k)) := (((hx.below (Nat.le_refl _) hbl1).at' (by omega)).elim fun b' h => h.elim fun o' h => by
            obtain ⟨e, _, hc⟩ := h
            injection e with e
            injection e with e1 e2
            subst e1 e2
            exact hc k hlt)
          clear g1 hw1 hx1 hb1
          have hw2 := how1.alloc (.cells #[.int .i64 (nth xs k)] 3)
          have hx2 := Sl.one (enc := Value.int .i64) w1 3 (nth xs k)
          have hb2 : wa.heap.size ≤ (w1.alloc (.cells #[.int .i64 (nth xs k)] 3)).heap.size := by simp; omega
          have hm1 : m ≤ k := by
            have h1 := how.length
            have h2 := (hat.1 rfl).1
            rw [h2] at h1
            simp at h1; omega
          go_wp2_with (first
          | (at_builtin; refine wpList_append_sl _ (Value.int .i64) SoI.one rfl _ _ 35 rfl wa.heap.size 3 i0 (.int .i64 0) 8 Try.underlying35 HI.out.2 hz0 hz1 hz2 rfl _ _ _ _ rfl hw2 _ _ _ _ rfl hx2 k3 k4 hb2 ?_)
          | fail)
          intro A2 c2 w2 how2 _ hb'2 _
          go_wp2_with fail
          have hbl2 : Below wa.heap.size wa w2 := (hbl1.alloc hsz1 _).trans hb'2
          exact ⟨⟨true, k + 1, m + 1 + 1, c2, A2, _, rfl, by go_num, by omega, by omega, rfl, hat.gt hkl hgt, by simpa using how2, hbl2⟩, by simp [intOf]; omega⟩
      · have d0 : 0 = 0 := rfl
        have hw1 := how.alloc (.cells #[.int .i64 (nth xs k)] 3)
        have hx1 := Sl.one (enc := Value.int .i64) wr 3 (nth xs k)
        have hb1 : wa.heap.size ≤ (wr.alloc (.cells #[.int .i64 (nth xs k)] 3)).heap.size := by simp; omega
        go_wp2_with (first
            | (at_builtin; refine wpList_append_sl _ (Value.int .i64) SoI.one rfl _ _ 35 rfl wa.heap.size 3 i0 (.int .i64 0) 8 Try.underlying35 HI.out.2 hz0 hz1 hz2 rfl _ _ _ _ rfl hw1 _ _ _ _ rfl hx1 k1 k2 hb1 ?_)
            | fail)
        intro A1 c1 w1 how1 _ hb' _
        go_wp2_with fail
        have hbl1 : Below wa.heap.size wa w1 := (hbl.alloc hsz _).trans hb'
        exact ⟨⟨true, k + 1, m + 1, c1, A1, _, rfl, by go_num, by omega, by omega, rfl, hat.past hkl, how1, hbl1⟩, by simp [intOf]; omega⟩
    · obtain rfl : k = n := by omega
      have hkl : xs.length = k := HI.out.1
      have k1 : m + 1 ≤ maxLen := by unfold maxLen; omega
      have k2 : (m + 1) * 8 ≤ 140737488355328 := by omega
      rcases b
      · have hfin : out ++ [x] = ins cmpI x xs := by rw [← hkl] at hat; exact hat.end'
        have HF := Lib.hid hfin
        clear hfin
        have hw1 := how.alloc (.cells #[.int .i64 x] 3)
        have hx1 := Sl.one (enc := Value.int .i64) wr 3 x
        have hb1 : wa.heap.size ≤ (wr.alloc (.cells #[.int .i64 x] 3)).heap.size := by simp; omega
        go_wp2_with (first
          | (at_builtin; refine wpList_append_sl _ (Value.int .i64) SoI.one rfl _ _ 35 rfl wa.heap.size 3 i0 (.int .i64 0) 8 Try.underlying35 HI.out.2 hz0 hz1 hz2 rfl _ _ _ _ rfl hw1 _ _ _ _ rfl hx1 k1 k2 hb1 ?_)
          | fail)
        intro A1 c1 w1 how1 _ hb' _
        have hbl1 : Below wa.heap.size wa w1 := (hbl.alloc hsz _).trans hb'
        rw [HF.out] at how1
        have hl := how1.length
        go_wp2_with fail
        go_ret
        rw [← hl] at how1 ⊢
        exact ⟨_, _, rfl, how1, hbl1⟩
      · have hfin : out = ins cmpI x xs := by rw [← hkl] at hat; exact hat.done
        rw [hfin] at how
        have hl := how.length
        go_wp2_with fail
        go_ret
        rw [← hl] at how ⊢
        exact ⟨_, _, rfl, how, hbl⟩

set_option maxHeartbeats 4000000 in
set_option maxRecDepth 100000 in
theorem rof_any (A : Option Addr) (n c : Nat) (xs : List Int) (w : World) (hx : Sl (Value.int .i64) w A n xs) (hb : n ≤ 100000) :
    Calls Try.prog 21 #[.slice A n c] w fun e w' => ∃ A' k c', e = .returned (.slice A' k c') ∧ Sl (Value.int .i64) w' A' k (setOf cmpI xs) ∧ Below w.heap.size w w' := by
  have HI := Lib.hid hx.len
  obtain ⟨wa, hwa⟩ : ∃ wa : World, wa = w := ⟨_, rfl⟩
  subst hwa
  go_enter Try.func21, Try.ntmps21
  go_wp2_with fail
  go_loopw [3, 4] (fun v i wr => ∃ (k m cb : Nat) (Ab : Option Addr), i = .int .i64 (k : Nat) ∧ k ≤ n ∧ v = .slice Ab m cb ∧
      Sl (Value.int .i64) wr Ab m (setOf cmpI (xs.take k)) ∧ Below wa.heap.size wa wr) (fun _ i _ => n - (intOf i).toNat)
  case atStart => exact ⟨0, 0, 0, none, rfl, Nat.zero_le _, rfl, Sl.nil _ _ _, Below.refl _ _⟩
  case round =>
    obtain ⟨k, m, cb, Ab, rfl, hk, rfl, hs, hbl⟩ := hrel
    have hsz := hbl.size
    by_cases hlt : k < n
    · have hx6 := hx.below (Nat.le_refl _) hbl
      have hkl : k < xs.length := by rw [HI.out]; exact hlt
      obtain ⟨bb, off, rfl, hbb, hc⟩ := hx6.at' (by omega)
      have g1 := hc k hlt
      clear hc hx6
      have hm : m ≤ 100000 := by
        have h1 := hs.len
        have h2 := setOf_length_le (c := cmpI) (xs.take k)
        rw [List.length_take] at h2
        omega
      have HS := Lib.hid (And.intro hs (And.intro hkl hm)); clear hs hkl hm
      go_wp2_with fail
      refine (rwith_any Ab m cb _ (nth xs k) _ HS.out.1 HS.out.2.2).mono ?_
      rintro e w1 ⟨A1, c1, rfl, how1, hb1⟩
      have hbl1 := hbl.trans (hb1.mono hsz)
      have hl : (ins cmpI (nth xs k) (setOf cmpI (xs.take k))).length ≤ 100001 := by
        have h1 := ins_length_le (c := cmpI) (nth xs k) (setOf cmpI (xs.take k))
        have h2 := HS.out.1.len
        have := HS.out.2.2
        omega
      generalize (ins cmpI (nth xs k) (setOf cmpI (xs.take k))).length = m1 at how1 hl ⊢
      have hs1 := how1.sl (by omega)
      rw [← setOf_snoc, ← take_snoc HS.out.2.1] at hs1
      clear how1 hb1 hl
      have HS1 := Lib.hid hs1; clear hs1
      go_wp2_with fail
      exact ⟨⟨k + 1, m1, c1, A1, by go_num, by omega, rfl, HS1.out, hbl1⟩, by simp [intOf]; omega⟩
    · obtain rfl : k = n := by omega
      rw [← HI.out, List.take_length] at hs
      go_wp2_with fail
      go_ret
      exact ⟨_, _, _, rfl, hs, hbl⟩
end Go.Proofs.Ytpacnpiiahchiaa
