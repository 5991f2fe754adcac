/- credencelaw16's same, has, small, alive, walked: alive tells true. Conditions: the lists read. -/
import Derived.Test.YtaibdlnolpbpiaaSmall
import Derived.Test.YtaibdlnolpbpiaaTrailAll
import Derived.Test.YtaibdlnolpbpiaaLawS3
import Derived.Deep.CutRange
namespace Go.Proofs.Ytaibdlnolpbpiaa
open Go.RowKit

set_option maxRecDepth 100000 in
set_option maxHeartbeats 800000 in
theorem same_law (A B : Option Addr) (n m c d : Nat) (xs ys : List Int) (w : World) (h : Sl (Value.int .i64) w A n xs) (k : Sl (Value.int .i64) w B m ys) :
    Calls Try.prog 34 #[.slice A n c, .slice B m d] w fun e w' => e = .returned (.bool (decide (xs = ys))) ∧ ∃ t, w' = w.drewN t := by
  have hbig := h.big
  have hbig2 := k.big
  have HI := Lib.hid (And.intro h.len k.len)
  obtain ⟨wa, hwa⟩ : ∃ wa : World, wa = w := ⟨_, rfl⟩
  subst hwa
  go_enter Try.func34, Try.ntmps34
  by_cases hnm : n = m
  · subst hnm
    go_wp2_with fail
    go_loopw [5] (fun i wr => ∃ j t : Nat, i = .int .i64 (j : Nat) ∧ j ≤ n ∧ xs.take j = ys.take j ∧ wr = wa.drewN t) (fun i _ => n - (intOf i).toNat)
    case atStart => exact ⟨0, 0, rfl, Nat.zero_le _, rfl, rfl⟩
    case round =>
      obtain ⟨j, t, rfl, hj, htk, hwr⟩ := hrel
      obtain ⟨wb, hwb⟩ : ∃ wb : World, wb = wr := ⟨_, rfl⟩
      subst hwb
      by_cases hlt : j < n
      · have h1 : Sl (Value.int .i64) wb A n xs := by rw [hwr]; exact h.drewN t
        have k1 : Sl (Value.int .i64) wb B n ys := by rw [hwr]; exact k.drewN t
        obtain ⟨b1, o1, rfl, _, hc1⟩ := h1.at' (by omega)
        obtain ⟨b2, o2, rfl, _, hc2⟩ := k1.at' (by omega)
        have g1 := hc1 j hlt
        have g2 := hc2 j hlt
        have hx : j < xs.length := by rw [HI.out.1]; exact hlt
        have hy : j < ys.length := by rw [HI.out.2]; exact hlt
        have hne : nth xs j ≠ nth ys j → xs ≠ ys := fun hn e => hn (by rw [e])
        have hsu : nth xs j = nth ys j → xs.take (j + 1) = ys.take (j + 1) := fun e => by rw [take_snoc hx, take_snoc hy, htk, e]
        have HS := Lib.hid (And.intro hne (And.intro hsu hwr)); clear hne hsu hwr htk hc1 hc2 h1 k1 hx hy
        have q1 : (0 : Int) ≤ (j : Nat) := by omega
        have q2 : ((j : Nat) : Int) < n := by omega
        generalize nth xs j = s at *
        generalize nth ys j = u at *
        by_cases hsu : s = u
        · subst hsu
          have HC := Lib.hid (HS.out.2.1 rfl)
          go_wp2_with fail
          go_quiet (fail)
          go_wp2_with fail
          exact ⟨⟨j + 1, t + nq, by go_num, by omega, HC.out, by rw [HS.out.2.2, World.drewN_drewN]⟩, by simp [intOf]; omega⟩
        · have hd : (s != u) = true := by simpa using hsu
          have HC := Lib.hid (decide_eq_false (HS.out.1 hsu))
          go_wp2_with fail
          go_quiet (fail)
          go_wp2_with fail
          go_ret
          exact ⟨ret_bool HC.out.symm, t + nq, by rw [HS.out.2.2, World.drewN_drewN]⟩
      · obtain rfl : j = n := by omega
        have HC := Lib.hid (show decide (xs = ys) = true by
          rw [take_all (by rw [HI.out.1]; exact Nat.le_refl _), take_all (by rw [HI.out.2]; exact Nat.le_refl _)] at htk
          exact decide_eq_true htk)
        have HW := Lib.hid hwr; clear htk hwr
        go_wp2_with fail
        go_ret
        exact ⟨ret_bool HC.out.symm, t, HW.out⟩
  · have hne : ¬ ((n : Nat) : Int) = ((m : Nat) : Int) := by omega
    have HC := Lib.hid (show decide (xs = ys) = false from decide_eq_false fun e => hnm (by rw [← HI.out.1, ← HI.out.2, e]))
    go_wp2_with fail
    go_ret
    exact ⟨ret_bool HC.out.symm, 0, rfl⟩
set_option maxRecDepth 100000 in
set_option maxHeartbeats 400000 in
theorem has_law (A : Option Addr) (n c : Nat) (xs : List Int) (x : Int) (w : World) (h : Sl (Value.int .i64) w A n xs) :
    Calls Try.prog 33 #[.slice A n c, .int .i64 x] w fun e w' => e = .returned (.bool (decide (x ∈ xs))) ∧ w' = w := by
  have hbig := h.big
  have HI := Lib.hid h.len
  obtain ⟨wa, hwa⟩ : ∃ wa : World, wa = w := ⟨_, rfl⟩
  subst hwa
  go_enter Try.func33, Try.ntmps33
  go_wp2_with fail
  go_loopw [5] (fun i wr => ∃ k : Nat, i = .int .i64 (k : Nat) ∧ k ≤ n ∧ (xs.take k).contains x = false ∧ wr = wa) (fun i _ => n - (intOf i).toNat)
  case atStart => exact ⟨0, rfl, Nat.zero_le _, rfl, rfl⟩
  case round =>
    obtain ⟨k, rfl, hk, hno, hwr⟩ := hrel
    have hwr := hwr.symm
    subst hwr
    by_cases hlt : k < n
    · obtain ⟨b, off, rfl, _, hc⟩ := h.at' (by omega)
      have g1 := hc k hlt
      have hkl : k < xs.length := by rw [HI.out]; exact hlt
      have hsn : (xs.take (k + 1)).contains x = (x == nth xs k) := by
        rw [take_snoc hkl]
        rw [Bool.eq_iff_iff, List.contains_iff_mem, List.mem_append, List.mem_singleton, beq_iff_eq]
        have : x ∉ xs.take k := fun hm => by rw [← List.contains_iff_mem] at hm; rw [hm] at hno; cases hno
        exact ⟨fun h => h.resolve_left this, .inr⟩
      have hyes : x = nth xs k → xs.contains x = true := fun e => by rw [List.contains_iff_mem, e]; exact nth_mem hkl
      have HS := Lib.hid (And.intro hsn hyes); clear hsn hyes hno hc hkl
      generalize nth xs k = s at *
      by_cases hs : s = x
      · subst hs
        have HC := Lib.hid (show decide (s ∈ xs) = true by rw [decide_eq_true_iff, ← List.contains_iff_mem]; exact HS.out.2 rfl)
        go_wp2_with fail
        go_ret
        exact ⟨ret_bool HC.out.symm, rfl⟩
      · have hs' : (s == x) = false := by simpa using hs
        go_wp2_with fail
        exact ⟨⟨k + 1, by go_num, by omega, by rw [HS.out.1]; simp; exact fun e => hs e.symm, trivial⟩, by simp [intOf]; omega⟩
    · obtain rfl : k = n := by omega
      have HC := Lib.hid (show decide (x ∈ xs) = false by rw [take_all (by rw [HI.out]; exact Nat.le_refl _)] at hno; rw [decide_eq_false_iff_not, ← List.contains_iff_mem, hno]; simp)
      clear hno
      go_wp2_with fail
      go_ret
      exact ⟨ret_bool HC.out.symm, rfl⟩


/-- a list that was typed out -/
theorem sl_lit (w : World) (xs : List Int) (hb : xs.length ≤ 140737488351232) : Sl (Value.int .i64) (w.alloc (.cells (xs.map (Value.int .i64)).toArray 3)) (some ⟨w.heap.size, 0, none⟩) xs.length xs := by
  have hr : RowAt (Value.int .i64) (w.alloc (.cells (xs.map (Value.int .i64)).toArray 3)) w.heap.size 3 xs [] := by
    have := RowC.new w 3 (xs.map (Value.int .i64))
    unfold RowAt; rw [List.append_nil]; exact this
  exact hr.sl hb
set_option maxRecDepth 100000 in
set_option maxHeartbeats 800000 in
theorem small_any (w : World) : Calls Try.prog 26 #[] w fun e w' => ∃ A, e = .returned (.slice A 5 5) ∧ Rows (Value.int .i64) w' A 5 smallP ∧ Below w.heap.size w w' := by
  obtain ⟨wa, hwa⟩ : ∃ wa : World, wa = w := ⟨_, rfl⟩
  subst hwa
  go_enter Try.func26, Try.ntmps26
  go_wp2_with fail
  go_ret
  have s1 : Sl (Value.int .i64) (wa.alloc (.cells #[.int .i64 0] 3)) (some ⟨wa.heap.size, 0, none⟩) 1 [0] := sl_lit wa [0] (by simp)
  have s2 : Sl (Value.int .i64) ((wa.alloc (.cells #[.int .i64 0] 3)).alloc (.cells #[.int .i64 0] 3)) (some ⟨wa.heap.size + 1, 0, none⟩) 1 [0] := by
    have := sl_lit (wa.alloc (.cells #[.int .i64 0] 3)) [0] (by simp)
    rw [show (wa.alloc (.cells #[.int .i64 0] 3)).heap.size = wa.heap.size + 1 by simp] at this
    exact this
  have s3 : Sl (Value.int .i64) (((wa.alloc (.cells #[.int .i64 0] 3)).alloc (.cells #[.int .i64 0] 3)).alloc (.cells #[.int .i64 1, .int .i64 2] 3)) (some ⟨wa.heap.size + 1 + 1, 0, none⟩) 2 [1, 2] := by
    have := sl_lit ((wa.alloc (.cells #[.int .i64 0] 3)).alloc (.cells #[.int .i64 0] 3)) [1, 2] (by simp)
    rw [show ((wa.alloc (.cells #[.int .i64 0] 3)).alloc (.cells #[.int .i64 0] 3)).heap.size = wa.heap.size + 1 + 1 by simp] at this
    exact this
  have s4 : Sl (Value.int .i64) ((((wa.alloc (.cells #[.int .i64 0] 3)).alloc (.cells #[.int .i64 0] 3)).alloc (.cells #[.int .i64 1, .int .i64 2] 3)).alloc (.cells #[.int .i64 3] 3)) (some ⟨wa.heap.size + 1 + 1 + 1, 0, none⟩) 1 [3] := by
    have := sl_lit (((wa.alloc (.cells #[.int .i64 0] 3)).alloc (.cells #[.int .i64 0] 3)).alloc (.cells #[.int .i64 1, .int .i64 2] 3)) [3] (by simp)
    rw [show (((wa.alloc (.cells #[.int .i64 0] 3)).alloc (.cells #[.int .i64 0] 3)).alloc (.cells #[.int .i64 1, .int .i64 2] 3)).heap.size = wa.heap.size + 1 + 1 + 1 by simp] at this
    exact this
  have hb : Below wa.heap.size wa ((((wa.alloc (.cells #[.int .i64 0] 3)).alloc (.cells #[.int .i64 0] 3)).alloc (.cells #[.int .i64 1, .int .i64 2] 3)).alloc (.cells #[.int .i64 3] 3)) :=
    ((((Below.refl wa.heap.size wa).alloc (Nat.le_refl _) _).alloc (by simp) _).alloc (by simp; omega) _).alloc (by simp; omega) _
  have s1 := ((s1.alloc (.cells #[.int .i64 0] 3)).alloc (.cells #[.int .i64 1, .int .i64 2] 3)).alloc (.cells #[.int .i64 3] 3)
  have s2 := (s2.alloc (.cells #[.int .i64 1, .int .i64 2] 3)).alloc (.cells #[.int .i64 3] 3)
  have s3 := s3.alloc (.cells #[.int .i64 3] 3)
  have hsz : ((((wa.alloc (.cells #[.int .i64 0] 3)).alloc (.cells #[.int .i64 0] 3)).alloc (.cells #[.int .i64 1, .int .i64 2] 3)).alloc (.cells #[.int .i64 3] 3)).heap.size = wa.heap.size + 4 := by simp
  generalize (((wa.alloc (.cells #[.int .i64 0] 3)).alloc (.cells #[.int .i64 0] 3)).alloc (.cells #[.int .i64 1, .int .i64 2] 3)).alloc (.cells #[.int .i64 3] 3) = wb at *
  have hr : RowAt eS (wb.alloc (.cells #[.slice none 0 0, .slice (some ⟨wa.heap.size, 0, none⟩) 1 1, .slice (some ⟨wa.heap.size + 1, 0, none⟩) 1 1, .slice (some ⟨wa.heap.size + 1 + 1, 0, none⟩) 2 2, .slice (some ⟨wa.heap.size + 1 + 1 + 1, 0, none⟩) 1 1] 23)) wb.heap.size 23
      [(none, 0, 0), (some ⟨wa.heap.size, 0, none⟩, 1, 1), (some ⟨wa.heap.size + 1, 0, none⟩, 1, 1), (some ⟨wa.heap.size + 1 + 1, 0, none⟩, 2, 2), (some ⟨wa.heap.size + 1 + 1 + 1, 0, none⟩, 1, 1)] [] := RowC.new wb 23 _
  rw [show wb.heap.size = wa.heap.size + 1 + 1 + 1 + 1 by omega] at hr
  refine ⟨_, rfl, ⟨⟨_, hr.sl (by simp), fun i hi => ?_⟩, rfl⟩, hb.alloc hb.size _⟩
  rcases (show i = 0 ∨ i = 1 ∨ i = 2 ∨ i = 3 ∨ i = 4 by omega) with rfl | rfl | rfl | rfl | rfl
  · exact ⟨Sl.nil _ _ _, Nat.le_refl _⟩
  · exact ⟨s1.alloc _, Nat.le_refl _⟩
  · exact ⟨s2.alloc _, Nat.le_refl _⟩
  · exact ⟨s3.alloc _, Nat.le_refl _⟩
  · exact ⟨s4.alloc _, Nat.le_refl _⟩
theorem alloc_size (w : World) (o : Obj) : (w.alloc o).heap.size = w.heap.size + 1 := by simp
set_option maxRecDepth 100000 in
set_option maxHeartbeats 1600000 in
theorem alive_any (w : World) : Calls Try.prog 27 #[] w fun e w' => e = .returned (.bool true) ∧ Below w.heap.size w w' := by
  obtain ⟨wa, hwa⟩ : ∃ wa : World, wa = w := ⟨_, rfl⟩
  subst hwa
  go_enter Try.func27, Try.ntmps27
  go_wp2_with fail
  refine (small_any _).mono ?_
  rintro e w1 ⟨A1, rfl, hR1, hb1⟩
  have hr1 := ((hR1.below (Nat.le_refl _) ((Below.refl w1.heap.size w1).alloc (Nat.le_refl _) (.cells #[.int .i64 1] 3))).below (Nat.le_refl _) ((Below.refl _ _).alloc (Nat.le_refl _) (.cells #[.int .i64 2] 3))).below (Nat.le_refl _) ((Below.refl _ _).alloc (Nat.le_refl _) (.cells #[.int .i64 0] 3))
  have x1 : Sl (Value.int .i64) (((w1.alloc (.cells #[.int .i64 1] 3)).alloc (.cells #[.int .i64 2] 3)).alloc (.cells #[.int .i64 0] 3)) (some ⟨w1.heap.size, 0, none⟩) 1 [1] := ((sl_lit w1 [1] (by simp)).alloc _).alloc _
  have x2 : Sl (Value.int .i64) (((w1.alloc (.cells #[.int .i64 1] 3)).alloc (.cells #[.int .i64 2] 3)).alloc (.cells #[.int .i64 0] 3)) (some ⟨w1.heap.size + 1, 0, none⟩) 1 [2] := by
    have := (sl_lit (w1.alloc (.cells #[.int .i64 1] 3)) [2] (by simp)).alloc (.cells #[.int .i64 0] 3)
    rw [alloc_size] at this; exact this
  have x3 : Sl (Value.int .i64) (((w1.alloc (.cells #[.int .i64 1] 3)).alloc (.cells #[.int .i64 2] 3)).alloc (.cells #[.int .i64 0] 3)) (some ⟨w1.heap.size + 1 + 1, 0, none⟩) 1 [0] := by
    have := sl_lit ((w1.alloc (.cells #[.int .i64 1] 3)).alloc (.cells #[.int .i64 2] 3)) [0] (by simp)
    rw [alloc_size, alloc_size] at this; exact this
  have hbw : Below wa.heap.size wa (((w1.alloc (.cells #[.int .i64 1] 3)).alloc (.cells #[.int .i64 2] 3)).alloc (.cells #[.int .i64 0] 3)) := ((hb1.alloc hb1.size _).alloc (by have := hb1.size; simp; omega) _).alloc (by have := hb1.size; simp; omega) _
  have HB := Lib.hid hbw
  clear hbw hb1 hR1
  go_wp2_with fail
  refine (apart_any A1 _ _ _ 5 5 1 1 1 1 1 1 smallP [1] [2] [0] _ hr1 x1 x2 x3 (by omega) (by omega) (by omega) (by omega) (by omega) (by omega)).mono ?_
  rintro e w2 ⟨rfl, hb2⟩
  rw [apart_1_2_0, small_look _ _ (by decide) (by decide)]
  have hbw := HB.out.trans (hb2.mono HB.out.size)
  have HB := Lib.hid hbw
  clear hbw hb2 hr1 x1 x2 x3
  go_wp2_with fail
  refine (small_any _).mono ?_
  rintro e w3 ⟨A1, rfl, hR1, hb1⟩
  have hbw := HB.out.trans (hb1.mono HB.out.size)
  have hr1 := ((hR1.below (Nat.le_refl _) ((Below.refl w3.heap.size w3).alloc (Nat.le_refl _) (.cells #[.int .i64 1] 3))).below (Nat.le_refl _) ((Below.refl _ _).alloc (Nat.le_refl _) (.cells #[.int .i64 2] 3))).below (Nat.le_refl _) ((Below.refl _ _).alloc (Nat.le_refl _) (.cells #[.int .i64 0, .int .i64 4] 3))
  have x1 : Sl (Value.int .i64) (((w3.alloc (.cells #[.int .i64 1] 3)).alloc (.cells #[.int .i64 2] 3)).alloc (.cells #[.int .i64 0, .int .i64 4] 3)) (some ⟨w3.heap.size, 0, none⟩) 1 [1] := ((sl_lit w3 [1] (by simp)).alloc _).alloc _
  have x2 : Sl (Value.int .i64) (((w3.alloc (.cells #[.int .i64 1] 3)).alloc (.cells #[.int .i64 2] 3)).alloc (.cells #[.int .i64 0, .int .i64 4] 3)) (some ⟨w3.heap.size + 1, 0, none⟩) 1 [2] := by
    have := (sl_lit (w3.alloc (.cells #[.int .i64 1] 3)) [2] (by simp)).alloc (.cells #[.int .i64 0, .int .i64 4] 3)
    rw [alloc_size] at this; exact this
  have x3 : Sl (Value.int .i64) (((w3.alloc (.cells #[.int .i64 1] 3)).alloc (.cells #[.int .i64 2] 3)).alloc (.cells #[.int .i64 0, .int .i64 4] 3)) (some ⟨w3.heap.size + 1 + 1, 0, none⟩) 2 [0, 4] := by
    have := sl_lit ((w3.alloc (.cells #[.int .i64 1] 3)).alloc (.cells #[.int .i64 2] 3)) [0, 4] (by simp)
    rw [alloc_size, alloc_size] at this; exact this
  have hbw : Below wa.heap.size wa (((w3.alloc (.cells #[.int .i64 1] 3)).alloc (.cells #[.int .i64 2] 3)).alloc (.cells #[.int .i64 0, .int .i64 4] 3)) := ((hbw.alloc hbw.size _).alloc (by have := hbw.size; simp; omega) _).alloc (by have := hbw.size; simp; omega) _
  have HB := Lib.hid hbw
  clear hbw hb1 hR1
  go_wp2_with fail
  refine (apart_any A1 _ _ _ 5 5 1 1 1 1 2 2 smallP [1] [2] [0, 4] _ hr1 x1 x2 x3 (by omega) (by omega) (by omega) (by omega) (by omega) (by omega)).mono ?_
  rintro e w4 ⟨rfl, hb2⟩
  rw [apart_1_2_04, small_look _ _ (by decide) (by decide)]
  have hbw := HB.out.trans (hb2.mono HB.out.size)
  have HB := Lib.hid hbw
  clear hbw hb2 hr1 x1 x2 x3
  go_wp2_with fail
  refine (small_any _).mono ?_
  rintro e w5 ⟨A1, rfl, hR1, hb1⟩
  have hbw := HB.out.trans (hb1.mono HB.out.size)
  have hr1 := hR1.below (Nat.le_refl _) ((Below.refl w5.heap.size w5).alloc (Nat.le_refl _) (.cells #[.int .i64 0, .int .i64 4] 3))
  have x3 : Sl (Value.int .i64) (w5.alloc (.cells #[.int .i64 0, .int .i64 4] 3)) (some ⟨w5.heap.size, 0, none⟩) 2 [0, 4] := sl_lit w5 [0, 4] (by simp)
  have hbw := hbw.alloc hbw.size (.cells #[.int .i64 0, .int .i64 4] 3)
  have HB := Lib.hid hbw
  clear hbw hb1 hR1
  go_wp2_with fail
  refine (trail_any A1 _ 5 5 2 2 smallP 1 2 [0, 4] _ hr1 x3 (by omega) (by omega)).mono ?_
  rintro e w6 ⟨X, q, r, rfl, hX, hb2⟩
  rw [small_look _ _ (by decide) (by decide)]
  rw [trail_1_2_04] at hX
  have hbw := HB.out.trans (hb2.mono HB.out.size)
  have hql := hX.length
  have hXs := hX.sl (by simp at hql; omega)
  have HB := Lib.hid (And.intro hbw hXs)
  clear hbw hb2 hr1 x3 hX hXs
  go_wp2_with fail
  refine (small_any _).mono ?_
  rintro e w7 ⟨A1, rfl, hR1, hb1⟩
  have hbw := HB.out.1.trans (hb1.mono HB.out.1.size)
  have hXs := HB.out.2.below (Nat.le_refl _) hb1
  have hr1 := (hR1.below (Nat.le_refl _) ((Below.refl w7.heap.size w7).alloc (Nat.le_refl _) (.cells #[.int .i64 1] 3))).below (Nat.le_refl _) ((Below.refl _ _).alloc (Nat.le_refl _) (.cells #[.int .i64 0] 3))
  have hXs := (hXs.alloc (.cells #[.int .i64 1] 3)).alloc (.cells #[.int .i64 0] 3)
  have x1 : Sl (Value.int .i64) ((w7.alloc (.cells #[.int .i64 1] 3)).alloc (.cells #[.int .i64 0] 3)) (some ⟨w7.heap.size, 0, none⟩) 1 [1] := (sl_lit w7 [1] (by simp)).alloc _
  have x3 : Sl (Value.int .i64) ((w7.alloc (.cells #[.int .i64 1] 3)).alloc (.cells #[.int .i64 0] 3)) (some ⟨w7.heap.size + 1, 0, none⟩) 1 [0] := by
    have := sl_lit (w7.alloc (.cells #[.int .i64 1] 3)) [0] (by simp)
    rw [alloc_size] at this; exact this
  have hbw := (hbw.alloc hbw.size (.cells #[.int .i64 1] 3)).alloc (by have := hbw.size; simp; omega) (.cells #[.int .i64 0] 3)
  have HB := Lib.hid (And.intro hbw hXs)
  clear hbw hb1 hR1 hXs
  go_wp2_with fail
  refine (tells_any A1 _ _ 5 5 1 1 1 1 smallP [1] [0] _ hr1 x1 x3 (by omega) (by omega)).mono ?_
  rintro e w8 ⟨hb2, Y, y1, y2, rfl, _, hY⟩
  have hY := hY (small_look _ _ (by decide) (by decide))
  rw [show castL (toldL (toG smallP) [0] (([1] : List Int).map Int.toNat)) = [1, 3, 4] from told_1_0] at hY
  rw [small_look _ _ (by decide) (by decide)]
  have hbw := HB.out.1.trans (hb2.mono HB.out.1.size)
  have hyl := hY.length
  have hYs := hY.sl (by simp at hyl; omega)
  have hXs := HB.out.2.below (Nat.le_refl _) hb2
  have HB := Lib.hid (And.intro hbw (And.intro hXs hYs))
  clear hbw hb2 hr1 x1 x3 hY hYs hXs
  go_wp2_with fail
  refine (small_any _).mono ?_
  rintro e w9 ⟨A1, rfl, hR1, hb1⟩
  have hbw := HB.out.1.trans (hb1.mono HB.out.1.size)
  have hXs := HB.out.2.1.below (Nat.le_refl _) hb1
  have hYs := HB.out.2.2.below (Nat.le_refl _) hb1
  have HB := Lib.hid (And.intro hbw (And.intro hXs hYs))
  clear hbw hb1 hXs hYs
  go_wp2_with fail
  refine (blanket_any A1 5 5 smallP 1 _ hR1 (by omega)).mono ?_
  rintro e w10 ⟨hb2, V, v1, v2, rfl, _, hV⟩
  have hV := hV (small_look _ _ (by decide) (by decide))
  rw [show castL (ptsOf smallP.length (Bl (toG smallP) (1 : Int).toNat)) = [0, 2, 3] from blanket_1] at hV
  rw [small_look _ _ (by decide) (by decide)]
  have hbw := HB.out.1.trans (hb2.mono HB.out.1.size)
  have hvl := hV.length
  have hVs := hV.sl (by simp at hvl; omega)
  have hXs := HB.out.2.1.below (Nat.le_refl _) hb2
  have hYs := HB.out.2.2.below (Nat.le_refl _) hb2
  have x1 : Sl (Value.int .i64) (w10.alloc (.cells #[.int .i64 1, .int .i64 3, .int .i64 2] 3)) (some ⟨w10.heap.size, 0, none⟩) 3 [1, 3, 2] := sl_lit w10 [1, 3, 2] (by simp)
  have hXs := hXs.alloc (.cells #[.int .i64 1, .int .i64 3, .int .i64 2] 3)
  have hYs := hYs.alloc (.cells #[.int .i64 1, .int .i64 3, .int .i64 2] 3)
  have hVs := hVs.alloc (.cells #[.int .i64 1, .int .i64 3, .int .i64 2] 3)
  have hbw := hbw.alloc hbw.size (.cells #[.int .i64 1, .int .i64 3, .int .i64 2] 3)
  have HB := Lib.hid (And.intro hbw (And.intro hYs hVs))
  clear hbw hb2 hR1 hYs hV hVs
  go_wp2_with fail
  refine (same_law X _ q 3 r 3 [1, 3, 2] [1, 3, 2] _ hXs x1).mono ?_
  rintro e w11 ⟨rfl, t1, rfl⟩
  have hbw := below_drewN HB.out.1 t1
  have hYs := HB.out.2.1.drewN t1
  have hVs := HB.out.2.2.drewN t1
  generalize hwx : (w10.alloc (.cells #[.int .i64 1, .int .i64 3, .int .i64 2] 3)).drewN t1 = wx at *
  clear hwx
  have x1 : Sl (Value.int .i64) (wx.alloc (.cells #[.int .i64 1, .int .i64 3, .int .i64 4] 3)) (some ⟨wx.heap.size, 0, none⟩) 3 [1, 3, 4] := sl_lit wx [1, 3, 4] (by simp)
  have hYs := hYs.alloc (.cells #[.int .i64 1, .int .i64 3, .int .i64 4] 3)
  have hVs := hVs.alloc (.cells #[.int .i64 1, .int .i64 3, .int .i64 4] 3)
  have hbw := hbw.alloc hbw.size (.cells #[.int .i64 1, .int .i64 3, .int .i64 4] 3)
  have HB := Lib.hid (And.intro hbw hVs)
  clear hbw hXs hVs
  rw [show decide (([1, 3, 2] : List Int) = [1, 3, 2]) = true from rfl]
  go_wp2_with fail
  refine (same_law Y _ y1 3 y2 3 [1, 3, 4] [1, 3, 4] _ hYs x1).mono ?_
  rintro e w12 ⟨rfl, t2, rfl⟩
  have hbw := below_drewN HB.out.1 t2
  have hVs := HB.out.2.drewN t2
  generalize hwx : (wx.alloc (.cells #[.int .i64 1, .int .i64 3, .int .i64 4] 3)).drewN t2 = wy at *
  clear hwx
  have x1 : Sl (Value.int .i64) (wy.alloc (.cells #[.int .i64 0, .int .i64 2, .int .i64 3] 3)) (some ⟨wy.heap.size, 0, none⟩) 3 [0, 2, 3] := sl_lit wy [0, 2, 3] (by simp)
  have hVs := hVs.alloc (.cells #[.int .i64 0, .int .i64 2, .int .i64 3] 3)
  have hbw := hbw.alloc hbw.size (.cells #[.int .i64 0, .int .i64 2, .int .i64 3] 3)
  have HB := Lib.hid hbw
  clear hbw hYs
  rw [show decide (([1, 3, 4] : List Int) = [1, 3, 4]) = true from rfl]
  go_wp2_with fail
  refine (same_law V _ v1 3 v2 3 [0, 2, 3] [0, 2, 3] _ hVs x1).mono ?_
  rintro e w13 ⟨rfl, t3, rfl⟩
  have HB := Lib.hid (below_drewN HB.out t3)
  clear hVs x1
  rw [show decide (([0, 2, 3] : List Int) = [0, 2, 3]) = true from rfl]
  go_wp2_with fail
  go_ret
  exact ⟨rfl, HB.out⟩
end Go.Proofs.Ytaibdlnolpbpiaa
