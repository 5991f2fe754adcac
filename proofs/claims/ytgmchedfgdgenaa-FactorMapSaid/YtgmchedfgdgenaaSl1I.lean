/- slices.Clone and slices.CompactFunc at int: walked. Conditions: the slice reads as a list, of a length that Go's bound lets in. -/
import Derived.Test.YtgmchedfgdgenaaCmpI
import Derived.Test.YtgmchedfgdgenaaLaws
import Derived.Test.YtgmchedfgdgenaaSetMath
import Derived.Outline
namespace Go.Proofs.Ytgmchedfgdgenaa
open Go.RowKit
namespace SoI

theorem info : (Try.prog.info? 3).map (fun i => (i.zero, i.size, i.bytes)) = some (some (.int .i64 0), 1, 8) := by kernel_rfl
theorem zero : ∀ w : World, (zeroValue 3).run Try.prog w = .ok (.int .i64 0) w := fun w => by kernel_rfl
theorem one (x : Int) : (Value.int .i64 x).oneCell' = true := rfl

set_option maxHeartbeats 400000 in
theorem clone_any (A : Option Addr) (n c : Nat) (xs : List Int) (w : World) (hx : Sl (Value.int .i64) w A n xs) (hb : n * 8 ≤ 140737488355328) :
    Calls Try.prog 32 #[.slice A n c] w fun e w' => ∃ A' c', e = .returned (.slice A' n c') ∧ OwnR (Value.int .i64) w' w.heap.size 3 A' n c' xs ∧ Below w.heap.size w w' := by
  obtain ⟨i0, hi, hz0, hz1, hz2⟩ := info_parts info
  have hbig := hx.big
  have q : ∀ (w : World) (a : Option Addr) (n c n' c' : Nat), (binOp .eql 22 (.slice a n c) (.slice none n' c')).run Try.prog w = .ok (.bool a.isNone) w := fun w a n c n' c' => Go.Lib.run_eql_slice_nil w _ _ a n c n' c' Try.underlying22
  rcases A with _ | ad
  · have hn : n = 0 := by
      rcases Nat.eq_zero_or_pos n with h0 | h0
      · exact h0
      · obtain ⟨b, off, e, _⟩ := hx.at' h0
        cases e
    subst hn
    obtain rfl : xs = [] := List.eq_nil_of_length_eq_zero hx.len
    clear hb hbig
    go_enter Try.func32, Try.ntmps32
    go_wp2_with fail
    go_ret
    exact ⟨none, 0, rfl, OwnR.nil _ _ _ _, Below.refl _ _⟩
  · go_enter Try.func32, Try.ntmps32
    have how : OwnR (Value.int .i64) (w.alloc (.cells #[] 3)) w.heap.size 3 (some ⟨w.heap.size, 0, none⟩) 0 0 [] :=
      OwnR.of_row (rest := []) (heap_alloc_new w _) (Nat.le_refl _) (by simp [maxLen])
    go_wp2_with (first
      | (at_builtin; refine wpList_append_sl _ (Value.int .i64) one rfl _ _ 22 rfl w.heap.size 3 i0 (.int .i64 0) 8 Try.underlying22 hi hz0 hz1 hz2 rfl _ _ _ _ rfl how _ _ _ _ rfl (hx.alloc _) ?c1 ?c2 ?c3 ?_)
      | fail)
    case c1 => unfold maxLen; omega
    case c2 => omega
    case c3 => simp
    intro A' c' w' how' hg hb' _
    go_wp2_with fail
    go_ret
    exact ⟨A', c', rfl, how', ((Below.refl _ _).alloc (Nat.le_refl _) _).trans hb'⟩

/-- the closure of set.Of -/
def eqb (a b : Int) : Bool := cmpI a b == 0
theorem eq_any (a b : Int) (w : World) : Calls Try.prog 65 #[Value.int .i64 a, Value.int .i64 b] w fun e w' => e = .returned (.bool (eqb a b)) ∧ w = w' := by
  go_enter Try.func65, Try.ntmps65
  go_wp2_with (go_at_call 63; refine (cmp_i _ _ _).mono ?_; rintro e w' ⟨rfl, rfl⟩)
  go_ret
  exact ⟨rfl, rfl⟩
theorem eq_q (a b : Int) (w : World) : Calls Try.prog 65 #[Value.int .i64 a, Value.int .i64 b] w fun e w' => e = .returned (.bool (eqb a b)) ∧ w' = w := (eq_any a b w).mono fun _ _ h => ⟨h.1, h.2.symm⟩

set_option maxRecDepth 100000 in
set_option maxHeartbeats 800000 in
theorem compact_row (g n c : Nat) (xs : List Int) (rest : List Value) (w : World) (hr : RowAt (Value.int .i64) w g 3 xs rest) (hn : xs.length = n) (hbig : n ≤ 140737488351232) (hnc : n ≤ c) (hc : c ≤ maxLen) :
    Calls Try.prog 64 #[.slice (some ⟨g, 0, none⟩) n c, .func (.func 65) #[] #[]] w fun e w' => ∃ k, e = .returned (.slice (some ⟨g, 0, none⟩) k c) ∧
      (∃ rest', RowAt (Value.int .i64) w' g 3 (dd eqb xs) rest' ∧ (dd eqb xs).length = k ∧ k + rest'.length = n + rest.length) ∧ w.grownBy w' (some g) := by
  unfold maxLen at hc
  have HN := Lib.hid hn; clear hn
  by_cases hn2 : n < 2
  · have hdd : dd eqb xs = xs := by
      have h0 := HN.out
      rcases xs with _ | ⟨x, _ | ⟨y, xs⟩⟩
      · rfl
      · rfl
      · simp at h0; omega
    have HD := Lib.hid hdd; clear hdd
    go_enter Try.func64, Try.ntmps64
    go_wp2_with fail
    go_ret
    exact ⟨n, rfl, ⟨rest, by rw [HD.out]; exact hr, by rw [HD.out, HN.out], rfl⟩, grown_refl _ _⟩
  · go_enter Try.func64, Try.ntmps64
    go_wp2_with fail
    go_loopw [5] (fun i wr => ∃ k : Nat, i = .int .i64 (k : Nat) ∧ 1 ≤ k ∧ k ≤ n ∧ dd eqb (xs.take k) = xs.take k ∧ RowAt (Value.int .i64) wr g 3 xs rest ∧ w.grownBy wr (some g)) (fun i _ => n - (intOf i).toNat)
    case atStart =>
      refine ⟨1, rfl, Nat.le_refl _, by omega, ?_, hr, grown_refl _ _⟩
      rcases xs with _ | ⟨x, xs⟩
      · rfl
      · simp [dd, ddF]
    case round =>
      obtain ⟨k, rfl, hk1, hk2, hdd, hrow, hg⟩ := hrel
      by_cases hlt : k < n
      · have hst := dd_step eqb xs k (by omega) (by rw [HN.out]; exact hlt)
        rw [hdd] at hst
        have HD := Lib.hid (And.intro hdd hst); clear hdd hst
        have c1 : wr.cell? ⟨g, k, none⟩ = some (Value.int .i64 (nth xs k)) := hrow.cell (by rw [HN.out]; exact hlt)
        have c2 : wr.cell? ⟨g, k - 1, none⟩ = some (Value.int .i64 (nth xs (k - 1))) := hrow.cell (by rw [HN.out]; omega)
        have hkc : k < c := by omega
        have hk0 : 0 < k := hk1
        go_wp2_with fail
        go_quiet ((go_at_call 65; exact Calls.quiet_of_same (eq_q _ _ _)))
        go_wp2_with fail
        · have heq : eqb (nth xs k) (nth xs (k - 1)) = true := by assumption
          have h0 : 1 ≤ n - k := by omega
          go_loopw [5, 7] (fun i j wq => ∃ (ii kk : Nat) (ys : List Int), i = .int .i64 (ii : Nat) ∧ j = .int .i64 (kk : Nat) ∧ 1 ≤ kk ∧ kk ≤ n - k ∧ k ≤ ii ∧ ii + 1 ≤ k + kk ∧
              ys.take ii = dd eqb (xs.take (k + kk)) ∧ ys.length = n ∧ (∀ j, k + kk ≤ j + 1 → nth ys j = nth xs j) ∧ RowAt (Value.int .i64) wq g 3 ys rest ∧ w.grownBy wq (some g)) (fun _ j _ => n - (intOf j).toNat)
          case atStart =>
            refine ⟨k, 1, xs, rfl, rfl, Nat.le_refl _, h0, Nat.le_refl _, Nat.le_refl _, ?_, HN.out, fun _ _ => rfl, hrow.drewN _, grown_drewN hg _⟩
            rw [HD.out.2, heq, if_pos rfl]
          case round =>
            obtain ⟨ii, kk, ys, rfl, rfl, hj1, hj2, hi1, hi2, htk, hyl, hsame, hrow, hg⟩ := hrel
            have HT := Lib.hid (And.intro htk (And.intro hyl hsame)); clear htk hyl hsame
            by_cases hlt2 : kk < n - k
            · have hst := dd_step eqb xs (k + kk) (by omega) (by rw [HN.out]; omega)
              have hkn : k + kk < n := by omega
              have hkk : 0 < kk := hj1
              have hin : ii < n := by omega
              have hjl : (kk : Int) < (n : Int) - (k : Int) := by omega
              have c1 : wr.cell? ⟨g, k + kk, none⟩ = some (Value.int .i64 (nth xs (k + kk))) := by
                rw [← HT.out.2.2 (k + kk) (by omega)]; exact hrow.cell (by rw [HT.out.2.1]; omega)
              have c2 : wr.cell? ⟨g, k + (kk - 1), none⟩ = some (Value.int .i64 (nth xs (k + (kk - 1)))) := by
                rw [← HT.out.2.2 (k + (kk - 1)) (by omega)]; exact hrow.cell (by rw [HT.out.2.1]; omega)
              have c3 : ∃ u, wr.cell? ⟨g, ii, none⟩ = some u := ⟨_, hrow.cell (by rw [HT.out.2.1]; omega)⟩
              obtain ⟨u, c3⟩ := c3
              have f1 := hrow.frozen ii
              rw [show k + kk - 1 = k + (kk - 1) from by omega] at hst
              generalize hx : nth xs (k + kk) = x at c1 hst
              generalize hy : nth xs (k + (kk - 1)) = y at c2 hst
              have HX := Lib.hid (And.intro hx (And.intro hy hst)); clear hx hy hst
              go_wp2_with fail
              go_quiet ((go_at_call 65; exact Calls.quiet_of_same (eq_q _ _ _)))
              go_wp2_with fail
              · have hne : eqb x y = false := by
                  have h : (!eqb x y) = true := by assumption
                  simpa using h
                have hH := HX.out.2.2
                rw [hne, if_neg (by simp)] at hH
                have hT := HT.out
                refine ⟨⟨ii + 1, kk + 1, ys.set ii x, by go_num, by go_num, by omega, by omega, by omega, by omega, ?_, by simpa using hT.2.1, ?_, ?_, ?_⟩, by simp [intOf]; omega⟩
                · rw [show k + (kk + 1) = k + kk + 1 from by omega, hH, ← hT.1, take_snoc (by simp; omega), nth_set_same (by omega), List.take_set_of_le (Nat.le_refl _)]
                · intro j hj
                  rw [nth_set_other (by omega)]
                  exact hT.2.2 j (by omega)
                · exact (hrow.drewN _).set (by omega) x
                · exact grown_setCell (grown_drewN hg _) _ _
              · have hne : eqb x y = true := by
                  have h : (!eqb x y) = false := by assumption
                  simpa using h
                have hH := HX.out.2.2
                rw [hne, if_pos rfl] at hH
                have hT := HT.out
                refine ⟨⟨ii, kk + 1, ys, rfl, by go_num, by omega, by omega, by omega, by omega, ?_, hT.2.1, ?_, hrow.drewN _, grown_drewN hg _⟩, by simp [intOf]; omega⟩
                · rw [show k + (kk + 1) = k + kk + 1 from by omega, hH, ← hT.1]
                · intro j hj
                  exact hT.2.2 j (by omega)
            · have hin : ii < n := by omega
              have hic : ii < c := by omega
              go_wp2_with (first
                | (refine wpList_clear_row _ (Value.int .i64) rfl _ _ rfl 3 (.int .i64 0) Try.underlying22 zero rfl rfl g ii (n - ii) _ rfl ys rest hrow (by have := HT.out.2.1; omega) ?_)
                | fail)
              intro w' hrow2 hg2
              go_wp2_with fail
              go_ret
              have hT := HT.out
              have hkk : k + kk = n := by omega
              have hxs : xs.take n = xs := List.take_of_length_le (by rw [HN.out]; exact Nat.le_refl _)
              rw [hkk, hxs] at hT
              refine ⟨ii, rfl, ⟨_, by rw [← hT.1]; exact hrow2, by rw [← hT.1]; simp; omega, by simp; omega⟩, grown_trans hg hg2⟩
        · have heq : eqb (nth xs k) (nth xs (k - 1)) = false := by assumption
          refine ⟨⟨k + 1, by go_num, by omega, by omega, ?_, hrow.drewN _, grown_drewN hg _⟩, by simp [intOf]; omega⟩
          rw [HD.out.2, heq, take_snoc (by rw [HN.out]; exact hlt)]
          rfl
      · obtain rfl : k = n := by omega
        go_wp2_with fail
        go_ret
        have he : dd eqb xs = xs := by
          have h := hdd
          rw [List.take_of_length_le (by rw [HN.out]; exact Nat.le_refl _)] at h
          exact h
        exact ⟨k, rfl, ⟨rest, by rw [he]; exact hrow, by rw [he, HN.out], rfl⟩, hg⟩
/-- slices.CompactFunc of a slice that the call owns -/
theorem compact_any (base : Nat) (A : Option Addr) (n c : Nat) (xs : List Int) (w : World) (h : OwnR (Value.int .i64) w base 3 A n c xs) (hbig : n ≤ 140737488351232) (hB : base ≤ w.heap.size) :
    Calls Try.prog 64 #[.slice A n c, .func (.func 65) #[] #[]] w fun e w' => ∃ k, e = .returned (.slice A k c) ∧ OwnR (Value.int .i64) w' base 3 A k c (dd eqb xs) ∧ Below base w w' := by
  rcases Nat.eq_zero_or_pos n with rfl | hn
  · obtain rfl : xs = [] := List.eq_nil_of_length_eq_zero h.length
    go_enter Try.func64, Try.ntmps64
    go_wp2_with fail
    go_ret
    exact ⟨0, rfl, h, Below.refl _ _⟩
  · obtain ⟨g, rest, rfl, hbg, hr, hcap⟩ := h.row hn
    refine (compact_row g n c xs rest w hr h.length hbig h.cap h.capmax).mono ?_
    rintro e w' ⟨k, rfl, ⟨rest', h1, h2, h3⟩, hg⟩
    exact ⟨k, rfl, OwnR.of_row' h1 hbg (by omega) h.capmax h2, grown_below hg hbg hB⟩
end SoI
end Go.Proofs.Ytgmchedfgdgenaa
