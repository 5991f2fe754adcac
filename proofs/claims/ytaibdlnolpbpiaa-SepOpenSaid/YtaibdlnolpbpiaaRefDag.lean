/- credenceref14's Has, inside, twice, out, Check, walked: whether parents may be. Conditions: the parents read, within Go's bound. -/
import Derived.Test.YtaibdlnolpbpiaaFits
import Derived.Test.YtaibdlnolpbpiaaOwn
import Derived.Test.YtaibdlnolpbpiaaDag
namespace Go.Proofs.Ytaibdlnolpbpiaa
open Go.RowKit

set_option maxRecDepth 100000 in
set_option maxHeartbeats 400000 in
theorem has_ref (A : Option Addr) (n c : Nat) (xs : List Int) (x : Int) (w : World) (h : Sl (Value.int .i64) w A n xs) :
    Calls Try.prog 47 #[.slice A n c, .int .i64 x] w fun e w' => e = .returned (.bool (decide (x ∈ xs))) ∧ w' = w := by
  have hbig := h.big
  have HI := Lib.hid h.len
  obtain ⟨wa, hwa⟩ : ∃ wa : World, wa = w := ⟨_, rfl⟩
  subst hwa
  go_enter Try.func47, Try.ntmps47
  go_wp2_with fail
  go_loopw [5] (fun i wr => ∃ k : Nat, i = .int .i64 (k : Nat) ∧ k ≤ n ∧ (xs.take k).contains x = false ∧ wr = wa) (fun i _ => n - (intOf i).toNat)
  case atStart => exact ⟨0, rfl, Nat.zero_le _, rfl, rfl⟩
  case round =>
    obtain ⟨k, rfl, hk, hno, hwr⟩ := hrel
    have hwr := hwr.symm
    subst hwr
    by_cases hlt : k < n
    · obtain ⟨b, off, rfl, _, hc⟩ := h.at' (by omega)
      have g1 := hc k hlt
      have hkl : k < xs.length := by rw [HI.out]; exact hlt
      have hsn : (xs.take (k + 1)).contains x = (x == nth xs k) := by
        rw [take_snoc hkl]
        rw [Bool.eq_iff_iff, List.contains_iff_mem, List.mem_append, List.mem_singleton, beq_iff_eq]
        have : x ∉ xs.take k := fun hm => by rw [← List.contains_iff_mem] at hm; rw [hm] at hno; cases hno
        exact ⟨fun h => h.resolve_left this, .inr⟩
      have hyes : x = nth xs k → xs.contains x = true := fun e => by rw [List.contains_iff_mem, e]; exact nth_mem hkl
      have HS := Lib.hid (And.intro hsn hyes); clear hsn hyes hno hc hkl
      generalize nth xs k = s at *
      by_cases hs : s = x
      · subst hs
        have HC := Lib.hid (show decide (s ∈ xs) = true by rw [decide_eq_true_iff, ← List.contains_iff_mem]; exact HS.out.2 rfl)
        go_wp2_with fail
        go_ret
        exact ⟨ret_bool HC.out.symm, rfl⟩
      · have hs' : (s == x) = false := by simpa using hs
        go_wp2_with fail
        exact ⟨⟨k + 1, by go_num, by omega, by rw [HS.out.1]; simp; exact fun e => hs e.symm, trivial⟩, by simp [intOf]; omega⟩
    · obtain rfl : k = n := by omega
      have HC := Lib.hid (show decide (x ∈ xs) = false by rw [take_all (by rw [HI.out]; exact Nat.le_refl _)] at hno; rw [decide_eq_false_iff_not, ← List.contains_iff_mem, hno]; simp)
      clear hno
      go_wp2_with fail
      go_ret
      exact ⟨ret_bool HC.out.symm, rfl⟩

set_option maxRecDepth 100000 in
set_option maxHeartbeats 400000 in
theorem inside_ref (A : Option Addr) (n c : Nat) (Ps : List (List Int)) (w : World) (h : Rows (Value.int .i64) w A n Ps) :
    Calls Try.prog 77 #[.slice A n c] w fun e w' => e = .returned (.bool (inR Ps)) ∧ w' = w := by
  have hbig := h.big
  have HI := Lib.hid h.len
  obtain ⟨wa, hwa⟩ : ∃ wa : World, wa = w := ⟨_, rfl⟩
  subst hwa
  go_enter Try.func77, Try.ntmps77
  go_wp2_with fail
  go_loopw [3] (fun i wr => ∃ k : Nat, i = .int .i64 (k : Nat) ∧ k ≤ n ∧ (Ps.take k).all (inRow n) = true ∧ wr = wa) (fun i _ => n - (intOf i).toNat)
  case atStart => exact ⟨0, rfl, Nat.zero_le _, by simp, rfl⟩
  case round =>
    obtain ⟨k, rfl, hk, hall, hwr⟩ := hrel
    have hwr := hwr.symm
    subst hwr
    by_cases hlt : k < n
    · obtain ⟨b, off, B, m, d, rfl, _, g1, hrow⟩ := h.row hlt
      have hbm := hrow.big
      have HL := Lib.hid (And.intro hrow.len hall); clear hall
      go_wp2_with fail
      go_loopw [4] (fun j wr => ∃ q : Nat, j = .int .i64 (q : Nat) ∧ q ≤ m ∧ inRow n ((nth Ps k).take q) = true ∧ wr = wa) (fun j _ => m - (intOf j).toNat)
      case atStart => exact ⟨0, rfl, Nat.zero_le _, by simp [inRow], rfl⟩
      case round =>
        obtain ⟨q, rfl, hq, hin, hwr⟩ := hrel
        have hwr := hwr.symm
        subst hwr
        by_cases hqm : q < m
        · obtain ⟨b2, off2, rfl, _, hc⟩ := hrow.at' (by omega)
          have g2 := hc q hqm
          have hbad : ¬ (0 ≤ nth (nth Ps k) q ∧ nth (nth Ps k) q < (n : Int)) → inR Ps = false := fun hb => by
            refine all_down _ (by rw [HI.out]; exact hlt) (all_down _ (k := q) (by rw [HL.out.1]; exact hqm) ?_)
            rw [HI.out]
            simp only [Bool.and_eq_false_iff, decide_eq_false_iff_not]; omega
          have hsn : inRow n ((nth Ps k).take (q + 1)) = (inRow n ((nth Ps k).take q) && (decide (0 ≤ nth (nth Ps k) q) && decide (nth (nth Ps k) q < (n : Int)))) := all_take_succ _ (by rw [HL.out.1]; exact hqm)
          rw [hin, Bool.true_and] at hsn
          have HS := Lib.hid (And.intro hbad hsn); clear hbad hsn hc hin
          generalize hs : nth (nth Ps k) q = s at *
          have HE := Lib.hid hs; clear hs
          by_cases hs0 : s < 0
          · have HC := Lib.hid (HS.out.1 (by omega))
            go_wp2_with fail
            go_ret
            exact ⟨ret_bool HC.out.symm, rfl⟩
          · by_cases hs1 : (n : Int) ≤ s
            · have HC := Lib.hid (HS.out.1 (by omega))
              go_wp2_with fail
              go_ret
              exact ⟨ret_bool HC.out.symm, rfl⟩
            · have HC := Lib.hid (show inRow n ((nth Ps k).take (q + 1)) = true by rw [HS.out.2]; simp; omega)
              go_wp2_with fail
              exact ⟨⟨q + 1, by go_num, by omega, HC.out, trivial⟩, by simp [intOf]; omega⟩
        · obtain rfl : q = m := by omega
          have HC := Lib.hid (show (Ps.take (k + 1)).all (inRow n) = true by
            rw [all_take_succ _ (by rw [HI.out]; exact hlt), HL.out.2]
            rw [take_all (by rw [HL.out.1]; exact Nat.le_refl _)] at hin
            simpa using hin)
          clear hin
          go_wp2_with fail
          exact ⟨⟨k + 1, by go_num, by omega, HC.out, trivial⟩, by simp [intOf]; omega⟩
    · obtain rfl : k = n := by omega
      have HC := Lib.hid (show inR Ps = true by unfold inR; rw [HI.out]; rw [take_all (by rw [HI.out]; exact Nat.le_refl _)] at hall; exact hall)
      clear hall
      go_wp2_with fail
      go_ret
      exact ⟨ret_bool HC.out.symm, rfl⟩

theorem Sl.cut {α : Type} [Inhabited α] {enc : α → Value} {w : World} {A : Option Addr} {n : Nat} {xs : List α} (h : Sl enc w A n xs) {k : Nat} (hk : k ≤ n) : Sl enc w A k (xs.take k) :=
  ⟨by rw [List.length_take, h.len]; omega, by have := h.big; omega, fun hp => by
    obtain ⟨b, off, e, hlt, hc⟩ := h.at' (by omega)
    exact ⟨b, off, e, hlt, fun j hj => by rw [hc j (by omega), nth_take hj]⟩⟩

set_option maxRecDepth 100000 in
set_option maxHeartbeats 1600000 in
theorem twice_ref (A : Option Addr) (n c : Nat) (Ps : List (List Int)) (w : World) (h : Rows (Value.int .i64) w A n Ps) :
    Calls Try.prog 78 #[.slice A n c] w fun e w' => e = .returned (.bool (Ps.any dup)) ∧ ∃ d, w' = w.drewN d := by
  have hbig := h.big
  have HI := Lib.hid h.len
  obtain ⟨wa, hwa⟩ : ∃ wa : World, wa = w := ⟨_, rfl⟩
  subst hwa
  go_enter Try.func78, Try.ntmps78
  go_wp2_with fail
  go_loopw [3] (fun i wr => ∃ k t : Nat, i = .int .i64 (k : Nat) ∧ k ≤ n ∧ (Ps.take k).any dup = false ∧ wr = wa.drewN t) (fun i _ => n - (intOf i).toNat)
  case atStart => exact ⟨0, 0, rfl, Nat.zero_le _, by simp, rfl⟩
  case round =>
    obtain ⟨k, t, rfl, hk, hany, hwr⟩ := hrel
    by_cases hlt : k < n
    · obtain ⟨b, off, B, m, d, rfl, _, g0, hrow0, hmd⟩ := h.rowC hlt
      have g1 : wr.cell? ⟨b, off + k, none⟩ = some (.slice B m d) := by rw [hwr]; exact g0
      have hbm := hrow0.big
      have HL := Lib.hid (And.intro hrow0.len (And.intro hrow0 (And.intro g0 (And.intro hwr hany)))); clear hrow0 g0 hwr hany
      go_wp2_with fail
      go_loopw [4] (fun j wx => ∃ q u : Nat, j = .int .i64 (q : Nat) ∧ q ≤ m ∧ dupTo (nth Ps k) q = false ∧ wx = wa.drewN u) (fun j _ => m - (intOf j).toNat)
      case atStart => exact ⟨0, t, rfl, Nat.zero_le _, rfl, HL.out.2.2.2.1⟩
      case round =>
        clear g1
        obtain ⟨q, u, rfl, hq, hdup, hwx⟩ := hrel
        obtain ⟨wb, hwb⟩ : ∃ wb : World, wb = wr := ⟨_, rfl⟩
        subst hwb
        have g1 : wb.cell? ⟨b, off + k, none⟩ = some (.slice B m d) := by rw [hwx]; exact HL.out.2.2.1
        by_cases hqm : q < m
        · have hrow : Sl (Value.int .i64) wb B m (nth Ps k) := by rw [hwx]; exact HL.out.2.1.drewN u
          have hcut := hrow.cut (k := q) hq
          obtain ⟨b2, off2, rfl, _, hc⟩ := hrow.at' (by omega)
          have g2 := hc q hqm
          have hda : dupAt (nth Ps k) q = decide (nth (nth Ps k) q ∈ (nth Ps k).take q) := by unfold dupAt; rw [Bool.eq_iff_iff, List.contains_iff_mem, decide_eq_true_iff]
          have hsn := dupTo_succ (nth Ps k) q
          rw [hdup, Bool.false_or, hda] at hsn
          have hbad : decide (nth (nth Ps k) q ∈ (nth Ps k).take q) = true → Ps.any dup = true := fun hb => any_upp _ (by rw [HI.out]; exact hlt) (dup_up (by rw [HL.out.1]; exact hqm) (hda.trans hb))
          have HS := Lib.hid (And.intro hsn (And.intro hbad (And.intro hcut hwx))); clear hsn hbad hcut hwx hda hc hdup hrow
          have q1 : (0 : Int) ≤ (k : Nat) := by omega
          have q2 : ((k : Nat) : Int) < n := by omega
          have q3 : (0 : Int) ≤ (q : Nat) := by omega
          have q4 : ((q : Nat) : Int) < m := by omega
          have q5 : ((q : Nat) : Int) ≤ d := by omega
          have q6 : q ≤ d := by omega
          generalize nth (nth Ps k) q = s at *
          generalize (nth Ps k).take q = l at *
          by_cases hmem : s ∈ l
          · have HC := Lib.hid (HS.out.2.1 (by simpa using hmem))
            go_wp2_with fail
            go_quiet ((go_at_call 47; exact Calls.quiet_of_same (has_ref _ _ _ l _ _ (HS.out.2.2.1.drewN _))))
            go_wp2_with fail
            go_ret
            exact ⟨ret_bool HC.out.symm, u + nq, by rw [HS.out.2.2.2, World.drewN_drewN]⟩
          · have HC := Lib.hid (show dupTo (nth Ps k) (q + 1) = false by rw [HS.out.1]; simpa using hmem)
            go_wp2_with fail
            go_quiet ((go_at_call 47; exact Calls.quiet_of_same (has_ref _ _ _ l _ _ (HS.out.2.2.1.drewN _))))
            go_wp2_with fail
            exact ⟨⟨q + 1, u + nq, by go_num, by omega, HC.out, by rw [HS.out.2.2.2, World.drewN_drewN]⟩, by simp [intOf]; omega⟩
        · obtain rfl : q = m := by omega
          have HC := Lib.hid (show (Ps.take (k + 1)).any dup = false by
            rw [any_take_succ _ (by rw [HI.out]; exact hlt), HL.out.2.2.2.2, Bool.false_or]
            unfold dup; rw [HL.out.1]; exact hdup)
          have HW := Lib.hid hwx; clear hwx hdup
          go_wp2_with fail
          exact ⟨⟨k + 1, u, by go_num, by omega, HC.out, HW.out⟩, by simp [intOf]; omega⟩
    · obtain rfl : k = n := by omega
      have HC := Lib.hid (show Ps.any dup = false by have := hany; rw [take_all (by rw [HI.out]; exact Nat.le_refl _)] at this; exact this)
      have HW := Lib.hid hwr; clear hwr hany
      go_wp2_with fail
      go_ret
      exact ⟨ret_bool HC.out.symm, t, HW.out⟩
end Go.Proofs.Ytaibdlnolpbpiaa
