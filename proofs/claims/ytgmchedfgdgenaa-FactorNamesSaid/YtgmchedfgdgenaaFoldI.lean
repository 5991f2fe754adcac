/- ring.fold and ring.Sum at int, walked. Condition: the things may be added. -/
import Derived.Test.YtgmchedfgdgenaaLast
import Derived.Test.YtgmchedfgdgenaaRingI
import Derived.Deep.RegionHeld3
namespace Go.Proofs.Ytgmchedfgdgenaa
open Go.RowKit
attribute [local go_sem] Oper.semAt_some

theorem isNilT_i (w : World) : (binOp .eql 73 (.iface 41 (.agg #[])) .nilIface).run Try.prog w = .ok (.bool false) w := by kernel_rfl
theorem aheadAdd_i (w : World) : (nilAhead 280 41 (.agg #[]) "Add").run Try.prog w = .ok (some false) w := by kernel_rfl
theorem methodAdd_i (w : World) : (method 280 41 (.agg #[]) "Add").run Try.prog w = .ok (116, .agg #[]) w := by kernel_rfl
theorem aheadZero_i (w : World) : (nilAhead 280 41 (.agg #[]) "Zero").run Try.prog w = .ok (some false) w := by kernel_rfl
theorem methodZero_i (w : World) : (method 280 41 (.agg #[]) "Zero").run Try.prog w = .ok (120, .agg #[]) w := by kernel_rfl
/-- the sum of some, from the left -/
def foldF_i (x : Int) (L : List Int) : Int := L.foldl addF_i x
def FoldOk_i (x : Int) (L : List Int) : Prop := ∀ k, k < L.length → AddOk_i (foldF_i x (L.take k)) (nth L k)
theorem foldF_succ_i {x : Int} {L : List Int} {k : Nat} (h : k < L.length) : foldF_i x (L.take (k + 1)) = addF_i (foldF_i x (L.take k)) (nth L k) := by
  unfold foldF_i; rw [take_snoc h, List.foldl_append]; rfl
set_option maxRecDepth 100000 in
set_option maxHeartbeats 400000 in
theorem fold_i (x : Int) (A : Option Addr) (n c : Nat) (L : List Int) (w : World) (h : Sl (Value.int .i64) w A n L) (hok : FoldOk_i x L) :
    Calls Try.prog 93 #[Value.int .i64 x, .slice A n c, .func (.method "Add") #[.iface 41 (.agg #[])] #[]] w fun e w' => e = .returned (Value.int .i64 (foldF_i x L)) ∧ Below w.heap.size w w' := by
  have H0 := (Held.init w).sl h
  have HL := Lib.hid (And.intro h.len hok)
  have hbig := h.big
  clear h hok
  go_enter Try.func93, Try.ntmps93
  go_wp2_with fail
  go_loopw [0, 11] (fun x' i wr => ∃ k : Nat, k ≤ n ∧ i = .int .i64 k ∧ x' = Value.int .i64 (foldF_i x (L.take k)) ∧ Held w (fun w' => Sl (Value.int .i64) w' A n L ∧ True) wr) (fun _ i _ => n - (intOf i).toNat)
  case atStart => exact ⟨0, Nat.zero_le _, rfl, rfl, H0⟩
  case round =>
    obtain ⟨k, hk, rfl, rfl, H⟩ := hrel
    clear H0
    by_cases hlt : k < n
    · obtain ⟨b, off, rfl, hb, hc⟩ := H.has.1.at' (by omega)
      have g1 := hc k hlt
      clear hc
      have hna := aheadAdd_i
      have hme := methodAdd_i
      go_wp2_with fail
      refine (addC_i _ _ _ (HL.out.2 k (by rw [HL.out.1]; exact hlt))).mono ?_
      rintro e w1 ⟨rfl, hb1⟩
      rw [← foldF_succ_i (by rw [HL.out.1]; exact hlt)]
      have HB := Lib.hid (H.step hb1)
      clear H g1 hb1 hna hme
      go_wp2_with fail
      exact ⟨⟨k + 1, by omega, by go_num, rfl, HB.out⟩, by simp [intOf]; omega⟩
    · obtain rfl : k = n := by omega
      have HB := Lib.hid H.bel
      clear H
      go_wp2_with fail
      go_ret
      have he : foldF_i x (L.take k) = foldF_i x L := by rw [List.take_of_length_le (by rw [HL.out.1]; exact Nat.le_refl _)]
      exact ⟨show Ending.returned (Value.int .i64 (foldF_i x (L.take k))) = _ from by rw [he], HB.out⟩
set_option maxRecDepth 100000 in
set_option maxHeartbeats 400000 in
theorem sum_i (A : Option Addr) (n c : Nat) (L : List Int) (w : World) (h : Sl (Value.int .i64) w A n L) (hok : FoldOk_i zeroF_i L) :
    Calls Try.prog 72 #[.iface 41 (.agg #[]), .slice A n c] w fun e w' => e = .returned (Value.int .i64 (foldF_i zeroF_i L)) ∧ Below w.heap.size w w' := by
  have H0 := (Held.init w).sl h
  have HD := Lib.hid H0.drew
  clear h H0
  have hni := isNilT_i
  have hna := aheadAdd_i
  have hnz := aheadZero_i
  have hmz := methodZero_i
  go_enter Try.func72, Try.ntmps72
  go_wp2_with fail
  go_region_held3 (fun _ => True) (first | trivial | assumption | go_keep)
    (first
      | ((go_at_call 120); (with_reducible refine (zeroC_i _).mono ?_); (rintro e w1 ⟨rfl, hb1⟩); (have H1 := HD.out.step hb1))
      | ((go_at_call 93); (with_reducible refine (fold_i _ A n c L _ H1.has.1 hok).mono ?_); (rintro e w2 ⟨rfl, hb2⟩); (have H2 := H1.step hb2)))
  all_goals (go_wp2_with fail; go_ret; exact ⟨rfl, H2.bel⟩)
end Go.Proofs.Ytgmchedfgdgenaa
