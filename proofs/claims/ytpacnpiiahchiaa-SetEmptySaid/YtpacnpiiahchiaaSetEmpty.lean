/- credencelaw11.SetEmpty, walked: it returns true. No condition. -/
import Derived.Test.YtpacnpiiahchiaaHeld
import Derived.Test.YtpacnpiiahchiaaLaw0
import Derived.Test.YtpacnpiiahchiaaInsI
import Derived.Test.YtpacnpiiahchiaaSet5I
import Derived.Test.YtpacnpiiahchiaaSet5S
import Derived.Deep.RegionHeld3
namespace Go.Proofs.Ytpacnpiiahchiaa.SetEmpty
open Go.RowKit

theorem has_b (A : Option Addr) (n c : Nat) (xs : List Int) (x : Int) (b : Bool) (w : World) (hb : isIn cmpI x xs = b) (hx : Sl (Value.int .i64) w A n xs) (ha : Asc cmpI xs) :
    Calls Try.prog 13 #[.agg #[.slice A n c], .int .i64 x] w fun e w' => e = .returned (.bool b) ∧ Below w.heap.size w w' :=
  (SoI.has_any A n c xs x w hx ha).mono fun _ _ h => ⟨by rw [h.1, hb], h.2⟩
theorem ints_b (A A' : Option Addr) (n c n' c' : Nat) (xs ys : List Int) (w : World) (hx : Sl (Value.int .i64) w A n xs) (hy : Sl (Value.int .i64) w A' n' ys) (h : xs = ys) :
    Calls Try.prog 15 #[.slice A n c, .slice A' n' c'] w fun e w' => e = .returned (.bool true) ∧ Below w.heap.size w w' :=
  (ints_any A A' n c n' c' xs ys w hx hy).mono fun _ _ ⟨h1, k, h2⟩ => ⟨by rw [h1, decide_eq_true h], by rw [h2]; exact below_refl_drewN _ _ _⟩
theorem same_b (A A' : Option Addr) (n m c c' : Nat) (w : World) (hn : n = 0) (hm : m = 0) :
    Calls Try.prog 17 #[.agg #[.slice A n c], .agg #[.slice A' m c']] w fun e w' => e = .returned (.bool true) ∧ Below w.heap.size w w' := by
  subst hn hm
  exact SoI.same_any A A' 0 0 c c' [] [] w (Sl.nil _ _ _) (Sl.nil _ _ _) List.Pairwise.nil List.Pairwise.nil (by omega)
theorem within_b (A A' : Option Addr) (c c' : Nat) (w : World) :
    Calls Try.prog 27 #[.agg #[.slice A 0 c], .agg #[.slice A' 0 c']] w fun e w' => e = .returned (.bool true) ∧ Below w.heap.size w w' :=
  SoS.within_any A A' 0 0 c c' [] [] w (Sl.nil _ _ _) (Sl.nil _ _ _) List.Pairwise.nil List.Pairwise.nil (by omega)

theorem with_3 (w : World) : Calls Try.prog 22 #[.agg #[.slice none 0 0], .int .i64 3] w fun e w' => ∃ A c, e = .returned (.agg #[.slice A 1 c]) ∧ Sl (Value.int .i64) w' A 1 [3] ∧ Below w.heap.size w w' := by
  refine (SoI.with_any none 0 0 [] 3 w (Sl.nil _ _ _) List.Pairwise.nil (by omega)).mono ?_
  rintro e w' ⟨A, k, c, rfl, hs, hb⟩
  have h1 : ins cmpI 3 [] = [3] := rfl
  rw [h1] at hs
  obtain rfl : k = 1 := hs.len.symm
  exact ⟨A, c, rfl, hs, hb⟩
theorem of_0 (w : World) : Calls Try.prog 11 #[.slice none 0 0] w fun e w' => ∃ A c, e = .returned (.agg #[.slice A 0 c]) ∧ Below w.heap.size w w' := by
  refine (SoI.of_any none 0 0 [] w (Sl.nil _ _ _) (by omega)).mono ?_
  rintro e w' ⟨A, k, c, rfl, how, hb⟩
  obtain rfl : k = 0 := how.length.symm
  exact ⟨A, c, rfl, hb⟩

set_option maxRecDepth 100000 in
set_option maxHeartbeats 4000000 in
theorem law (w : World) : Calls Try.prog 6 #[] w fun e w' => e = .returned (.bool true) ∧ Below w.heap.size w w' := by
  have H1 := ((Held.init w).new 25 [.slice none 0 0]).new 42 [.slice none 0 0]
  rw [show (w.alloc (.cells [Value.slice none 0 0].toArray 25)).heap.size = w.heap.size + 1 from by simp] at H1
  have hins : ins cmpI 3 [] = [3] := rfl
  have HI := Lib.hid hins; clear hins
  go_enter Try.func6, Try.ntmps6
  go_upto_region 3 with fail
  generalize w.heap.size + 1 = pt at *
  generalize hps : w.heap.size = ps at *
  have HP := Lib.hid hps; clear hps
  generalize (w.alloc (.cells #[.slice none 0 0] 25)).alloc (.cells #[.slice none 0 0] 42) = w2 at *
  have H2 := H1.drew
  clear H1
  have r0 := H2.has.2.1.cell 0
  have s0 := H2.has.1.cell 0
  go_region_held3 (fun w' => w'.cell? ⟨ps, 0, none⟩ = some (.slice none 0 0) ∧ w'.cell? ⟨pt, 0, none⟩ = some (.slice none 0 0)) (go_keep) (first
    | ((go_at_call 10); (refine (alive_any _).mono ?_); (rintro e w3 ⟨rfl, hb3⟩); (have H3 := H2.step hb3); (have r3 := H3.has.2.1.cell 0); (have s3 := H3.has.1.cell 0))
    | ((go_at_call 14); (refine (SoI.len_any none 0 0 _).mono ?_); (rintro e w4 ⟨rfl, hb4⟩); (have H4 := H3.step hb4); (have r4 := H4.has.2.1.cell 0); (have s4 := H4.has.1.cell 0))
    | ((go_at_call 12); (with_reducible refine (SoI.list_any none 0 0 [] _ (Sl.nil _ _ _) (by omega)).mono ?_); (rintro e w5 ⟨A5, c5, rfl, how5, hb5⟩); (have H5 := H4.step hb5); (have r5 := H5.has.2.1.cell 0); (have s5 := H5.has.1.cell 0))
    | ((go_at_call 13); (refine (has_b none 0 0 [] 0 false _ rfl (Sl.nil _ _ _) List.Pairwise.nil).mono ?_); (rintro e w6 ⟨rfl, hb6⟩); (have H6 := H5.step hb6); (have r6 := H6.has.2.1.cell 0); (have s6 := H6.has.1.cell 0); (have H6a := H6.alloc (.cells #[.int .i64 3] 3)); (have r6a := H6a.has.2.1.cell 0); (have s6a := H6a.has.1.cell 0); (have lit6 := Sl.one (enc := Value.int .i64) w6 3 (3 : Int)))
    | ((go_at_call 22); (refine (with_3 _).mono ?_); (rintro e w7 ⟨A7, c7, rfl, hs7, hb7⟩); (have H7 := (H6.step hb7).sl hs7); (have r7 := H7.has.2.2.1.cell 0); (have s7 := H7.has.2.1.cell 0); (have H7a := H7.alloc (.cells #[.int .i64 3] 3)); (have ra := H7a.has.2.2.1.cell 0); (have sa := H7a.has.2.1.cell 0); (have lit7 := Sl.one (enc := Value.int .i64) w7 3 (3 : Int)))
    | ((go_at_call 22); (refine (with_3 _).mono ?_); (rintro e w7 ⟨A7, c7, rfl, hs7, hb7⟩); (have H7c := ((H6a.step hb7).sl (lit6.below (Nat.le_refl _) hb7)).sl hs7); (have r7 := H7c.has.2.2.2.1.cell 0); (have s7 := H7c.has.2.2.1.cell 0))
    | ((go_at_call 12); (refine (SoI.list_any A7 1 c7 [3] _ H7.has.1 (by omega)).mono ?_); (rintro e w8 ⟨A8, c8, rfl, how8, hb8⟩); (have H8 := (H7.step hb8).sl (how8.sl (by omega))); (have r8 := H8.has.2.2.2.1.cell 0); (have s8 := H8.has.2.2.1.cell 0); (have H8a := H8.alloc (.cells #[.int .i64 3] 3)); (have r8a := H8a.has.2.2.2.1.cell 0); (have s8a := H8a.has.2.2.1.cell 0); (have lit8 := Sl.one (enc := Value.int .i64) w8 3 (3 : Int)))
    | ((go_at_call 12); (refine (SoI.list_any A7 1 c7 [3] _ H7a.has.1 (by omega)).mono ?_); (rintro e w8 ⟨A8, c8, rfl, how8, hb8⟩); (have H8b := (H7a.step hb8).sl (how8.sl (by omega))); (have r8 := H8b.has.2.2.2.1.cell 0); (have s8 := H8b.has.2.2.1.cell 0); (have lit8b := lit7.below (Nat.le_refl _) hb8))
    | ((go_at_call 12); (refine (SoI.list_any A7 1 c7 [3] _ H7c.has.1 (by omega)).mono ?_); (rintro e w8 ⟨A8, c8, rfl, how8, hb8⟩); (have H8c := (H7c.step hb8).sl (how8.sl (by omega))); (have r8 := H8c.has.2.2.2.2.1.cell 0); (have s8 := H8c.has.2.2.2.1.cell 0))
    | ((go_at_call 15); (refine (ints_b A8 _ 1 c8 1 1 [3] [3] _ H8c.has.1 H8c.has.2.2.1 rfl).mono ?_); (rintro e w9 ⟨rfl, hb9⟩); (have H9 := (H8c.step hb9).drop0.drop0.drop0); (have r9 := H9.has.2.1.cell 0); (have s9 := H9.has.1.cell 0))
    | ((go_at_call 15); (refine (ints_b A8 _ 1 c8 1 1 [3] [3] _ H8a.has.1 lit8 rfl).mono ?_); (rintro e w9 ⟨rfl, hb9⟩); (have H9 := (H8a.step hb9).drop0.drop0); (have r9 := H9.has.2.1.cell 0); (have s9 := H9.has.1.cell 0))
    | ((go_at_call 15); (refine (ints_b A8 _ 1 c8 1 1 [3] [3] _ H8b.has.1 lit8b rfl).mono ?_); (rintro e w9 ⟨rfl, hb9⟩); (have H9 := (H8b.step hb9).drop0.drop0); (have r9 := H9.has.2.1.cell 0); (have s9 := H9.has.1.cell 0))
    | ((go_at_call 11); (refine (of_0 _).mono ?_); (rintro e w10 ⟨A10, c10, rfl, hb10⟩); (have H10 := H9.step hb10); (have r10 := H10.has.2.1.cell 0); (have s10 := H10.has.1.cell 0))
    | ((go_at_call 17); (refine (same_b none A10 0 0 0 c10 _ rfl rfl).mono ?_); (rintro e w11 ⟨rfl, hb11⟩); (have H11 := H10.step hb11); (have r11 := H11.has.2.1.cell 0); (have s11 := H11.has.1.cell 0))
    | ((go_at_call 26); (refine (SoS.len_any none 0 0 _).mono ?_); (rintro e w12 ⟨rfl, hb12⟩); (have H12 := H11.step hb12); (have r12 := H12.has.2.1.cell 0); (have s12 := H12.has.1.cell 0))
    | ((go_at_call 27); (refine (within_b none none 0 0 _).mono ?_); (rintro e w13 ⟨rfl, hb13⟩); (have H13 := H12.step hb13); (have r13 := H13.has.2.1.cell 0); (have s13 := H13.has.1.cell 0)))
  all_goals
    go_wp2_with fail
    go_ret
    exact ⟨rfl, H13.bel⟩
end Go.Proofs.Ytpacnpiiahchiaa.SetEmpty
