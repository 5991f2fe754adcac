/- dag.heap's pop, walked. Conditions: the heap's cell and its row are the call's own; there is something in it. -/
import Derived.Test.YtaibdlnolpbpiaaHeap
namespace Go.Proofs.Ytaibdlnolpbpiaa
open Go.RowKit

theorem pop_perm {L : List Nat} {m : Nat} (h : L.length = m + 1) : L.Perm (nth L 0 :: (L.set 0 (nth L m)).take m) := by
  cases L with
  | nil => simp at h
  | cons x T =>
    have hT : T.length = m := by simpa using h
    have e0 : nth (x :: T) 0 = x := rfl
    rw [e0, List.set_cons_zero]
    cases m with
    | zero => obtain rfl := List.eq_nil_of_length_eq_zero hT; simp
    | succ k =>
      have e1 : nth (x :: T) (k + 1) = nth T k := rfl
      rw [e1, List.take_succ_cons]
      refine List.Perm.cons _ ?_
      have h2 := take_snoc (xs := T) (k := k) (by omega)
      rw [List.take_of_length_le (by omega)] at h2
      exact (List.Perm.of_eq h2).trans List.perm_append_comm
theorem index_arr0 (a b : Int) (w : World) : (Instr.index 118 (.agg #[.int .i64 a, .int .i64 b]) (.int .i64 0)).run Try.prog w = .ok (.int .i64 a) w := by kernel_rfl
theorem index_arr1 (a b : Int) (w : World) : (Instr.index 118 (.agg #[.int .i64 a, .int .i64 b]) (.int .i64 1)).run Try.prog w = .ok (.int .i64 b) w := by kernel_rfl
theorem take_swap_perm {M : List Nat} {i j m : Nat} (hi : i < m) (hj : j < m) (hm : m ≤ M.length) : ((swapL M i j).take m).Perm (M.take m) := by
  have h1 : (swapL M i j).take m = swapL (M.take m) i j := by
    unfold swapL
    rw [List.take_set, List.take_set, nth_take hj, nth_take hi]
  rw [h1]
  exact swapL_perm (by rw [List.length_take]; omega) (by rw [List.length_take]; omega)
theorem RowAt.shorter {w : World} {g : Nat} {e : TypeId} {M : List Nat} {rest : List Value} (h : RowAt eN w g e M rest) (m : Nat) : RowAt eN w g e (M.take m) ((M.drop m).map eN ++ rest) := by
  unfold RowAt at h ⊢
  rw [h, ← List.append_assoc, ← List.map_append, List.take_append_drop]

set_option maxRecDepth 100000 in
set_option maxHeartbeats 4000000 in
theorem pop_any (hb : Nat) (A : Option Addr) (m c : Nat) (L : List Nat) (w : World) (h1 : RowC w hb 105 [.slice A (m + 1) c]) (h2 : OwnR eN w (hb + 1) 3 A (m + 1) c L) (hm : (m + 1) * 8 ≤ 140737488355328) :
    Calls Try.prog 99 #[.pointer (some ⟨hb, 0, none⟩)] w fun e w' => ∃ (x : Nat) (L' : List Nat), e = .returned (.int .i64 (x : Int)) ∧ RowC w' hb 105 [.slice A m c] ∧ OwnR eN w' (hb + 1) 3 A m c L' ∧ L.Perm (x :: L') ∧
      Turn w w' (fun b => b = hb ∨ A = some ⟨b, 0, none⟩) := by
  obtain ⟨wa, hwa⟩ : ∃ wa : World, wa = w := ⟨_, rfl⟩
  subst hwa
  have r0 := h1.cell 0
  have f0 := h1.frozen 0
  have hl := h2.length
  have hcm := h2.capmax
  obtain ⟨g, rest, rfl, hbg, hr, hcr⟩ := h2.row (by omega)
  have g0 := hr.cell (j := 0) (by omega)
  have gm := hr.cell (j := m) (by omega)
  have fg := hr.frozen 0
  have hr2 := (hr.set (j := 0) (by omega) (nth L m)).far (p := ⟨hb, 0, none⟩) (by simp; omega) (.slice (some ⟨g, 0, none⟩) m c)
  have hC2 := (h1.far (p := ⟨g, 0, none⟩) (by simp; omega) (eN (nth L m))).put 0 (.slice (some ⟨g, 0, none⟩) m c)
  have hT2 : Turn wa ((wa.setCell ⟨g, 0, none⟩ (eN (nth L m))).setCell ⟨hb, 0, none⟩ (.slice (some ⟨g, 0, none⟩) m c)) (fun b => b = hb ∨ (some ⟨g, 0, none⟩ : Option Addr) = some ⟨b, 0, none⟩) :=
    ((Turn.refl _ _).setCell _ (fun _ => .inr rfl) _).setCell _ (fun _ => .inl rfl) _
  have hcap : m ≤ c := by omega
  have HH := Lib.hid (And.intro hl (And.intro hr2 (And.intro hC2 (And.intro hT2 (And.intro hcr hcm))))); clear hl hr2 hC2 hT2 hr h1 h2 hcr hcm
  generalize hx0 : nth L 0 = x0 at *
  generalize hxm : nth L m = xm at *
  have HX := Lib.hid (And.intro hx0 hxm); clear hx0 hxm
  have hgb : ¬ hb = g := by omega
  have hgb' : ¬ g = hb := by omega
  have hi0 := index_arr0
  have hi1 := index_arr1
  go_enter Try.func99, Try.ntmps99
  go_wp2_with fail
  generalize (wa.setCell ⟨g, 0, none⟩ (.int .i64 (xm : Int))).setCell ⟨hb, 0, none⟩ (.slice (some ⟨g, 0, none⟩) m c) = wx at *
  clear r0 f0 g0 gm fg
  go_loopw [6] (fun i wr => ∃ (k : Nat) (M : List Nat), i = .int .i64 (k : Nat) ∧ k ≤ m ∧ M.length = m + 1 ∧ (M.take m).Perm ((L.set 0 xm).take m) ∧ RowC wr hb 105 [.slice (some ⟨g, 0, none⟩) m c] ∧ RowAt eN wr g 3 M rest ∧ Turn wa wr (fun b => b = hb ∨ (some ⟨g, 0, none⟩ : Option Addr) = some ⟨b, 0, none⟩)) (fun i _ => m - (intOf i).toNat)
  case atStart => exact ⟨0, L.set 0 xm, rfl, Nat.zero_le _, by simpa using HH.out.1, List.Perm.refl _, HH.out.2.2.1, HH.out.2.1, HH.out.2.2.2.1⟩
  case round =>
    obtain ⟨k, M, rfl, hk, hlen, hperm, hrc, hra, hturn⟩ := hrel
    obtain ⟨wb, hwb⟩ : ∃ wb : World, wb = wr := ⟨_, rfl⟩
    subst hwb
    have HL := Lib.hid (And.intro hlen (And.intro hperm (And.intro hrc (And.intro hra hturn)))); clear hlen hperm hrc hturn hra
    go_wp2_with fail
    go_loopw [7, 38] (fun l j wr => ∃ (q s d : Nat), j = .int .i64 (q : Nat) ∧ l = .int .i64 (s : Nat) ∧ q ≤ 2 ∧ (s = k ∨ (k < s ∧ s < m)) ∧ wr = wb.drewN d) (fun _ j _ => 2 - (intOf j).toNat)
    case atStart => exact ⟨0, k, 0, rfl, rfl, by omega, .inl rfl, rfl⟩
    case round =>
      obtain ⟨q, s, d, rfl, rfl, hq, hs, hwr⟩ := hrel
      have hra : RowAt eN wr g 3 M rest := by rw [hwr]; exact HL.out.2.2.2.1.drewN d
      have HW := Lib.hid hwr; clear hwr
      rcases (show q = 0 ∨ q = 1 ∨ q = 2 from by omega) with rfl | rfl | rfl
      · -- the child at 2 * k + 1
        by_cases hkm : 2 * k + 1 < m
        · have q1 : (2 * (k : Nat) + 1 : Int) < ((m : Nat) : Int) := by omega
          have q2 : decide ((2 * (k : Nat) + 1 : Int) < ((m : Nat) : Int)) = true := by simpa using q1
          have q3 : (0 : Int) ≤ (2 * (k : Nat) + 1 : Int) := by omega
          have q4 : (2 * (k : Nat) + 1 : Int).toNat = 2 * k + 1 := by omega
          have q5 : ((s : Nat) : Int) < ((m : Nat) : Int) := by omega
          have q6 : (0 : Int) ≤ ((s : Nat) : Int) := by omega
          have g1 := hra.cell (j := 2 * k + 1) (by rw [HL.out.1]; omega)
          have g2 := hra.cell (j := s) (by rw [HL.out.1]; omega)
          clear hra
          generalize ht : nth M (2 * k + 1) = t at *
          generalize hu : nth M s = u at *
          by_cases htu : t < u
          · have htu' : decide ((t : Int) < (u : Int)) = true := by simp; omega
            go_wp2_with fail
            go_quiet (fail)
            go_wp2_with fail
            exact ⟨⟨0+1, 2 * k + 1, d + nq, rfl, by go_num, by omega, .inr (by omega), by rw [HW.out, World.drewN_drewN]⟩, by simp [intOf]⟩
          · have htu' : decide ((t : Int) < (u : Int)) = false := by simp; omega
            go_wp2_with fail
            go_quiet (fail)
            go_wp2_with fail
            exact ⟨⟨0+1, s, d + nq, rfl, rfl, by omega, hs, by rw [HW.out, World.drewN_drewN]⟩, by simp [intOf]⟩
        · have q2 : decide ((2 * (k : Nat) + 1 : Int) < ((m : Nat) : Int)) = false := by simp; omega
          clear hra
          go_wp2_with fail
          go_quiet (fail)
          go_wp2_with fail
          exact ⟨⟨0+1, s, d + nq, rfl, rfl, by omega, hs, by rw [HW.out, World.drewN_drewN]⟩, by simp [intOf]⟩
      · -- the child at 2 * k + 2
        by_cases hkm : 2 * k + 2 < m
        · have q1 : (2 * (k : Nat) + 2 : Int) < ((m : Nat) : Int) := by omega
          have q2 : decide ((2 * (k : Nat) + 2 : Int) < ((m : Nat) : Int)) = true := by simpa using q1
          have q3 : (0 : Int) ≤ (2 * (k : Nat) + 2 : Int) := by omega
          have q4 : (2 * (k : Nat) + 2 : Int).toNat = 2 * k + 2 := by omega
          have q5 : ((s : Nat) : Int) < ((m : Nat) : Int) := by omega
          have q6 : (0 : Int) ≤ ((s : Nat) : Int) := by omega
          have g1 := hra.cell (j := 2 * k + 2) (by rw [HL.out.1]; omega)
          have g2 := hra.cell (j := s) (by rw [HL.out.1]; omega)
          clear hra
          generalize ht : nth M (2 * k + 2) = t at *
          generalize hu : nth M s = u at *
          by_cases htu : t < u
          · have htu' : decide ((t : Int) < (u : Int)) = true := by simp; omega
            go_wp2_with fail
            go_quiet (fail)
            go_wp2_with fail
            exact ⟨⟨1+1, 2 * k + 2, d + nq, rfl, by go_num, by omega, .inr (by omega), by rw [HW.out, World.drewN_drewN]⟩, by simp [intOf]⟩
          · have htu' : decide ((t : Int) < (u : Int)) = false := by simp; omega
            go_wp2_with fail
            go_quiet (fail)
            go_wp2_with fail
            exact ⟨⟨1+1, s, d + nq, rfl, rfl, by omega, hs, by rw [HW.out, World.drewN_drewN]⟩, by simp [intOf]⟩
        · have q2 : decide ((2 * (k : Nat) + 2 : Int) < ((m : Nat) : Int)) = false := by simp; omega
          clear hra
          go_wp2_with fail
          go_quiet (fail)
          go_wp2_with fail
          exact ⟨⟨1+1, s, d + nq, rfl, rfl, by omega, hs, by rw [HW.out, World.drewN_drewN]⟩, by simp [intOf]⟩
      · -- both looked at
        have hrc : RowC wr hb 105 [.slice (some ⟨g, 0, none⟩) m c] := by rw [HW.out]; exact HL.out.2.2.1.drewN d
        have hturn : Turn wa wr (fun b => b = hb ∨ (some ⟨g, 0, none⟩ : Option Addr) = some ⟨b, 0, none⟩) := by rw [HW.out]; exact HL.out.2.2.2.2.drewN d
        by_cases hsk : s = k
        · subst hsk
          have HF := Lib.hid (And.intro hrc (And.intro hturn hra)); clear hrc hturn hra
          go_wp2_with fail
          go_ret
          have hlen := HL.out.1
          have hcr := HH.out.2.2.2.2.1
          refine ⟨x0, rfl, HF.out.1, M.take m, OwnR.of_row' (HF.out.2.2.shorter m) hbg (by simp; omega) HH.out.2.2.2.2.2 (by simp; omega), ?_, by simpa using HF.out.2.1⟩
          have hp := pop_perm HH.out.1
          rw [HX.out.1, HX.out.2] at hp
          exact hp.trans (List.Perm.cons _ HL.out.2.1.symm)
        · have hks : k < s ∧ s < m := by omega
          have hsk' : ¬ ((s : Nat) : Int) = ((k : Nat) : Int) := by omega
          have q5 : ((s : Nat) : Int) < ((m : Nat) : Int) := by omega
          have q7 : ((k : Nat) : Int) < ((m : Nat) : Int) := by omega
          have hlen := HL.out.1
          have g1 := hra.cell (j := k) (by omega)
          have g2 := hra.cell (j := s) (by omega)
          have f1 := hra.frozen k
          have f2 := hra.frozen s
          have HF := Lib.hid (And.intro hrc (And.intro hturn (And.intro hra hlen))); clear hrc hturn hra hlen
          generalize ht : nth M k = t at *
          generalize hu : nth M s = u at *
          have HE := Lib.hid (And.intro ht hu); clear ht hu
          go_wp2_with fail
          go_region
          go_wp2_with fail
          obtain ⟨h1, h2, h3, h4⟩ := HF.out
          have hw1 := (h3.set (j := k) (by omega) u).set (j := s) (by simp; omega) t
          refine ⟨⟨s, swapL M k s, rfl, by omega, by rw [swapL_length]; exact h4, (take_swap_perm (by omega) (by omega) (by omega)).trans HL.out.2.1, ?_, ?_, ?_⟩, by simp [intOf]; omega⟩
          · exact (h1.far (by simp; omega) _).far (by simp; omega) _
          · unfold swapL; rw [HE.out.1, HE.out.2]; exact hw1
          · exact (h2.setCell _ (fun _ => .inr rfl) _).setCell _ (fun _ => .inr rfl) _ |>.drew
end Go.Proofs.Ytaibdlnolpbpiaa
