/- slices.symMergeCmpFunc at int, walked: it merges two sorted neighbours of a row that the call owns, stably. Conditions: both pieces lie in the row, none is empty. -/
import Derived.Test.YtdlnglffimcopaaSort1I
import Derived.Outline
namespace Go.Proofs.Ytdlnglffimcopaa
open Go.RowKit
namespace SoI

/-- what the call owes, at one merge -/
def SymAt (g : Nat) (P L R Q : List Z) (rest : List Value) (w : World) : Ending → World → Prop := fun e w' =>
  e = .returned (.tuple #[]) ∧ (∃ S, Merged lt L R S ∧ RowAt enc w' g 3 (P ++ S ++ Q) rest) ∧ w.grownBy w' (some g)

set_option maxRecDepth 100000 in
set_option maxHeartbeats 800000 in
theorem sym_one (hs : Swo lt) (g n c : Nat) (ai mi bi : Int) (a m b : Nat) (x : Z) (P R Q : List Z) (rest : List Value) (w : World) (ea : ai = a) (em : mi = m) (eb : bi = b)
    (hr : RowAt enc w g 3 (P ++ [x] ++ R ++ Q) rest)
    (hn : (P ++ [x] ++ R ++ Q).length = n) (hbig : n ≤ 140737488351232) (ha : P.length = a) (hm : P.length + 1 = m) (hb : P.length + 1 + R.length = b)
    (hR : 0 < R.length) (hsR : Srt lt R) (hah : Ahead [x] R) :
    Calls Try.prog 116 #[.slice (some ⟨g, 0, none⟩) n c, .int .i64 ai, .int .i64 mi, .int .i64 bi, .func (.func 81) #[] #[]] w (SymAt g P [x] R Q rest w) := by
  subst ea em eb
  have hbn : b ≤ n := by simp at hn; omega
  have h1 : ((m : Int) - (a : Int) == 1) = true := beq_iff_eq.2 (by omega)
  have hmb : m ≤ b := by omega
  have ham : a < m := by omega
  have HA := Lib.hid (And.intro ha (And.intro hm (And.intro hb hn))); clear ha hm hb hn
  go_enter Try.func116, Try.ntmps116
  go_wp2
  go_loopw [10, 11] (fun i j wr => ∃ (ii jj : Nat), i = .int .i64 (ii : Nat) ∧ j = .int .i64 (jj : Nat) ∧ m ≤ ii ∧ ii ≤ jj ∧ jj ≤ b ∧ RowAt enc wr g 3 (P ++ [x] ++ R ++ Q) rest ∧ w.grownBy wr (some g) ∧
      (∀ t, t < ii - m → lt (nth R t).1 x.1) ∧ (∀ t, jj - m ≤ t → t < R.length → ¬ lt (nth R t).1 x.1)) (fun i j _ => (intOf j).toNat - (intOf i).toNat)
  case atStart => exact ⟨m, b, rfl, rfl, Nat.le_refl _, hmb, Nat.le_refl _, hr, grown_refl _ _, by intro t ht; omega, by intro t ht ht'; have := HA.out; omega⟩
  case round =>
    obtain ⟨ii, jj, rfl, rfl, hi1, hij, hj1, hrow0, hg0, hlo, hhi⟩ := hrel
    have HLO := Lib.hid hlo; clear hlo
    have HHI := Lib.hid hhi; clear hhi
    by_cases hlt : ii < jj
    · obtain ⟨h, hh⟩ : ∃ h : Nat, ((ii : Int) + (jj : Int)) / 2 = (h : Int) := ⟨(ii + jj) / 2, by omega⟩
      have hh1 : ii ≤ h := by omega
      have hh2 : h < jj := by omega
      have hhn : h < n := by omega
      have han : a < n := by omega
      have c1 : wr.cell? ⟨g, h, none⟩ = some (Value.int .i64 (nth R (h - m)).1) := by
        have h1 := hrow0.cell (j := h) (by have := HA.out; omega)
        rwa [List.append_assoc (P ++ [x]), nth_append_right (by have := HA.out; simp; omega), nth_append_left (by have := HA.out; simp; omega),
          show h - (P ++ [x]).length = h - m from by have := HA.out; simp; omega] at h1
      have c2 : wr.cell? ⟨g, a, none⟩ = some (Value.int .i64 x.1) := by
        have h1 := hrow0.cell (j := a) (by have := HA.out; omega)
        rwa [List.append_assoc (P ++ [x]), List.append_assoc P, List.singleton_append, nth_mid (by have := HA.out; omega)] at h1
      generalize hy : nth R (h - m) = y at c1
      have HY := Lib.hid hy; clear hy
      go_wp2
      go_quiet ((go_at_call 81; exact Calls.quiet_of_same (cmp_q _ _ _)))
      go_wp2
      · have hc : cmpI y.1 x.1 < 0 := by assumption
        refine ⟨⟨h + 1, jj, by go_num, rfl, by omega, by omega, hj1, hrow0.drewN _, grown_drewN hg0 _, ?_, HHI.out⟩, by simp [intOf]; omega⟩
        intro t ht
        have hsx : ∀ t, t < h - m → lt (nth R t).1 x.1 := by
          intro t ht
          have hp := nth_pair hsR (i := t) (j := h - m) ht (by have := HA.out; omega)
          rw [HY.out] at hp
          have hyx : zlt lt y x := .inl hc
          exact (zlt_late (hah x (by simp) _ (nth_mem (by have := HA.out; omega)))).1 (zlt_trans hs hp hyx)
        by_cases e : t < h - m
        · exact hsx t e
        · obtain rfl : t = h - m := by omega
          rw [HY.out]; exact hc
      · have hc : ¬ cmpI y.1 x.1 < 0 := Int.not_lt.2 (by assumption)
        refine ⟨⟨ii, h, rfl, by go_num, hi1, hh1, by omega, hrow0.drewN _, grown_drewN hg0 _, HLO.out, ?_⟩, by simp [intOf]; omega⟩
        intro t ht ht'
        by_cases e : t = h - m
        · subst e; rw [HY.out]; exact hc
        · intro hlt'
          have hp := nth_pair hsR (i := h - m) (j := t) (by omega) ht'
          rw [HY.out] at hp
          have hyx : zlt lt (nth R t) x := .inl hlt'
          have hym : y ∈ R := by rw [← HY.out]; exact nth_mem (by omega)
          exact hc ((zlt_late (hah x (by simp) _ hym)).1 (zlt_trans hs hp hyx))
    · obtain rfl : ii = jj := by omega
      have hLo := HLO.out
      have hHi := HHI.out
      have hS : Merged lt [x] R (R.take (ii - m) ++ x :: R.drop (ii - m)) := by
        refine ⟨?_, ?_⟩
        · refine List.perm_middle.trans ?_
          rw [List.take_append_drop]; exact List.Perm.refl _
        · have hRR : Srt lt (R.take (ii - m) ++ R.drop (ii - m)) := by rw [List.take_append_drop]; exact hsR
          refine Srt.append hRR.left (List.pairwise_cons.2 ⟨?_, hRR.right⟩) ?_
          · intro u hu
            obtain ⟨t, ht, rfl⟩ := mem_nth hu
            rw [nth_drop]
            simp only [List.length_drop] at ht
            exact zlt_early (hah x (by simp) _ (nth_mem (by omega))) (hHi _ (by omega) (by omega))
          · intro u hu v hv
            have hux : zlt lt u x := by
              obtain ⟨t, ht, rfl⟩ := mem_nth hu
              simp only [List.length_take] at ht
              rw [nth_take (by omega)]
              exact .inl (hLo t (by omega))
            rcases List.mem_cons.1 hv with rfl | hv
            · exact hux
            · exact hRR.cross u hu v hv
      have HS := Lib.hid hS; clear hS hLo hHi HLO HHI
      have hiR : ii - m ≤ R.length := by have := HA.out; omega
      have hi0 : 1 ≤ ii := by omega
      go_wp2
      go_loopw [13] (fun k wr => ∃ (kk : Nat), k = .int .i64 (kk : Nat) ∧ a ≤ kk ∧ kk ≤ ii - 1 ∧
          RowAt enc wr g 3 (P ++ R.take (kk - a) ++ x :: (R.drop (kk - a) ++ Q)) rest ∧ w.grownBy wr (some g)) (fun k _ => ii - (intOf k).toNat)
      case atStart => exact ⟨a, rfl, Nat.le_refl _, by omega, by simpa using hrow0, hg0⟩
      case round =>
        obtain ⟨kk, rfl, hk1, hk2, hrow, hg⟩ := hrel
        by_cases hlt : kk < ii - 1
        · have hkR : kk - a < R.length := by have := HA.out; omega
          rw [List.drop_eq_getElem_cons hkR, ← nth_eq hkR] at hrow
          generalize hy : nth R (kk - a) = y at hrow
          have HY := Lib.hid hy; clear hy
          have hrow2 : RowAt enc wr g 3 ((P ++ R.take (kk - a)) ++ x :: y :: (R.drop (kk - a + 1) ++ Q)) rest := by simpa using hrow
          have hpl : (P ++ R.take (kk - a)).length = kk := by have := HA.out; simp; omega
          have hlen : kk + 1 < ((P ++ R.take (kk - a)) ++ x :: y :: (R.drop (kk - a + 1) ++ Q)).length := by
            rw [List.length_append, hpl]; simp
          have c1 : wr.cell? ⟨g, kk, none⟩ = some (Value.int .i64 x.1) := by
            have h := hrow2.cell (j := kk) (by omega)
            rwa [nth_mid hpl.symm] at h
          have c2 : wr.cell? ⟨g, kk + 1, none⟩ = some (Value.int .i64 y.1) := by
            have h := hrow2.cell (j := kk + 1) (by omega)
            rwa [nth_mid1 (by omega)] at h
          have f1 := hrow2.frozen kk
          have f2 := hrow2.frozen (kk + 1)
          have hkn : kk + 1 < n := by omega
          have hlt' : (kk : Int) < (ii : Int) - 1 := by omega
          have HQ := Lib.hid (And.intro hpl hlen); clear hpl hlen hrow
          go_wp2
          go_region
          go_wp2
          refine ⟨⟨kk + 1, by go_num, by omega, by omega, ?_, ?_⟩, by simp [intOf]; omega⟩
          · have h1 := (hrow2.set (j := kk) (by have := HQ.out.2; omega) y).set (j := kk + 1) (by have := HQ.out.2; rw [List.length_set]; omega) x
            rw [set_mid' HQ.out.1.symm] at h1
            rw [show kk + 1 - a = kk - a + 1 from by omega, take_snoc hkR, HY.out]
            have h2 := h1.drew
            simpa [enc] using h2
          · exact grown_drew (grown_setCell (grown_setCell hg _ _) _ _)
        · have hge : ¬ (kk : Int) < (ii : Int) - 1 := by omega
          go_wp2
          go_end0
          refine ⟨rfl, ⟨_, HS.out, ?_⟩, hg⟩
          rw [show ii - m = kk - a from by have := HA.out; omega]
          simpa using hrow

set_option maxRecDepth 100000 in
set_option maxHeartbeats 800000 in
theorem sym_two (hs : Swo lt) (g n c : Nat) (ai mi bi : Int) (a m b : Nat) (x : Z) (P L Q : List Z) (rest : List Value) (w : World) (ea : ai = a) (em : mi = m) (eb : bi = b)
    (hr : RowAt enc w g 3 (P ++ L ++ [x] ++ Q) rest)
    (hn : (P ++ L ++ [x] ++ Q).length = n) (hbig : n ≤ 140737488351232) (ha : P.length = a) (hm : P.length + L.length = m) (hb : P.length + L.length + 1 = b)
    (hL : 1 < L.length) (hsL : Srt lt L) (hah : Ahead L [x]) :
    Calls Try.prog 116 #[.slice (some ⟨g, 0, none⟩) n c, .int .i64 ai, .int .i64 mi, .int .i64 bi, .func (.func 81) #[] #[]] w (SymAt g P L [x] Q rest w) := by
  subst ea em eb
  have hbn : b ≤ n := by simp at hn; omega
  have h1 : ((m : Int) - (a : Int) == 1) = false := beq_eq_false_iff_ne.2 (by omega)
  have h2 : ((b : Int) - (m : Int) == 1) = true := beq_iff_eq.2 (by omega)
  have hmb : m < b := by omega
  have ham : a < m := by omega
  have HA := Lib.hid (And.intro ha (And.intro hm (And.intro hb hn))); clear ha hm hb hn
  go_enter Try.func116, Try.ntmps116
  go_wp2
  go_loopw [14, 15] (fun i j wr => ∃ (ii jj : Nat), i = .int .i64 (ii : Nat) ∧ j = .int .i64 (jj : Nat) ∧ a ≤ ii ∧ ii ≤ jj ∧ jj ≤ m ∧ RowAt enc wr g 3 (P ++ L ++ [x] ++ Q) rest ∧ w.grownBy wr (some g) ∧
      (∀ t, t < ii - a → ¬ lt x.1 (nth L t).1) ∧ (∀ t, jj - a ≤ t → t < L.length → lt x.1 (nth L t).1)) (fun i j _ => (intOf j).toNat - (intOf i).toNat)
  case atStart => exact ⟨a, m, rfl, rfl, Nat.le_refl _, by omega, Nat.le_refl _, hr, grown_refl _ _, by intro t ht; omega, by intro t ht ht'; have := HA.out; omega⟩
  case round =>
    obtain ⟨ii, jj, rfl, rfl, hi1, hij, hj1, hrow0, hg0, hlo, hhi⟩ := hrel
    have HLO := Lib.hid hlo; clear hlo
    have HHI := Lib.hid hhi; clear hhi
    by_cases hlt : ii < jj
    · obtain ⟨h, hh⟩ : ∃ h : Nat, ((ii : Int) + (jj : Int)) / 2 = (h : Int) := ⟨(ii + jj) / 2, by omega⟩
      have hh1 : ii ≤ h := by omega
      have hh2 : h < jj := by omega
      have hhn : h < n := by omega
      have han : m < n := by omega
      have c1 : wr.cell? ⟨g, h, none⟩ = some (Value.int .i64 (nth L (h - a)).1) := by
        have h1 := hrow0.cell (j := h) (by have := HA.out; omega)
        rwa [List.append_assoc (P ++ L), List.append_assoc P, nth_append_right (by have := HA.out; omega), nth_append_left (by have := HA.out; omega),
          show h - P.length = h - a from by have := HA.out; omega] at h1
      have c2 : wr.cell? ⟨g, m, none⟩ = some (Value.int .i64 x.1) := by
        have h1 := hrow0.cell (j := m) (by have := HA.out; omega)
        rwa [List.append_assoc (P ++ L), List.singleton_append, nth_mid (by have := HA.out; simp; omega)] at h1
      generalize hy : nth L (h - a) = y at c1
      have HY := Lib.hid hy; clear hy
      have hyL : y ∈ L := by rw [← HY.out]; exact nth_mem (by have := HA.out; omega)
      go_wp2
      go_quiet ((go_at_call 81; exact Calls.quiet_of_same (cmp_q _ _ _)))
      go_wp2
      rotate_left
      · have hc : lt x.1 y.1 := by
          have h : (!decide (cmpI x.1 y.1 < 0)) = false := by assumption
          unfold lt; simpa using h
        refine ⟨⟨ii, h, rfl, by go_num, hi1, hh1, by omega, hrow0.drewN _, grown_drewN hg0 _, HLO.out, ?_⟩, by simp [intOf]; omega⟩
        intro t ht ht'
        by_cases e : t = h - a
        · subst e; rw [HY.out]; exact hc
        · have hp := nth_pair hsL (i := h - a) (j := t) (by omega) ht'
          rw [HY.out] at hp
          exact (zlt_late (hah _ (nth_mem (by omega)) x (by simp))).1 (zlt_trans hs (.inl hc) hp)
      · have hc : ¬ lt x.1 y.1 := by
          have h : (!decide (cmpI x.1 y.1 < 0)) = true := by assumption
          unfold lt; simpa using h
        refine ⟨⟨h + 1, jj, by go_num, rfl, by omega, by omega, hj1, hrow0.drewN _, grown_drewN hg0 _, ?_, HHI.out⟩, by simp [intOf]; omega⟩
        intro t ht
        by_cases e : t = h - a
        · subst e; rw [HY.out]; exact hc
        · intro hlt'
          have hp := nth_pair hsL (i := t) (j := h - a) (by omega) (by have := HA.out; omega)
          rw [HY.out] at hp
          exact hc ((zlt_late (hah _ hyL x (by simp))).1 (zlt_trans hs (.inl hlt') hp))
    · obtain rfl : ii = jj := by omega
      have hLo := HLO.out
      have hHi := HHI.out
      have hiL : ii - a ≤ L.length := by have := HA.out; omega
      have hS : Merged lt L [x] (L.take (ii - a) ++ x :: L.drop (ii - a)) := by
        refine ⟨?_, ?_⟩
        · refine List.perm_middle.trans ?_
          rw [List.take_append_drop]; exact List.perm_append_comm (l₁ := [x])
        · have hLL : Srt lt (L.take (ii - a) ++ L.drop (ii - a)) := by rw [List.take_append_drop]; exact hsL
          refine Srt.append hLL.left (List.pairwise_cons.2 ⟨?_, hLL.right⟩) ?_
          · intro u hu
            obtain ⟨t, ht, rfl⟩ := mem_nth hu
            rw [nth_drop]
            simp only [List.length_drop] at ht
            exact .inl (hHi _ (by omega) (by omega))
          · intro u hu v hv
            have hux : zlt lt u x := by
              obtain ⟨t, ht, rfl⟩ := mem_nth hu
              simp only [List.length_take] at ht
              rw [nth_take (by omega)]
              exact zlt_early (hah _ (nth_mem (by omega)) x (by simp)) (hLo t (by omega))
            rcases List.mem_cons.1 hv with rfl | hv
            · exact hux
            · exact hLL.cross u hu v hv
      have HS := Lib.hid hS; clear hS hLo hHi HLO HHI
      go_wp2
      go_loopw [17] (fun k wr => ∃ (kk : Nat), k = .int .i64 (kk : Nat) ∧ ii ≤ kk ∧ kk ≤ m ∧
          RowAt enc wr g 3 (P ++ L.take (kk - a) ++ x :: (L.drop (kk - a) ++ Q)) rest ∧ w.grownBy wr (some g)) (fun k _ => (intOf k).toNat)
      case atStart => exact ⟨m, rfl, by omega, by omega, by
        have e : m - a = L.length := by have := HA.out; omega
        rw [e, List.take_length, List.drop_length]; simpa using hrow0, hg0⟩
      case round =>
        obtain ⟨kk, rfl, hk1, hk2, hrow, hg⟩ := hrel
        by_cases hlt : ii < kk
        · have hkL : kk - a - 1 < L.length := by have := HA.out; omega
          rw [show kk - a = kk - a - 1 + 1 from by omega, take_snoc hkL] at hrow
          generalize hy : nth L (kk - a - 1) = y at hrow
          have HY := Lib.hid hy; clear hy
          have hrow2 : RowAt enc wr g 3 ((P ++ L.take (kk - a - 1)) ++ y :: x :: (L.drop (kk - a - 1 + 1) ++ Q)) rest := by simpa using hrow
          have hpl : (P ++ L.take (kk - a - 1)).length = kk - 1 := by have := HA.out; simp; omega
          have hlen : kk < ((P ++ L.take (kk - a - 1)) ++ y :: x :: (L.drop (kk - a - 1 + 1) ++ Q)).length := by
            rw [List.length_append, hpl]; simp; omega
          have c1 : wr.cell? ⟨g, kk - 1, none⟩ = some (Value.int .i64 y.1) := by
            have h := hrow2.cell (j := kk - 1) (by omega)
            rwa [nth_mid hpl.symm] at h
          have c2 : wr.cell? ⟨g, kk, none⟩ = some (Value.int .i64 x.1) := by
            have h := hrow2.cell (j := kk) (by omega)
            rwa [nth_mid1 (by omega)] at h
          have f1 := hrow2.frozen (kk - 1)
          have f2 := hrow2.frozen kk
          have hkn : kk < n := by omega
          have HQ := Lib.hid (And.intro hpl hlen); clear hpl hlen hrow
          go_wp2
          go_region
          go_wp2
          refine ⟨⟨kk - 1, by go_num, by omega, by omega, ?_, ?_⟩, by simp [intOf]; omega⟩
          · have h1 := (hrow2.set (j := kk) (by have := HQ.out.2; omega) y).set (j := kk - 1) (by have := HQ.out.2; rw [List.length_set]; omega) x
            have hsm := set_mid (P := P ++ L.take (kk - a - 1)) (x := y) (y := x) (v := y) (u := x) (Q := L.drop (kk - a - 1 + 1) ++ Q) HQ.out.1.symm
            rw [show kk - 1 + 1 = kk from by omega] at hsm
            rw [hsm] at h1
            have h2 := h1.drew
            rw [show kk - 1 - a = kk - a - 1 from by omega, List.drop_eq_getElem_cons hkL, ← nth_eq hkL, HY.out]
            simpa [enc] using h2
          · exact grown_drew (grown_setCell (grown_setCell hg _ _) _ _)
        · obtain rfl : ii = kk := by omega
          go_wp2
          go_end0
          refine ⟨rfl, ⟨_, HS.out, ?_⟩, hg⟩
          simpa using hrow
end SoI
end Go.Proofs.Ytdlnglffimcopaa
