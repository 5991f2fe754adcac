/- credenceref11's set out of a list of float64s, walked: it computes what the sets hold. Condition: a length within Go's bound. -/
import Derived.Test.YtpacnpiiahchiaaSl1F
import Derived.Test.YtpacnpiiahchiaaLay
import Derived.Test.YtpacnpiiahchiaaHeld
import Derived.Deep.DeepCutAuto
import Derived.Deep.CutBlock
import Derived.Deep.QuietTactic
import Derived.BigQuiet
namespace Go.Proofs.Ytpacnpiiahchiaa
open Go.RowKit
namespace SoF

theorem before_any (a b : Nat) (w : World) : Calls Try.prog 71 #[.float .f64 a, .float .f64 b] w fun e w' => e = .returned (.bool (ltbF a b)) ∧ w' = w := by
  have ga := Fl.cls_ge a
  have gb := Fl.cls_ge b
  have na := Fl.val_nan a
  have nb := Fl.val_nan b
  have hl := Fl.lss a b
  have hn := cmpF_neg a b
  have h1 := Fl.ne_self a
  have h2 := Fl.eql b b
  have hz : cmpF b b = 0 := by rw [cmpF_zero]; exact ⟨rfl, rfl⟩
  by_cases ha : Fl.cls a = -2
  · by_cases hb : Fl.cls b = -2
    · have d0 : (FloatKind.f64.format.order a b == some .lt) = false := by rw [hl]; simp [ha]
      have d1 : (FloatKind.f64.format.order a a != some .eq) = true := by rw [h1]; simp [ha]
      have d2 : (FloatKind.f64.format.order b b == some .eq) = false := by rw [h2]; simp [hb]
      have hk : ltbF a b = false := by unfold ltbF; rw [decide_eq_false]; rw [hn, na ha, nb hb]; omega
      have H := Lib.hid hk; clear ha hb ga gb na nb hl hn h1 h2 hz hk
      go_enter Try.func71, Try.ntmps71
      go_wp2_with fail
      go_ret
      exact ⟨ret_bool H.out.symm, rfl⟩
    · have d0 : (FloatKind.f64.format.order a b == some .lt) = false := by rw [hl]; simp [ha]
      have d1 : (FloatKind.f64.format.order a a != some .eq) = true := by rw [h1]; simp [ha]
      have d2 : (FloatKind.f64.format.order b b == some .eq) = true := by rw [h2]; simp [hb, hz]
      have hk : ltbF a b = true := by unfold ltbF; rw [decide_eq_true]; rw [hn]; omega
      have H := Lib.hid hk; clear ha hb ga gb na nb hl hn h1 h2 hz hk
      go_enter Try.func71, Try.ntmps71
      go_wp2_with fail
      go_ret
      exact ⟨ret_bool H.out.symm, rfl⟩
  · have d1 : (FloatKind.f64.format.order a a != some .eq) = false := by rw [h1]; simp [ha]
    by_cases hb : Fl.cls b = -2
    · have d0 : (FloatKind.f64.format.order a b == some .lt) = false := by rw [hl]; simp [hb]
      have hk : ltbF a b = false := by unfold ltbF; rw [decide_eq_false]; rw [hn]; omega
      have H := Lib.hid hk; clear ha hb ga gb na nb hl hn h1 h2 hz hk
      go_enter Try.func71, Try.ntmps71
      go_wp2_with fail
      go_ret
      exact ⟨ret_bool H.out.symm, rfl⟩
    · have hk : (FloatKind.f64.format.order a b == some .lt) = ltbF a b := by rw [hl]; unfold ltbF; simp [ha, hb]
      rcases hq : ltbF a b
      · rw [hq] at hk
        clear ha hb ga gb na nb hl hn h1 h2 hz hq
        go_enter Try.func71, Try.ntmps71
        go_wp2_with fail
        go_ret
        exact ⟨rfl, rfl⟩
      · rw [hq] at hk
        clear ha hb ga gb na nb hl hn h1 h2 hz hq
        go_enter Try.func71, Try.ntmps71
        go_wp2_with fail
        go_ret
        exact ⟨rfl, rfl⟩

/-- the lists ahead of a place and behind it -/
theorem Sl.take {w : World} {A : Option Addr} {n j : Nat} {xs : List Nat} (h : Sl (Value.float .f64) w A n xs) (hj : j ≤ n) : Sl (Value.float .f64) w A j (xs.take j) :=
  ⟨by simp; have := h.len; omega, by have := h.big; omega, fun hp => by
    obtain ⟨b, off, e, hb, hc⟩ := h.at' (by omega)
    exact ⟨b, off, e, hb, fun t ht => by rw [nth_take ht]; exact hc t (by omega)⟩⟩
/-- where the list behind a place lies -/
def tailAt (A : Option Addr) (c j : Nat) : Option Addr := match A with
  | none => none
  | some a => if c = j then some a else some (a.add j)
theorem Sl.tail {w : World} {A : Option Addr} {n j c : Nat} {xs : List Nat} (h : Sl (Value.float .f64) w A n xs) (hj : j ≤ n) (hc : n ≤ c) :
    Sl (Value.float .f64) w (tailAt A c j) (n - j) (xs.drop j) := by
  rcases Nat.lt_or_ge j n with hlt | hge
  · obtain ⟨b, off, rfl, hb, hcl⟩ := h.at' (by omega)
    simp only [tailAt]
    rw [if_neg (by omega)]
    refine ⟨by simp [h.len], by have := h.big; omega, fun _ => ⟨b, off + j, by rw [Addr.add_lit], hb, fun t ht => by rw [nth_drop, Nat.add_assoc]; exact hcl _ (by omega)⟩⟩
  · obtain rfl : j = n := by omega
    rw [Nat.sub_self, List.drop_of_length_le (by have := h.len; omega)]
    exact Sl.nil _ _ _

set_option maxHeartbeats 4000000 in
set_option maxRecDepth 100000 in
theorem rof_any (A : Option Addr) (n c : Nat) (xs : List Nat) (w : World) (hx : Sl (Value.float .f64) w A n xs) (hb : n ≤ 100000) :
    Calls Try.prog 40 #[.slice A n c] w fun e w' => ∃ A' k c', e = .returned (.slice A' k c') ∧ Sl (Value.float .f64) w' A' k (setOf cmpF xs) ∧ Below w.heap.size w w' := by
  obtain ⟨i0, hi0, hz0, hz1, hz2⟩ := info_parts info
  have HI := Lib.hid (And.intro hx.len hi0); clear hi0
  obtain ⟨wa, hwa⟩ : ∃ wa : World, wa = w := ⟨_, rfl⟩
  subst hwa
  go_enter Try.func40, Try.ntmps40
  go_wp2_with fail
  go_loopw [3, 4] (fun o i wr => ∃ (k m : Nat) (B : Option Addr) (d : Nat), o = .slice B m d ∧ i = .int .i64 (k : Nat) ∧ k ≤ n ∧ OwnR (Value.float .f64) wr wa.heap.size 57 B m d (setOf cmpF (xs.take k)) ∧ Below wa.heap.size wa wr) (fun _ i _ => n - (intOf i).toNat)
  case atStart => exact ⟨0, 0, none, 0, rfl, rfl, Nat.zero_le _, by simpa [setOf] using OwnR.nil (Value.float .f64) wa wa.heap.size 57, Below.refl _ _⟩
  case round =>
    obtain ⟨k, m, B, d, rfl, rfl, hk, hown, hbl⟩ := hrel
    have hmd := hown.cap
    have hd := hown.capmax
    obtain ⟨wb, hwb⟩ : ∃ wb : World, wb = wr := ⟨_, rfl⟩
    subst hwb
    by_cases hlt : k < n
    · obtain ⟨L, hL⟩ : ∃ L, L = setOf cmpF (xs.take k) := ⟨_, rfl⟩
      rw [← hL] at hown
      have hml : m ≤ k := by
        have h1 := setOf_length_le (c := cmpF) (xs.take k)
        rw [← hL] at h1
        have h2 := hown.length
        simp at h1
        omega
      have hl := hown.sl (show m ≤ 140737488351232 by omega)
      have hasc : Asc cmpF L := by rw [hL]; exact asc_setOf cmpokF _
      have hsucc : setOf cmpF (xs.take (k + 1)) = ins cmpF (nth xs k) L := by rw [hL, take_snoc (by rw [HI.out.1]; exact hlt), setOf_snoc]
      have hcell : wb.cell? ⟨0, 0, none⟩ = wb.cell? ⟨0, 0, none⟩ := rfl
      clear hcell
      have hx1 := hx.below (Nat.le_refl _) hbl
      obtain ⟨ba, oa, rfl, hba, hca⟩ := hx1.at' (by omega)
      have g1 := hca k hlt
      clear hca hba
      have HL := Lib.hid (And.intro hL (And.intro hasc (And.intro hsucc (And.intro hl (And.intro hbl (And.intro hx1 hown)))))); clear hL hasc hsucc hl hbl hx1 hown
      unfold maxLen at hd
      go_upto_block 2 with fail
      go_cut [5] (fun a wx => ∃ (j q : Nat), a = .int .i64 (j : Nat) ∧ j ≤ m ∧ (∀ t, t < j → cmpF (nth L t) (nth xs k) < 0) ∧ (j < m → ¬ cmpF (nth L j) (nth xs k) < 0) ∧ wx = wb.drewN q)
      case first => as_aux_lemma =>
        go_wp2_with fail
        go_loopw [5] (fun a wv => ∃ (j q : Nat), a = .int .i64 (j : Nat) ∧ j ≤ m ∧ (∀ t, t < j → cmpF (nth L t) (nth xs k) < 0) ∧ wv = wb.drewN q) (fun a _ => m - (intOf a).toNat)
        case atStart => exact ⟨0, 0, rfl, Nat.zero_le _, fun t ht => by omega, rfl⟩
        case round =>
          obtain ⟨j, q, rfl, hj, hlo, hwr⟩ := hrel
          have g3 : wr.cell? ⟨ba, oa + k, none⟩ = some (Value.float .f64 (nth xs k)) := by rw [hwr]; exact g1
          have hl1 : Sl (Value.float .f64) wr B m L := by rw [hwr]; exact HL.out.2.2.2.1.drewN q
          have HO := Lib.hid (And.intro hlo (And.intro hwr hl1)); clear hlo hwr hl1 g1
          by_cases hjm : j < m
          · obtain ⟨bl, ol, rfl, hbl, hcl⟩ := HO.out.2.2.at' (by omega)
            have g2 := hcl j hjm
            clear hcl hbl
            have q1 : (0 : Int) ≤ (j : Nat) := by omega
            have q2 : ((j : Nat) : Int) < m := by omega
            have q3 : (0 : Int) ≤ (k : Nat) := by omega
            have q4 : ((k : Nat) : Int) < n := by omega
            have q5 : decide (((j : Nat) : Int) < m) = true := by simpa using hjm
            have q6 : decide (j < m) = true := by simpa using hjm
            by_cases hless : cmpF (nth L j) (nth xs k) < 0
            · have d1 : ltbF (nth L j) (nth xs k) = true := by simpa [ltbF] using hless
              have HB := Lib.hid hless; clear hless
              go_wp2_with fail
              go_quiet ((go_at_call 71; exact Calls.quiet_of_same (before_any _ _ _)))
              go_wp2_with fail
              exact ⟨⟨j + 1, q + nq, by go_num, by omega, fun t ht => by
                by_cases e : t = j
                · rw [e]; exact HB.out
                · exact HO.out.1 t (by omega), by rw [HO.out.2.1, World.drewN_drewN]⟩, by simp [intOf]; omega⟩
            · have d1 : ltbF (nth L j) (nth xs k) = false := by simpa [ltbF] using hless
              have HB := Lib.hid hless; clear hless
              go_wp2_with fail
              go_quiet ((go_at_call 71; exact Calls.quiet_of_same (before_any _ _ _)))
              go_wp2_with fail
              go_meet
              exact ⟨j, q + nq, rfl, hj, HO.out.1, fun _ => HB.out, by rw [HO.out.2.1, World.drewN_drewN]⟩
          · have q5 : decide (((j : Nat) : Int) < m) = false := by simp; omega
            have q6 : decide (j < m) = false := by simp; omega
            go_wp2_with fail
            go_quiet ((go_at_call 71; exact Calls.quiet_of_same (before_any _ _ _)))
            go_wp2_with fail
            go_meet
            exact ⟨j, q + nq, rfl, hj, HO.out.1, fun h => absurd h hjm, by rw [HO.out.2.1, World.drewN_drewN]⟩
      case rest => as_aux_lemma =>
        obtain ⟨j, q, rfl, hj, hlo, hhi, hwc⟩ := hcut
        have g3 : wc.cell? ⟨ba, oa + k, none⟩ = some (Value.float .f64 (nth xs k)) := by rw [hwc]; exact g1
        have hl1 : Sl (Value.float .f64) wc B m L := by rw [hwc]; exact HL.out.2.2.2.1.drewN q
        have hx1 : Sl (Value.float .f64) wc (some ⟨ba, oa, none⟩) n xs := by rw [hwc]; exact HL.out.2.2.2.2.2.1.drewN q
        have hb1 : Below wa.heap.size wa wc := by rw [hwc]; exact below_drewN HL.out.2.2.2.2.1 q
        have ho1 : OwnR (Value.float .f64) wc wa.heap.size 57 B m d L := by rw [hwc]; exact HL.out.2.2.2.2.2.2.drewN q
        have HW := Lib.hid (And.intro hl1 (And.intro hx1 (And.intro hb1 ho1))); clear hl1 hx1 hb1 ho1 hwc g1
        have HO := Lib.hid (And.intro hlo hhi); clear hlo hhi
        have hp : Place cmpF L (nth xs k) j := ⟨by rw [HL.out.2.2.2.1.len]; exact hj, HO.out.1, fun t h1 h2 h3 => by
          have h4 := HL.out.2.2.2.1.len
          rcases Nat.lt_or_ge j t with h5 | h5
          · exact HO.out.2 (by omega) (cmpokF.lt_trans (nth_asc HL.out.2.1 h5 h2) h3)
          · obtain rfl : j = t := by omega
            exact HO.out.2 (by omega) h3⟩
        have q3 : (0 : Int) ≤ (k : Nat) := by omega
        have q4 : ((k : Nat) : Int) < n := by omega
        have q1 : (0 : Int) ≤ (j : Nat) := by omega
        by_cases hin : isIn cmpF (nth xs k) L = true
        · have h6 := hp.isIn cmpokF HL.out.2.1
          rw [hin, HL.out.2.2.2.1.len] at h6
          have h7 : j < m ∧ cmpF (nth L j) (nth xs k) = 0 := by simpa using h6.symm
          have hjm := h7.1
          have hzero := h7.2
          have hkeep : setOf cmpF (xs.take (k + 1)) = L := by rw [HL.out.2.2.1]; exact ins_in cmpokF HL.out.2.1 hin
          obtain ⟨bl, ol, rfl, hbl, hcl⟩ := HW.out.1.at' (by omega)
          have g2 := hcl j hjm
          have q2 : ((j : Nat) : Int) < m := by omega
          have q5 : decide (((j : Nat) : Int) < m) = true := by simpa using hjm
          have q6 : decide (j < m) = true := by simpa using hjm
          have d1 : ltbF (nth xs k) (nth L j) = false := by unfold ltbF; rw [decide_eq_false]; rw [← cmpokF.flip]; omega
          have HK := Lib.hid hkeep
          clear h6 h7 hzero hkeep hcl hbl hin hp
          go_wp2_with fail
          go_quiet ((go_at_call 71; exact Calls.quiet_of_same (before_any _ _ _)))
          go_wp2_with fail
          exact ⟨⟨k + 1, m, _, d, rfl, by go_num, by omega, by rw [HK.out]; exact HW.out.2.2.2.drewN _, below_drewN HW.out.2.2.1 _⟩, by simp [intOf]; omega⟩
        · have hin' : isIn cmpF (nth xs k) L = false := by simpa using hin
          have hins : setOf cmpF (xs.take (k + 1)) = (L.take j ++ [nth xs k]) ++ L.drop j := by rw [HL.out.2.2.1, hp.ins cmpokF hin' HL.out.2.1]; simp
          have h6 := hp.isIn cmpokF HL.out.2.1
          rw [hin', HL.out.2.2.2.1.len] at h6
          have HK := Lib.hid hins; clear hins hin hin' hp
          have hnz : j < m → ¬ cmpF (nth L j) (nth xs k) = 0 := by
            intro h7 h8
            rw [h8] at h6
            simp [h7] at h6
          have HZ := Lib.hid hnz; clear hnz h6
          go_upto_region 8 with fail
          go_cut [45] (fun t wx => ∃ q' : Nat, t = .bool false ∧ wx = wc.drewN q')
          case first => as_aux_lemma =>
            by_cases hjm : j < m
            · have hnz := HZ.out hjm
              obtain ⟨bl, ol, rfl, hbl, hcl⟩ := HW.out.1.at' (by omega)
              have g2 := hcl j hjm
              have q2 : ((j : Nat) : Int) < m := by omega
              have q5 : decide (((j : Nat) : Int) < m) = true := by simpa using hjm
              have q6 : decide (j < m) = true := by simpa using hjm
              have d1 : ltbF (nth xs k) (nth L j) = true := by unfold ltbF; rw [decide_eq_true]; rw [← cmpokF.flip]; have := HO.out.2 hjm; omega
              clear hnz hcl hbl
              go_wp2_with fail
              go_quiet ((go_at_call 71; exact Calls.quiet_of_same (before_any _ _ _)))
              go_wp2_with fail
              go_meet
              exact ⟨nq, rfl, rfl⟩
            · have q5 : decide (((j : Nat) : Int) < m) = false := by simp; omega
              have q6 : decide (j < m) = false := by simp; omega
              go_wp2_with fail
              go_quiet ((go_at_call 71; exact Calls.quiet_of_same (before_any _ _ _)))
              go_wp2_with fail
              go_meet
              exact ⟨nq, rfl, rfl⟩
          case rest => as_aux_lemma =>
            rename_i wold
            obtain ⟨q', rfl, hwd⟩ := hcut
            have g4 : wc.cell? ⟨ba, oa + k, none⟩ = some (Value.float .f64 (nth xs k)) := by rw [hwd]; exact g3
            have hl1 : Sl (Value.float .f64) wc B m L := by rw [hwd]; exact HW.out.1.drewN q'
            have hb1 : Below wa.heap.size wa wc := by rw [hwd]; exact below_drewN HW.out.2.2.1 q'
            have ho1 : OwnR (Value.float .f64) wc wa.heap.size 57 B m d L := by rw [hwd]; exact HW.out.2.2.2.drewN q'
            clear HW hwd g3 HZ HO
            obtain ⟨we, hwe⟩ : ∃ we : World, we = wc := ⟨_, rfl⟩
            subst hwe
            have hBn : B = none → m = 0 ∧ d = 0 := by
              rintro rfl
              rcases ho1.2 with ⟨e1, e2⟩ | ⟨g, cap, cur, e1, _⟩
              · injection e1 with _ e3 e4; exact ⟨e3, e4⟩
              · injection e1 with e2; cases e2
            have hBs : ∀ ad, B = some ad → ∃ g, ad = ⟨g, 0, none⟩ := by
              rintro ad rfl
              rcases ho1.2 with ⟨e1, e2⟩ | ⟨g, cap, cur, e1, _⟩
              · injection e1 with e2; cases e2
              · injection e1 with e2; injection e2 with e2; exact ⟨g, e2⟩
            have h1t := Sl.take hl1 hj
            have hxe : Sl (Value.float .f64) we (some ⟨ba, oa, none⟩) n xs := hx.below (Nat.le_refl _) hb1
            have hown0 := OwnR.nil (Value.float .f64) we we.heap.size 57
            have q6 : ((j : Nat) : Int) ≤ (d : Nat) := by omega
            have q7 : ((j : Nat) : Int) ≤ (m : Nat) := by omega
            have hbase := hb1.size
            have hm1 : 0 + j ≤ maxLen := by unfold maxLen; omega
            have hm2 : 0 + j + 1 ≤ maxLen := by unfold maxLen; omega
            have hm3 : 0 + j + 1 + (m - j) ≤ maxLen := by unfold maxLen; omega
            have hk1 : (0 + j) * 8 ≤ 140737488355328 := by omega
            have hk2 : (0 + j + 1) * 8 ≤ 140737488355328 := by omega
            have hk3 : (0 + j + 1 + (m - j)) * 8 ≤ 140737488355328 := by omega
            have hbn : B = none → j = 0 := fun e => by have := hBn e; omega
            have hadd : ∀ a : Addr, B = some a → True := fun _ _ => trivial
            clear hadd
            have h3t := Sl.tail hl1 hj hmd
            have HH := Lib.hid (And.intro hl1 (And.intro hb1 (And.intro h1t (And.intro hxe h3t)))); clear hl1 hb1 h1t hxe h3t ho1
            have HF := Lib.hid (And.intro hm1 (And.intro hm2 (And.intro hm3 (And.intro hk1 (And.intro hk2 hk3))))); clear hm1 hm2 hm3 hk1 hk2 hk3
            go_upto_region 12 with (first
                | (at_builtin; refine wpList_append_sl _ (Value.float .f64) one rfl _ _ 58 rfl we.heap.size 57 i0 (.float .f64 0) 8 Try.underlying58 HI.out.2 hz0 hz1 hz2 rfl _ _ _ _ rfl hown0 _ _ _ _ rfl HH.out.2.2.1 HF.out.1 HF.out.2.2.2.1 (Nat.le_refl _) ?_)
                | fail)
            intro A5 c5 w5 ho5 _ hb5 _
            have g5 : w5.cell? ⟨ba, oa + k, none⟩ = some (Value.float .f64 (nth xs k)) := by
              obtain ⟨b', o', e', _, hc'⟩ := (HH.out.2.2.2.1.below (Nat.le_refl _) hb5).at' (by omega)
              injection e' with e'
              injection e' with e1 e2
              subst e1 e2
              exact hc' k hlt
            have hz5 := hb5.size
            have hb6 := hb5.alloc hb5.size (.cells #[Value.float .f64 (nth xs k)] 57)
            have ho6 := ho5.alloc (.cells #[Value.float .f64 (nth xs k)] 57)
            have hz6 : we.heap.size ≤ (w5.alloc (.cells #[Value.float .f64 (nth xs k)] 57)).heap.size := hb6.size
            have hk5 : j + 1 ≤ maxLen := by have := HF.out.2.1; omega
            have hk6 : (j + 1) * 8 ≤ 140737488355328 := by omega
            have H5 := Lib.hid (And.intro hb5 (And.intro hb6 (And.intro hz6 (And.intro hk5 hk6)))); clear hb5 hb6 hz6 hk5 hk6 g4
            go_wp2_with (first
                | (at_builtin; refine wpList_append_sl _ (Value.float .f64) one rfl _ _ 58 rfl we.heap.size 57 i0 (.float .f64 0) 8 Try.underlying58 HI.out.2 hz0 hz1 hz2 rfl _ _ _ _ rfl ho6 _ _ _ _ rfl (Sl.one _ _ _) H5.out.2.2.2.1 H5.out.2.2.2.2 H5.out.2.2.1 ?_)
                | fail)
            intro A7 c7 w7 ho7 _ hb7 _
            have hb8 : Below we.heap.size we w7 := H5.out.2.1.trans hb7
            have hx8 := HH.out.2.2.2.2.below (Nat.le_refl _) hb8
            have hz8 := hb8.size
            have hk8 : j + 1 + (m - j) ≤ maxLen := by have := HF.out.2.2.1; omega
            have hk9 : (j + 1 + (m - j)) * 8 ≤ 140737488355328 := by omega
            have H8 := Lib.hid (And.intro hb8 (And.intro hx8 (And.intro hk8 hk9))); clear hb8 hx8 hk8 hk9 hb7 g5 H5
            rcases B with _ | ad
            · obtain ⟨rfl, rfl⟩ := hBn rfl
              obtain rfl : j = 0 := by omega
              clear hBn hBs hbn
              go_wp2_with (first
                | (at_builtin; refine wpList_append_sl _ (Value.float .f64) one rfl _ _ 58 rfl we.heap.size 57 i0 (.float .f64 0) 8 Try.underlying58 HI.out.2 hz0 hz1 hz2 rfl _ _ _ _ rfl ho7 _ _ _ _ rfl H8.out.2.1 H8.out.2.2.1 H8.out.2.2.2 hz8 ?_)
                | fail)
              intro A9 c9 w9 ho9 _ hb9 _
              have hb10 : Below we.heap.size we w9 := H8.out.1.trans hb9
              have ho10 : OwnR (Value.float .f64) w9 wa.heap.size 57 A9 (0 + 1) c9 (setOf cmpF (xs.take (k + 1))) := by
                rw [HK.out]
                have := ho9.mono hbase
                simpa using this
              have hb11 : Below wa.heap.size wa w9 := HH.out.2.1.trans (hb10.mono hbase)
              have HZ := Lib.hid (And.intro ho10 hb11); clear ho10 hb10 hb11 ho9 hb9 ho7 ho6 ho5 hown0
              go_wp2_with fail
              exact ⟨⟨k + 1, 0 + 1, A9, c9, rfl, by go_num, by omega, HZ.out.1, HZ.out.2⟩, by simp [intOf]; omega⟩
            · obtain ⟨g, rfl⟩ := hBs ad rfl
              clear hBn hBs hbn
              by_cases hdj : d = j
              · have hy : Sl (Value.float .f64) w7 (some ⟨g, 0, none⟩) (m - j) (L.drop j) := by have := H8.out.2.1; simpa [tailAt, hdj] using this
                go_wp2_with (first
                  | (at_builtin; refine wpList_append_sl _ (Value.float .f64) one rfl _ _ 58 rfl we.heap.size 57 i0 (.float .f64 0) 8 Try.underlying58 HI.out.2 hz0 hz1 hz2 rfl _ _ _ _ rfl ho7 _ _ _ _ rfl hy H8.out.2.2.1 H8.out.2.2.2 hz8 ?_)
                  | fail)
                intro A9 c9 w9 ho9 _ hb9 _
                have hb10 : Below we.heap.size we w9 := H8.out.1.trans hb9
                have ho10 : OwnR (Value.float .f64) w9 wa.heap.size 57 A9 (m + 1) c9 (setOf cmpF (xs.take (k + 1))) := by
                  rw [HK.out]
                  have := ho9.mono hbase
                  rw [show j + 1 + (m - j) = m + 1 by omega] at this
                  simpa using this
                have hb11 : Below wa.heap.size wa w9 := HH.out.2.1.trans (hb10.mono hbase)
                have HZ := Lib.hid (And.intro ho10 hb11); clear ho10 hb10 hb11 ho9 hb9 ho7 ho6 ho5 hown0
                have hsz : j + 1 + (m - j) = m + 1 := by omega
                rw [hsz]
                clear hsz
                go_wp2_with fail
                exact ⟨⟨k + 1, m + 1, A9, c9, rfl, by go_num, by omega, HZ.out.1, HZ.out.2⟩, by simp [intOf]; omega⟩
              · have hy : Sl (Value.float .f64) w7 (some ⟨g, j, none⟩) (m - j) (L.drop j) := by have := H8.out.2.1; simpa [tailAt, hdj, Addr.add_lit] using this
                go_wp2_with (first
                  | (at_builtin; refine wpList_append_sl _ (Value.float .f64) one rfl _ _ 58 rfl we.heap.size 57 i0 (.float .f64 0) 8 Try.underlying58 HI.out.2 hz0 hz1 hz2 rfl _ _ _ _ rfl ho7 _ _ _ _ rfl hy H8.out.2.2.1 H8.out.2.2.2 hz8 ?_)
                  | fail)
                intro A9 c9 w9 ho9 _ hb9 _
                have hb10 : Below we.heap.size we w9 := H8.out.1.trans hb9
                have ho10 : OwnR (Value.float .f64) w9 wa.heap.size 57 A9 (m + 1) c9 (setOf cmpF (xs.take (k + 1))) := by
                  rw [HK.out]
                  have := ho9.mono hbase
                  rw [show j + 1 + (m - j) = m + 1 by omega] at this
                  simpa using this
                have hb11 : Below wa.heap.size wa w9 := HH.out.2.1.trans (hb10.mono hbase)
                have HZ := Lib.hid (And.intro ho10 hb11); clear ho10 hb10 hb11 ho9 hb9 ho7 ho6 ho5 hown0
                have hsz : j + 1 + (m - j) = m + 1 := by omega
                rw [hsz]
                clear hsz
                go_wp2_with fail
                exact ⟨⟨k + 1, m + 1, A9, c9, rfl, by go_num, by omega, HZ.out.1, HZ.out.2⟩, by simp [intOf]; omega⟩
    · have HD := Lib.hid (And.intro hown hbl); clear hown hbl
      have q5 : decide (((k : Nat) : Int) < n) = false := by simp; omega
      go_wp2_with fail
      go_ret
      have hkn : k = n := by omega
      have hown := HD.out.1
      rw [List.take_of_length_le (by have := HI.out.1; omega)] at hown
      exact ⟨B, m, d, rfl, hown.sl (by have h1 := setOf_length_le (c := cmpF) xs; have h2 := hown.length; have h3 := HI.out.1; omega), HD.out.2⟩
end SoF
end Go.Proofs.Ytpacnpiiahchiaa
