/- credencelaw17.PruneApart, walked: it returns true. Condition: the lists read. -/
import Derived.Test.YtdlnglffimcopaaMany
namespace Go.Proofs.Ytdlnglffimcopaa
open Go.RowKit

/-- an empty list that was typed out -/
theorem OwnR.empty (w : World) (base : Nat) (hb : base ≤ w.heap.size) : OwnR (Value.int .i64) (w.alloc (.cells #[] 3)) base 3 (some ⟨w.heap.size, 0, none⟩) 0 0 [] := by
  have hr : RowAt (Value.int .i64) (w.alloc (.cells #[] 3)) w.heap.size 3 ([] : List Int) [] := RowC.new w 3 []
  exact OwnR.of_row' hr hb rfl (Nat.zero_le _) rfl
theorem mem_keptL {Ps : List (List Int)} {asked given : List Int} {br ap : Bool} {v : Nat} (hv : v < Ps.length) : decide ((v : Int) ∈ castL (keptL Ps asked given br ap)) = !leaveB Ps asked given br ap v := by
  rw [Bool.eq_iff_iff, decide_eq_true_iff, mem_castL]
  unfold keptL keptTo
  rw [List.mem_filter, List.mem_range]
  exact ⟨fun h => h.2, fun h => ⟨hv, h⟩⟩
namespace PruneApart
set_option maxRecDepth 100000 in
set_option maxHeartbeats 1600000 in
theorem law (A B C : Option Addr) (n c m1 d1 m2 d2 : Nat) (Ps : List (List Int)) (asked given : List Int) (w : World) (h : Rows (Value.int .i64) w A n Ps) (ha : Sl (Value.int .i64) w B m1 asked) (hg : Sl (Value.int .i64) w C m2 given) :
    Calls Try.prog 10 #[.slice A n c, .slice B m1 d1, .slice C m2 d2] w fun e w' => e = .returned (.bool true) ∧ Below w.heap.size w w' := by
  have hlen := h.len
  obtain ⟨wa, hwa⟩ : ∃ wa : World, wa = w := ⟨_, rfl⟩
  subst hwa
  have hal := ha.len
  have HL := Lib.hid (And.intro hlen hal)
  clear hlen hal
  go_enter Try.func10, Try.ntmps10
  go_wp2_with fail
  refine (alive17_any _).mono ?_
  rintro e w1 ⟨rfl, hb1⟩
  have hP1 := h.below (Nat.le_refl _) hb1
  have ha1 := ha.below (Nat.le_refl _) hb1
  have hg1 := hg.below (Nat.le_refl _) hb1
  have HB := Lib.hid hb1
  clear h ha hg hb1
  go_wp2_with fail
  refine (many_any A n c Ps _ hP1).mono ?_
  rintro e w' ⟨b, rfl, rfl, hmany⟩
  cases b with
  | true =>
    clear hmany hP1 ha1 hg1
    go_wp2_with fail
    go_ret
    exact ⟨rfl, HB.out⟩
  | false =>
    obtain ⟨hn14, hr90⟩ := hmany rfl
    have HR := Lib.hid hr90
    clear hmany hr90
    by_cases h1 : m1 ≤ 100
    · by_cases h2 : m2 ≤ 100
      · have hi1 : ¬ (100 : Int) < (m1 : Nat) := by omega
        have hi2 : ¬ (100 : Int) < (m2 : Nat) := by omega
        go_wp2_with fail
        refine (kept_prune A B C n c m1 d1 m2 d2 Ps asked given false true _ hP1 ha1 hg1 (by omega) (fun i hi => by have := HR.out i hi; omega) (by omega) (by omega)).mono ?_
        rintro e w2 ⟨hb2, U, k, d, rfl, hU, hU0⟩
        by_cases he : aboveE Ps (asked ++ given) = 0
        · have hU := hU he
          have hinv := aboveE_inv he
          rw [he]
          have hbA := HB.out.trans (hb2.mono HB.out.size)
          have hP2 := hP1.below (Nat.le_refl _) hb2
          have ha2 := ha1.below (Nat.le_refl _) hb2
          have hg2 := hg1.below (Nat.le_refl _) hb2
          have hUl := hU.length
          have hkn : k ≤ n := by
            rw [← hUl]; unfold castL; rw [List.length_map, ← HL.out.1]; exact keptTo_length _ _ _ _ _ _
          have hUs := hU.sl (by omega)
          have H2 := Lib.hid (And.intro hbA (And.intro hP2 (And.intro ha2 (And.intro hg2 (And.intro hUs hinv)))))
          clear hbA hP2 ha2 hg2 hUs hinv hU hU0 hb2 hP1 ha1 hg1 he HB hUl
          go_wp2_with fail
          go_loopw [10, 11] (fun v i wr => ∃ (t q dq : Nat) (O : Option Addr), i = .int .i64 (t : Nat) ∧ v = .slice O q dq ∧ t ≤ m1 ∧ OwnR (Value.int .i64) wr w2.heap.size 3 O q dq (openL (asked.take t) given) ∧ Below w2.heap.size w2 wr) (fun _ i _ => m1 - (intOf i).toNat)
          case atStart => exact ⟨0, 0, 0, none, rfl, rfl, Nat.zero_le _, OwnR.nil _ _ _ _, Below.refl _ _⟩
          case round => as_aux_lemma =>
            obtain ⟨t, q, dq, O, rfl, rfl, ht, hO, hb⟩ := hrel
            obtain ⟨wb, hwb⟩ : ∃ wb : World, wb = wr := ⟨_, rfl⟩
            subst hwb
            have hql : q ≤ t := by
              have h1 := hO.length
              have h2 := openL_length (asked.take t) given
              rw [List.length_take] at h2
              omega
            by_cases hlt : t < m1
            · have hi3 : (t : Int) < (m1 : Nat) := by omega
              obtain ⟨bB, oB, rfl, hbB, hc⟩ := (H2.out.2.2.1.below (Nat.le_refl _) hb).at' (by omega)
              have g1 := hc t hlt
              have htl : t < asked.length := by rw [HL.out.2]; exact hlt
              have hsn := openL_take (given := given) htl
              have hgw := H2.out.2.2.2.1.below (Nat.le_refl _) hb
              generalize nth asked t = x at *
              have hos := hO.alloc (.cells #[.int .i64 x] 3)
              have hz := hb.size
              have hbx := hb.alloc hz (.cells #[.int .i64 x] 3)
              have HX := Lib.hid (And.intro hO (And.intro hb (And.intro hsn (And.intro hgw hbx))))
              clear hO hb hsn hgw hc htl hbx
              by_cases hin : x ∈ given
              · have HN := Lib.hid (show openL (asked.take (t + 1)) given = openL (asked.take t) given by rw [HX.out.2.2.1, if_pos hin, List.append_nil])
                have hd : decide (x ∈ given) = true := by simpa using hin
                have HD := Lib.hid hd
                clear hin hd
                go_wp2_with fail
                refine (has_ref C m2 d2 given x _ HX.out.2.2.2.1).mono ?_
                rintro e w9 ⟨rfl, hw9⟩
                have hw9 := hw9.symm
                subst hw9
                rw [HD.out]
                go_wp2_with fail
                exact ⟨⟨t + 1, q, dq, O, by go_num, rfl, by omega, by rw [HN.out]; exact HX.out.1, HX.out.2.1⟩, by simp [intOf]; omega⟩
              · have HN := Lib.hid (show openL (asked.take (t + 1)) given = openL (asked.take t) given ++ [x] by rw [HX.out.2.2.1, if_neg hin])
                have hd : decide (x ∈ given) = false := by simpa using hin
                have HD := Lib.hid hd
                clear hin hd
                go_wp2_with fail
                refine (has_ref C m2 d2 given x _ HX.out.2.2.2.1).mono ?_
                rintro e w9 ⟨rfl, hw9⟩
                have hw9 := hw9.symm
                subst hw9
                rw [HD.out]
                go_wp2_with (first
                  | (at_builtin; refine wpList_app _ eiInt (Value.int .i64) (fun _ => rfl) rfl _ _ rfl w2.heap.size _ _ _ _ rfl hos _ _ _ [x] rfl (Sl.one (enc := Value.int .i64) _ _ _) (by omega) (by simp; omega) ?_)
                  | fail)
                intro A9 c9 w9 ho9 _ hb9 _
                have HF := Lib.hid (And.intro ho9 (HX.out.2.2.2.2.trans hb9))
                clear ho9 hb9 hos g1
                go_wp2_with fail
                exact ⟨⟨t + 1, q + 1, c9, A9, by go_num, rfl, by omega, by rw [HN.out]; exact HF.out.1, HF.out.2⟩, by simp [intOf]; omega⟩
            · obtain rfl : m1 = t := by omega
              rw [take_all (by rw [HL.out.2]; exact Nat.le_refl _)] at hO
              have hbA := H2.out.1.trans (hb.mono H2.out.1.size)
              have hP3 := H2.out.2.1.below (Nat.le_refl _) hb
              have hg3 := H2.out.2.2.2.1.below (Nat.le_refl _) hb
              have hU3 := H2.out.2.2.2.2.1.below (Nat.le_refl _) hb
              have hO3 := hO.sl (by omega)
              have hqd := hO.cap
              have H3 := Lib.hid (And.intro hbA (And.intro hP3 (And.intro hg3 (And.intro hU3 (And.intro hO3 H2.out.2.2.2.2.2)))))
              clear hbA hP3 hg3 hU3 hO3 hO hb H2
              go_wp2_with fail
              go_loopw [12] (fun i wr => ∃ v : Nat, i = .int .i64 (v : Nat) ∧ v ≤ n ∧ Below wb.heap.size wb wr) (fun i _ => n - (intOf i).toNat)
              case atStart => exact ⟨0, rfl, Nat.zero_le _, Below.refl _ _⟩
              case round => as_aux_lemma =>
                obtain ⟨v, rfl, hv, hb⟩ := hrel
                obtain ⟨wv, hwv⟩ : ∃ wv : World, wv = wr := ⟨_, rfl⟩
                subst hwv
                by_cases hvn : v < n
                · have hi3 : (v : Int) < (n : Nat) := by omega
                  have hz := hb.size
                  have HV := Lib.hid hb
                  clear hb
                  go_wp2_with fail
                  go_loopw [13, 14] (fun s i wr => ∃ (t dw : Nat) (W : Option Addr) (vs : List (Option Addr × Nat × Nat)), i = .int .i64 (t : Nat) ∧ s = .slice W t dw ∧ t ≤ n ∧ Mats wr wv.heap.size W t dw (widTo Ps v t) vs ∧ Below wv.heap.size wv wr) (fun _ i _ => n - (intOf i).toNat)
                  case atStart => exact ⟨0, 0, none, [], rfl, rfl, Nat.zero_le _, ⟨OwnR.nil _ _ _ _, fun i hi => by omega, rfl⟩, Below.refl _ _⟩
                  case round => as_aux_lemma =>
                    obtain ⟨t, dw, W, vs, rfl, rfl, ht, hM, hb⟩ := hrel
                    obtain ⟨wb2, hwb2⟩ : ∃ wb2 : World, wb2 = wr := ⟨_, rfl⟩
                    subst hwb2
                    have hbw := HV.out.trans (hb.mono hz)
                    have hz2 := hb.size
                    by_cases hlt2 : t < n
                    · have hi4 : (t : Int) < (n : Nat) := by omega
                      obtain ⟨bA, oA, R, m, dr, rfl, _, hcell, hrow⟩ := (H3.out.2.1.below (Nat.le_refl _) hbw).row hlt2
                      have hm90 : m ≤ 90 := by rw [← hrow.len]; exact HR.out t (by rw [HL.out.1]; exact hlt2)
                      have hemp : OwnR (Value.int .i64) wb2 wb2.heap.size 3 none 0 0 ([] : List Int) := OwnR.nil _ _ _ _
                      have HM := Lib.hid (And.intro hM hb)
                      have hW := widTo_succ Ps v t
                      clear hM hb hbw
                      by_cases htv : t = v
                      · subst htv
                        rw [if_pos rfl, HL.out.1] at hW
                        have HW := Lib.hid hW
                        clear hW
                        go_wp2_with (first
                          | (at_builtin; refine wpList_app _ eiInt (Value.int .i64) (fun _ => rfl) rfl _ _ rfl wb2.heap.size _ _ _ _ rfl hemp _ _ _ _ rfl hrow (by omega) (Nat.le_refl _) ?_)
                          | fail)
                        intro A7 c7 w7 ho7 _ hb7 _
                        try simp only [Nat.zero_add, List.nil_append] at ho7
                        try simp only [Nat.zero_add]
                        have hos := ho7.alloc (.cells #[.int .i64 (n : Int)] 3)
                        have hz7 := hb7.size
                        have HA := Lib.hid hb7
                        clear hb7 hemp hrow hcell ho7
                        go_wp2_with (first
                          | (at_builtin; refine wpList_app _ eiInt (Value.int .i64) (fun _ => rfl) rfl _ _ rfl wb2.heap.size _ _ _ _ rfl hos _ _ _ [(n : Int)] rfl (Sl.one (enc := Value.int .i64) _ _ _) (by omega) (by simp; omega) ?_)
                          | fail)
                        intro A8 c8 w8 ho8 _ hb8 _
                        have hbw8 : Below wb2.heap.size wb2 w8 := (HA.out.alloc (by omega) _).trans hb8
                        clear hb8 hos
                        have hM8 := HM.out.1.below hbw8
                        have hb8 := HM.out.2.trans (hbw8.mono hz2)
                        have hz8 := hb8.size
                        have hrs := ho8.mono hz2
                        have hMo := hM8.out.alloc (.cells #[.slice A8 (m + 1) c8] 23)
                        have HP := Lib.hid (And.intro hM8 (And.intro hb8 hrs))
                        clear hM8 hb8 hrs ho8
                        go_wp2_with (first
                          | (at_builtin; refine wpList_app _ eiRows eS one_eS rfl _ _ rfl wv.heap.size _ _ _ _ rfl hMo _ _ _ [(A8, (m + 1), c8)] rfl (Sl.one (enc := eS) _ _ (A8, (m + 1), c8)) (by omega) (by simp; omega) ?_)
                          | fail)
                        intro A9 c9 w9 ho9 hg9 hb9 _
                        have hM9 := HP.out.1.snoc HP.out.2.2 ho9 hg9 (by decide)
                        have hb9 := (HP.out.2.1.alloc hz8 _).trans hb9
                        have HF := Lib.hid (And.intro hM9 hb9)
                        clear hM9 hb9 ho9 hg9 hMo
                        go_wp2_with fail
                        exact ⟨⟨t + 1, c9, A9, _, by go_num, rfl, by omega, by rw [HW.out]; exact HF.out.1, HF.out.2⟩, by simp [intOf]; omega⟩
                      · rw [if_neg htv] at hW
                        have HW := Lib.hid hW
                        have hi5 : ¬ (t : Int) = (v : Int) := by omega
                        clear hW
                        go_wp2_with (first
                          | (at_builtin; refine wpList_app _ eiInt (Value.int .i64) (fun _ => rfl) rfl _ _ rfl wb2.heap.size _ _ _ _ rfl hemp _ _ _ _ rfl hrow (by omega) (Nat.le_refl _) ?_)
                          | fail)
                        intro A8 c8 w8 ho8 _ hbw8 _
                        try simp only [Nat.zero_add, List.nil_append] at ho8
                        try simp only [Nat.zero_add]
                        clear hemp hrow hcell
                        have hM8 := HM.out.1.below hbw8
                        have hb8 := HM.out.2.trans (hbw8.mono hz2)
                        have hz8 := hb8.size
                        have hrs := ho8.mono hz2
                        have hMo := hM8.out.alloc (.cells #[.slice A8 m c8] 23)
                        have HP := Lib.hid (And.intro hM8 (And.intro hb8 hrs))
                        clear hM8 hb8 hrs ho8
                        go_wp2_with (first
                          | (at_builtin; refine wpList_app _ eiRows eS one_eS rfl _ _ rfl wv.heap.size _ _ _ _ rfl hMo _ _ _ [(A8, m, c8)] rfl (Sl.one (enc := eS) _ _ (A8, m, c8)) (by omega) (by simp; omega) ?_)
                          | fail)
                        intro A9 c9 w9 ho9 hg9 hb9 _
                        have hM9 := HP.out.1.snoc HP.out.2.2 ho9 hg9 (by decide)
                        have hb9 := (HP.out.2.1.alloc hz8 _).trans hb9
                        have HF := Lib.hid (And.intro hM9 hb9)
                        clear hM9 hb9 ho9 hg9 hMo
                        go_wp2_with fail
                        exact ⟨⟨t + 1, c9, A9, _, by go_num, rfl, by omega, by rw [HW.out]; exact HF.out.1, HF.out.2⟩, by simp [intOf]; omega⟩
                    · obtain rfl : n = t := by omega
                      have hvp : v < Ps.length := by rw [HL.out.1]; exact hvn
                      have hoe := OwnR.empty wb2 wv.heap.size hz2
                      have hb1 := hb.alloc hz2 (.cells #[] 3)
                      have hM1 := hM.below ((Below.refl wb2.heap.size wb2).alloc (Nat.le_refl _) (.cells #[] 3))
                      have hMo := hM1.out.alloc (.cells #[.slice (some ⟨wb2.heap.size, 0, none⟩) 0 0] 23)
                      have hlit := Sl.one (enc := eS) (wb2.alloc (.cells #[] 3)) 23 (some ⟨wb2.heap.size, 0, none⟩, 0, 0)
                      rw [alloc_size] at hlit
                      have HP := Lib.hid (And.intro hM1 (And.intro hb1 hoe))
                      clear hM hb hM1 hb1 hoe
                      go_wp2_with (first
                        | (at_builtin; refine wpList_app _ eiRows eS one_eS rfl _ _ rfl wv.heap.size _ _ _ _ rfl hMo _ _ _ [(some ⟨wb2.heap.size, 0, none⟩, 0, 0)] rfl hlit (by omega) (by simp; omega) ?_)
                        | fail)
                      intro A9 c9 w9 ho9 hg9 hb9 _
                      have hM9 := HP.out.1.snoc HP.out.2.2 ho9 hg9 (by decide)
                      have hb9 := (HP.out.2.1.alloc HP.out.2.1.size _).trans hb9
                      rw [← HL.out.1, widTo_all hvp, HL.out.1] at hM9
                      have hbv := HV.out.trans (hb9.mono hz)
                      have hbl9 := hbv.size
                      have hwr : ∀ i, i < n + 1 → (nth (widerP Ps v) i).length ≤ 140737488351232 := fun i hi => by
                        have h90 : ∀ i, i < Ps.length → (nth Ps i).length ≤ 90 := HR.out
                        have hl1 := HL.out.1
                        rcases Nat.lt_or_ge i Ps.length with g1 | g1
                        · have := h90 i g1
                          by_cases e : i = v
                          · subst e; rw [nth_widerP_v hvp, List.length_append, List.length_singleton]; omega
                          · rw [nth_widerP_other g1 e]; omega
                        · obtain rfl : i = Ps.length := by omega
                          rw [nth_widerP_n]; simp
                      have hrw := (hM9.rows (by omega) hwr).below (Nat.le_refl _) ((Below.refl w9.heap.size w9).alloc (Nat.le_refl _) (.cells #[.int .i64 (n : Int)] 3))
                      have hO9 := (H3.out.2.2.2.2.1.below (Nat.le_refl _) hbv).alloc (.cells #[.int .i64 (n : Int)] 3)
                      have hg9 := (H3.out.2.2.1.below (Nat.le_refl _) hbv).alloc (.cells #[.int .i64 (n : Int)] 3)
                      have hl9 : Sl (Value.int .i64) (w9.alloc (.cells #[.int .i64 (n : Int)] 3)) (some ⟨w9.heap.size, 0, none⟩) 1 [(n : Int)] := sl_lit w9 [(n : Int)] (by simp)
                      have hb10 := hbv.alloc hbl9 (.cells #[.int .i64 (n : Int)] 3)
                      have hlk := wider_look (v := v) H3.out.2.2.2.2.2.1 hvp (fun x hx => H3.out.2.2.2.2.2.2 x (List.mem_append_left _ hx)) (fun x hx => H3.out.2.2.2.2.2.2 x (List.mem_append_right _ hx))
                      rw [HL.out.1] at hlk
                      have hke := mem_keptL (Ps := Ps) (asked := asked) (given := given) (br := false) (ap := true) hvp
                      rw [show leaveB Ps asked given false true v = apartB (widerP Ps v) [(n : Int)] (openL asked given) given from by unfold leaveB; rw [HL.out.1]; simp] at hke
                      have HQ := Lib.hid (And.intro hb10 (And.intro hrw (And.intro hO9 (And.intro hg9 (And.intro hl9 (And.intro hlk hke))))))
                      clear hM9 hb9 ho9 hbv hwr hrw hO9 hg9 hl9 hb10 hlk hke hMo hlit
                      go_wp2_with fail
                      refine (apart_any A9 _ O C (n + 1) c9 1 1 q dq m2 d2 (widerP Ps v) [(n : Int)] (openL asked given) given _ HQ.out.2.1 HQ.out.2.2.2.2.1 HQ.out.2.2.1 HQ.out.2.2.2.1 (by omega) hqd (by omega) (by omega) (by omega) (by omega)).mono ?_
                      rintro e w10 ⟨rfl, hb11⟩
                      rw [HQ.out.2.2.2.2.2.1]
                      have hb12 := HQ.out.1.trans (hb11.mono HQ.out.1.size)
                      have hU12 := H3.out.2.2.2.1.below (Nat.le_refl _) hb12
                      have hke := HQ.out.2.2.2.2.2.2
                      generalize apartB (widerP Ps v) [(n : Int)] (openL asked given) given = ab at *
                      have HE := Lib.hid (And.intro hb12 (And.intro hU12 hke))
                      clear hb11 hb12 hU12 hke
                      cases ab <;> (
                        go_wp2_with fail
                        refine (has_ref U k d _ (v : Int) _ HE.out.2.1).mono ?_
                        rintro e w11 ⟨rfl, hw11⟩
                        have hw11 := hw11.symm
                        subst hw11
                        rw [HE.out.2.2]
                        go_wp2_with fail
                        exact ⟨⟨v + 1, by go_num, by omega, HE.out.1⟩, by simp [intOf]; omega⟩)
                · obtain rfl : n = v := by omega
                  have HF := Lib.hid (H3.out.1.trans (hb.mono H3.out.1.size))
                  clear hb
                  go_wp2_with fail
                  go_ret
                  exact ⟨rfl, HF.out⟩
        · have hbA := Lib.hid (HB.out.trans (hb2.mono HB.out.size))
          generalize hae : aboveE Ps (asked ++ given) = ae at *
          have he2 : (ae == 0) = false := by simpa using he
          clear hae hU hU0 hb2 hP1 ha1 hg1
          go_wp2_with fail
          go_ret
          exact ⟨rfl, hbA.out⟩
      · have hi1 : ¬ (100 : Int) < (m1 : Nat) := by omega
        have hi2 : (100 : Int) < (m2 : Nat) := by omega
        clear hP1 ha1 hg1
        go_wp2_with fail
        go_ret
        exact ⟨rfl, HB.out⟩
    · have hi1 : (100 : Int) < (m1 : Nat) := by omega
      clear hP1 ha1 hg1
      go_wp2_with fail
      go_ret
      exact ⟨rfl, HB.out⟩
theorem lawB (A : Option Addr) (n c : Nat) (Ps : List (List Int)) (B : Option Addr) (m1 d1 : Nat) (asked : List Int) (C : Option Addr) (m2 d2 : Nat) (given : List Int) (w : World) (h : Rows (Value.int .i64) w A n Ps) (_ : n ≤ c) (_ : n * 24 ≤ 140737488351232) (_ : (∀ i, i < n → (nth Ps i).length * 8 ≤ 140737488351232) ∧ ∀ l ∈ Ps, ∀ x ∈ l, (Lit.int .i64 x).wf = true)
    (ha : Sl (Value.int .i64) w B m1 asked) (_ : ∀ a ∈ asked, (Lit.int .i64 a).wf = true) (hg : Sl (Value.int .i64) w C m2 given) (_ : ∀ a ∈ given, (Lit.int .i64 a).wf = true) (_ : n ≤ 1048576) (_ : m1 ≤ 1048576) (_ : m2 ≤ 1048576) :
    Calls Try.prog 10 #[.slice A n c, .slice B m1 d1, .slice C m2 d2] w fun e w' => e = .returned (.bool true) ∧ Below w.heap.size w w' := law A B C n c m1 d1 m2 d2 Ps asked given w h ha hg
end PruneApart
end Go.Proofs.Ytdlnglffimcopaa
