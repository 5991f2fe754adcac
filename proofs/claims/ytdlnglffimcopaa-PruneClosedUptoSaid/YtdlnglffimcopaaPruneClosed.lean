/- credencelaw17.PruneClosed, walked: it returns true. Condition: the lists read. -/
import Derived.Test.YtdlnglffimcopaaMany
import Derived.Test.YtdlnglffimcopaaClosedLaw
namespace Go.Proofs.Ytdlnglffimcopaa
open Go.RowKit

namespace PruneClosed
theorem mem_cast {L : List Nat} {p : Int} (hp : 0 ≤ p) : decide (p ∈ castL L) = decide (p.toNat ∈ L) := by
  rw [decide_eq_decide]
  have e : p = ((p.toNat : Nat) : Int) := by omega
  constructor
  · intro h; rw [e, mem_castL] at h; exact h
  · intro h; rw [e, mem_castL]; exact h
theorem nth_castL {L : List Nat} {t : Nat} (ht : t < L.length) : nth (castL L) t = ((nth L t : Nat) : Int) := by unfold castL; rw [nth_map _ ht]
theorem castL_length (L : List Nat) : (castL L).length = L.length := by unfold castL; simp
theorem rising_at {L : List Nat} (h : Rising L) {t : Nat} (ht : t + 1 < L.length) : nth L t < nth L (t + 1) := by
  rw [nth_eq (by omega), nth_eq ht]
  exact (List.pairwise_iff_getElem.1 h) t (t + 1) (by omega) ht (by omega)
theorem has_refB (b : Bool) (A : Option Addr) (n c : Nat) (xs : List Int) (x : Int) (w : World) (h : Sl (Value.int .i64) w A n xs) (hb : decide (x ∈ xs) = b) :
    Calls Try.prog 34 #[.slice A n c, .int .i64 x] w fun e w' => e = .returned (.bool b) ∧ w' = w := by
  subst hb; exact has_ref A n c xs x w h
/-- what stays: the arguments and the barren points -/
structure St0 (w : World) (A B C U : Option Addr) (n m1 m2 k : Nat) (Ps : List (List Int)) (asked given : List Int) : Prop where
  par : Rows (Value.int .i64) w A n Ps
  ask : Sl (Value.int .i64) w B m1 asked
  giv : Sl (Value.int .i64) w C m2 given
  bar : Sl (Value.int .i64) w U k (castL (bareL Ps (asked ++ given)))
theorem St0.below {w w' : World} {A B C U : Option Addr} {n m1 m2 k : Nat} {Ps : List (List Int)} {asked given : List Int} (h : St0 w A B C U n m1 m2 k Ps asked given) (hb : Below w.heap.size w w') : St0 w' A B C U n m1 m2 k Ps asked given :=
  ⟨h.par.below (Nat.le_refl _) hb, h.ask.below (Nat.le_refl _) hb, h.giv.below (Nat.le_refl _) hb, h.bar.below (Nat.le_refl _) hb⟩
set_option maxRecDepth 100000 in
set_option maxHeartbeats 1600000 in
theorem law (A B C : Option Addr) (n c m1 d1 m2 d2 : Nat) (Ps : List (List Int)) (asked given : List Int) (w : World) (h : Rows (Value.int .i64) w A n Ps) (ha : Sl (Value.int .i64) w B m1 asked) (hg : Sl (Value.int .i64) w C m2 given) :
    Calls Try.prog 9 #[.slice A n c, .slice B m1 d1, .slice C m2 d2] w fun e w' => e = .returned (.bool true) ∧ Below w.heap.size w w' := by
  have hlen := h.len
  obtain ⟨wa, hwa⟩ : ∃ wa : World, wa = w := ⟨_, rfl⟩
  subst hwa
  have hal := ha.len
  have HL := Lib.hid (And.intro hlen hal)
  clear hlen hal
  go_enter Try.func9, Try.ntmps9
  go_wp2_with fail
  refine (alive17_any _).mono ?_
  rintro e w1 ⟨rfl, hb1⟩
  have hP1 := h.below (Nat.le_refl _) hb1
  have ha1 := ha.below (Nat.le_refl _) hb1
  have hg1 := hg.below (Nat.le_refl _) hb1
  have HB := Lib.hid hb1
  clear h ha hg hb1
  go_wp2_with fail
  refine (many_any A n c Ps _ hP1).mono ?_
  rintro e w' ⟨b, rfl, rfl, hmany⟩
  cases b with
  | true =>
    clear hmany hP1 ha1 hg1
    go_wp2_with fail
    go_ret
    exact ⟨rfl, HB.out⟩
  | false =>
    obtain ⟨hn14, hr90⟩ := hmany rfl
    have HR := Lib.hid hr90
    clear hmany hr90
    by_cases h1 : m1 ≤ 100
    · by_cases h2 : m2 ≤ 100
      · have hi1 : ¬ (100 : Int) < (m1 : Nat) := by omega
        have hi2 : ¬ (100 : Int) < (m2 : Nat) := by omega
        go_wp2_with fail
        refine (barren_any A B C n c m1 d1 m2 d2 Ps asked given _ hP1 ha1 hg1 (by omega) (by omega)).mono ?_
        rintro e w2 ⟨hb2, U, k, d, rfl, hU, hU0⟩
        by_cases he : aboveE Ps (asked ++ given) = 0
        · have hU := hU he
          have hinv := aboveE_inv he
          rw [he]
          have hbA := HB.out.trans (hb2.mono HB.out.size)
          have hUl := hU.length
          rw [castL_length] at hUl
          have hkn : k ≤ n := by rw [← hUl, ← HL.out.1]; exact bareTo_length _ _ _
          have hUs := hU.sl (by omega)
          have hS2 : St0 w2 A B C U n m1 m2 k Ps asked given := ⟨hP1.below (Nat.le_refl _) hb2, ha1.below (Nat.le_refl _) hb2, hg1.below (Nat.le_refl _) hb2, hUs⟩
          have ha2 := hS2.ask
          have hinA : InN Ps.length asked := fun x hx => hinv.2 x (List.mem_append_left _ hx)
          have hinG : InN Ps.length given := fun x hx => hinv.2 x (List.mem_append_right _ hx)
          have HI := Lib.hid (And.intro hinv.1 (And.intro hinA hinG))
          have H2 := Lib.hid (And.intro hbA (And.intro hS2 (And.intro he hUl)))
          have hemp : OwnR (Value.int .i64) w2 w2.heap.size 3 none 0 0 ([] : List Int) := OwnR.nil _ _ _ _
          clear hbA hS2 hUs hinv hU hU0 hb2 hP1 ha1 hg1 he HB hUl hinA hinG
          go_wp2_with (first
            | (at_builtin; (with_reducible refine wpList_app _ eiInt (Value.int .i64) (fun _ => rfl) rfl _ _ rfl w2.heap.size _ _ _ _ rfl hemp _ _ _ _ rfl ha2 (by omega) (Nat.le_refl _) ?_))
            | fail)
          intro A7 c7 w7 ho7 _ hb7 _
          try simp only [Nat.zero_add, List.nil_append] at ho7
          try simp only [Nat.zero_add]
          have HB7 := Lib.hid hb7
          have hz7 := hb7.size
          have hg7 := (H2.out.2.1.below hb7).giv
          clear hb7 ha2 hemp
          go_wp2_with (first
            | (at_builtin; (with_reducible refine wpList_app _ eiInt (Value.int .i64) (fun _ => rfl) rfl _ _ rfl w2.heap.size _ _ _ _ rfl ho7 _ _ _ _ rfl hg7 (by omega) hz7 ?_))
            | fail)
          intro A8 c8 w8 ho8 _ hb8 _
          have hb8 := HB7.out.trans hb8
          have hS8 := H2.out.2.1.below hb8
          have hbA := H2.out.1.trans (hb8.mono H2.out.1.size)
          have hall := ho8.sl (by omega)
          have hP8 := hS8.par
          have H8 := Lib.hid (And.intro hbA (And.intro hS8 H2.out.2.2))
          clear hbA hS8 hb8 hg7 ho7 ho8 HB7 H2 hz7
          go_wp2_with fail
          refine (above_any A A8 n c _ c8 Ps (asked ++ given) _ hP8 hall (by omega)).mono ?_
          rintro e w3 ⟨hb3, V, kv, dv, rfl, hV, _, hkv⟩
          have hV := hV H8.out.2.2.1
          rw [H8.out.2.2.1]
          have hS3 := H8.out.2.1.below hb3
          have hbA := H8.out.1.trans (hb3.mono H8.out.1.size)
          have hVl := hV.len
          have hsum := above_bare (Ps := Ps) (asked ++ given)
          rw [hVl, H8.out.2.2.2, HL.out.1] at hsum
          have hsi : (kv : Int) + (k : Nat) = (n : Nat) := by omega
          have H3 := Lib.hid (And.intro hbA (And.intro hS3 (And.intro hV.toInt H8.out.2.2.2)))
          have HE := Lib.hid H8.out.2.2.1
          clear hbA hS3 hV hb3 hP8 hall H8 hVl
          go_wp2_with fail
          go_loopw [13] (fun i wr => ∃ t : Nat, i = .int .i64 (t : Nat) ∧ t ≤ k ∧ wr = w3) (fun i _ => k - (intOf i).toNat)
          case atStart => exact ⟨0, rfl, Nat.zero_le _, rfl⟩
          case round => as_aux_lemma =>
            obtain ⟨t, rfl, ht, hwr⟩ := hrel
            have hwr := hwr.symm
            subst hwr
            by_cases hlt : t < k
            · have hi3 : (t : Int) < (k : Nat) := by omega
              obtain ⟨bU, oU, rfl, hbU, hc⟩ := H3.out.2.1.bar.at' (by omega)
              have g1 := hc t hlt
              have htl : t < (bareL Ps (asked ++ given)).length := by rw [H3.out.2.2.2]; exact hlt
              rw [nth_castL htl] at g1
              have hno : decide (((nth (bareL Ps (asked ++ given)) t : Nat) : Int) ∈ castL (upList (toG Ps) ((asked ++ given).map Int.toNat))) = false := by
                rw [decide_eq_false_iff_not, mem_castL]
                exact (mem_ptsOf.1 (nth_mem htl)).2
              have HN := Lib.hid hno
              clear hno hc htl
              generalize nth (bareL Ps (asked ++ given)) t = x at *
              go_wp2_with fail
              refine (has_ref V kv dv _ (x : Int) _ H3.out.2.2.1).mono ?_
              rintro e w9 ⟨rfl, hw9⟩
              have hw9 := hw9.symm
              subst hw9
              rw [show decide ((x : Int) ∈ List.map (fun m : Nat => (m : Int)) (upList (toG Ps) (List.map Int.toNat (asked ++ given)))) = false from HN.out]
              go_wp2_with fail
              exact ⟨⟨t + 1, by go_num, by omega, trivial⟩, by simp [intOf]; omega⟩
            · obtain rfl : k = t := by omega
              have hS := H3.out.2.1
              have hP := hS.par
              have hA := hS.ask
              have hG := hS.giv
              clear hS
              go_wp2_with fail
              refine (kept_prune A B C n c m1 d1 m2 d2 Ps asked given false false _ hP hA hG (by omega) (fun i hi => by have := HR.out i hi; omega) (by omega) (by omega)).mono ?_
              rintro e w4 ⟨hb4, U4, k4, d4, rfl, hU4, _⟩
              have hU4 := (hU4 HE.out).length
              rw [HE.out]
              rw [castL_length, kept_none, List.length_range, HL.out.1] at hU4
              subst hU4
              have hS4 := H3.out.2.1.below hb4
              have hbA := H3.out.1.trans (hb4.mono H3.out.1.size)
              have H4 := Lib.hid (And.intro hbA hS4)
              clear hP hA hG hbA hS4 hb4 H3 hsi hsum
              go_wp2_with fail
              go_loopw [16] (fun i wr => ∃ t : Nat, i = .int .i64 (t : Nat) ∧ 1 ≤ t ∧ t ≤ 4 ∧ Below w4.heap.size w4 wr) (fun i _ => 4 - (intOf i).toNat)
              case atStart => exact ⟨1, rfl, by omega, by omega, Below.refl _ _⟩
              case round => as_aux_lemma =>
                obtain ⟨t, rfl, ht1, ht4, hb⟩ := hrel
                obtain ⟨wb, hwb⟩ : ∃ wb : World, wb = wr := ⟨_, rfl⟩
                subst hwb
                have hS := H4.out.2.below hb
                have hbA := H4.out.1.trans (hb.mono H4.out.1.size)
                have hP := hS.par
                have hA := hS.ask
                have hG := hS.giv
                have HS := Lib.hid (And.intro hbA (And.intro hS hb))
                clear hbA hS hb
                by_cases hlt : t < 4
                · have hi3 : (t : Int) < 4 := by omega
                  go_upto_region 24 with fail
                  go_cut [17, 18] from 110 to 122 (fun v e wx => ∃ (br ap : Bool) (X : Option Addr) (kx dx : Nat), v = .slice X kx dx ∧ e = .int .i64 0 ∧ (br || ap) = true ∧ (t = 1 → br = true ∧ ap = false) ∧ OwnR (Value.int .i64) wx wb.heap.size 3 X kx dx (castL (keptL Ps asked given br ap)) ∧ Below wb.heap.size wb wx)
                  case first => as_aux_lemma =>
                    have hrows : ∀ i, i < Ps.length → (nth Ps i).length ≤ 1000 := fun i hi => by have := HR.out i hi; omega
                    have HRR := Lib.hid hrows
                    clear hrows
                    rcases (show t = 1 ∨ t = 2 ∨ t = 3 by omega) with rfl | rfl | rfl
                    · go_wp2_with fail
                      refine (kept_prune A B C n c m1 d1 m2 d2 Ps asked given true false _ hP hA hG (by omega) HRR.out (by omega) (by omega)).mono ?_
                      rintro e w5 ⟨hb5, X, kx, dx, rfl, hX, _⟩
                      rw [HE.out]
                      have HX := Lib.hid (And.intro (hX HE.out) hb5)
                      clear hX hb5
                      go_wp2_with fail
                      go_meet
                      case rel => exact ⟨true, false, X, kx, dx, rfl, rfl, rfl, fun _ => ⟨rfl, rfl⟩, HX.out.1, HX.out.2⟩
                    · go_wp2_with fail
                      refine (kept_prune A B C n c m1 d1 m2 d2 Ps asked given false true _ hP hA hG (by omega) HRR.out (by omega) (by omega)).mono ?_
                      rintro e w5 ⟨hb5, X, kx, dx, rfl, hX, _⟩
                      rw [HE.out]
                      have HX := Lib.hid (And.intro (hX HE.out) hb5)
                      clear hX hb5
                      go_wp2_with fail
                      go_meet
                      case rel => exact ⟨false, true, X, kx, dx, rfl, rfl, rfl, fun h => by omega, HX.out.1, HX.out.2⟩
                    · go_wp2_with fail
                      refine (kept_prune A B C n c m1 d1 m2 d2 Ps asked given true true _ hP hA hG (by omega) HRR.out (by omega) (by omega)).mono ?_
                      rintro e w5 ⟨hb5, X, kx, dx, rfl, hX, _⟩
                      rw [HE.out]
                      have HX := Lib.hid (And.intro (hX HE.out) hb5)
                      clear hX hb5
                      go_wp2_with fail
                      go_meet
                      case rel => exact ⟨true, true, X, kx, dx, rfl, rfl, rfl, fun h => by omega, HX.out.1, HX.out.2⟩
                  case rest => as_aux_lemma =>
                    obtain ⟨br, ap, X, kx, dx, rfl, rfl, hw, h1t, hX, hbx⟩ := hcut
                    clear hP hA hG
                    have hS5 := HS.out.2.1.below hbx
                    have hXl := hX.length
                    rw [castL_length] at hXl
                    have hkx : kx ≤ n := by rw [← hXl, ← HL.out.1]; exact keptTo_length _ _ _ _ _ _
                    have hXs := hX.sl (by omega)
                    have hba5 := HS.out.1.trans (hbx.mono HS.out.1.size)
                    have hbw5 := HS.out.2.2.trans (hbx.mono HS.out.2.2.size)
                    have q1 : ∀ x, x ∈ keptL Ps asked given br ap → x < n := fun x hx => by rw [← HL.out.1]; exact (mem_kept.1 hx).1
                    have q2 : ∀ x, x ∈ keptL Ps asked given br ap → decide (((x : Nat) : Int) ∈ castL (bareL Ps (asked ++ given))) = false := fun x hx => by
                      rw [decide_eq_false_iff_not, mem_castL]; exact kept_bare HI.out.1 HI.out.2.1 HI.out.2.2 hw hx
                    have q3 : ∀ x p, x ∈ keptL Ps asked given br ap → p ∈ nth Ps x → decide (p ∈ castL (keptL Ps asked given br ap)) = true ∨ decide (p ∈ given) = true := fun x p hx hp => by
                      have hpr := inR_row (checkP_ok HI.out.1).1 (mem_kept.1 hx).1 p hp
                      rw [mem_cast hpr.1, decide_eq_true_iff, decide_eq_true_iff]
                      exact kept_parent HI.out.1 HI.out.2.1 HI.out.2.2 hw hx hp
                    have q4 : ∀ y, y ∈ asked → decide (y ∈ castL (keptL Ps asked given br ap)) = true ∨ decide (y ∈ given) = true := fun y hy => by
                      rw [mem_cast (HI.out.2.1 y hy).1, decide_eq_true_iff, decide_eq_true_iff]
                      exact kept_asked HI.out.1 HI.out.2.1 HI.out.2.2 hy
                    have q5 : t = 1 → ∀ v, v < n → decide (((v : Nat) : Int) ∈ castL (keptL Ps asked given br ap)) = !decide (((v : Nat) : Int) ∈ castL (bareL Ps (asked ++ given))) := fun h v hv => by
                      obtain ⟨rfl, rfl⟩ := h1t h
                      rw [mem_cast (by omega), mem_cast (by omega)]
                      simp only [Int.toNat_natCast]
                      exact kept_or_bare (by rw [HL.out.1]; exact hv)
                    have q6 : Rising (keptL Ps asked given br ap) := kept_rising br ap
                    generalize keptL Ps asked given br ap = L at *
                    have HQ := Lib.hid (And.intro q1 (And.intro q2 (And.intro q3 (And.intro q4 (And.intro q5 q6)))))
                    have HX := Lib.hid (And.intro hS5 (And.intro hXs (And.intro hXl (And.intro hba5 hbw5))))
                    clear hw h1t hX hbx hS5 hXl hXs hba5 hbw5 q1 q2 q3 q4 q5 q6
                    go_wp2_with fail
                    go_loopw [19] (fun i wr => ∃ s : Nat, i = .int .i64 (s : Nat) ∧ s ≤ kx ∧ Below wc.heap.size wc wr) (fun i _ => kx - (intOf i).toNat)
                    case atStart => exact ⟨0, rfl, Nat.zero_le _, Below.refl _ _⟩
                    case round => as_aux_lemma =>
                      obtain ⟨s, rfl, hs, hb⟩ := hrel
                      obtain ⟨wd, hwd⟩ : ∃ wd : World, wd = wr := ⟨_, rfl⟩
                      subst hwd
                      by_cases hlts : s < kx
                      · have hi4 : (s : Int) < (kx : Nat) := by omega
                        have hsl : s < L.length := by rw [HX.out.2.2.1]; exact hlts
                        obtain ⟨bX, oX, rfl, hbX, hc⟩ := (HX.out.2.1.below (Nat.le_refl _) hb).at' (by omega)
                        have g1 := hc s hlts
                        rw [nth_castL hsl] at g1
                        have hxm := nth_mem hsl
                        have hxn := HQ.out.1 _ hxm
                        have hxb := HQ.out.2.1 _ hxm
                        have hbar := (HX.out.1.below hb).bar
                        have hprev : 0 < s → ∃ y : Nat, wd.cell? ⟨bX, oX + (s - 1), none⟩ = some (.int .i64 (y : Int)) ∧ y < nth L s := fun h0 => by
                          have g0 := hc (s - 1) (by omega)
                          rw [nth_castL (by omega)] at g0
                          refine ⟨_, g0, ?_⟩
                          have := rising_at HQ.out.2.2.2.2.2 (t := s - 1) (by omega)
                          rwa [show s - 1 + 1 = s by omega] at this
                        obtain ⟨x, hx⟩ : ∃ x, x = nth L s := ⟨_, rfl⟩
                        rw [← hx] at g1 hxm hxn hxb hprev
                        have HD := Lib.hid (And.intro hxm (And.intro hxb (And.intro hbar hb)))
                        have HXX := Lib.hid hx
                        clear hxm hxb hbar hb hc hsl hx
                        have e1 : ¬ (x : Int) < 0 := by omega
                        have e2 : ¬ (n : Int) ≤ (x : Int) := by omega
                        have e2' : ¬ n ≤ x := by omega
                        have e3 : decide ((x : Int) < 0) = false := by simp
                        have e4 : decide ((n : Int) ≤ (x : Int)) = false := by simp; omega
                        have e5 : decide (n ≤ x) = false := by simp; omega
                        go_upto_region 30 with fail
                        go_cut [168] from 131 to 167 (fun v wx => v = .bool false ∧ ∃ q, wx = wd.drewN q)
                        case first => as_aux_lemma =>
                          rcases Nat.eq_zero_or_pos s with rfl | hs0
                          · clear hprev
                            replace g1 : wd.cell? ⟨bX, oX, none⟩ = some (.int .i64 (x : Int)) := g1
                            have hi5 : (0 : Int) < (kx : Nat) := by omega
                            go_wp2_with fail
                            go_quiet ((go_at_call 34; exact Calls.quiet_of_same (has_refB false _ _ _ _ _ _ (HD.out.2.2.1.drewN _) HD.out.2.1)))
                            go_wp2_with fail
                            go_meet
                            exact ⟨rfl, _, rfl⟩
                          · obtain ⟨y, g0, hyx⟩ := hprev hs0
                            clear hprev
                            have f1 : (0 : Int) < (s : Nat) := by omega
                            have f2 : decide ((0 : Int) < (s : Nat)) = true := by simp; omega
                            have f3 : decide (0 < s) = true := by simp; omega
                            have f4 : IntKind.i64.wrap ((s : Int) - 1) = (s : Int) - 1 := by rw [IntKind.wrap_i64]; omega
                            have f5 : (0 : Int) ≤ (s : Int) - 1 := by omega
                            have f6 : ((s : Int) - 1).toNat = s - 1 := by omega
                            have f7 : (s : Int) - 1 < (kx : Nat) := by omega
                            have f8 : decide ((x : Int) ≤ (y : Int)) = false := by simp; omega
                            have f9 : decide (x ≤ y) = false := by simp; omega
                            go_wp2_with fail
                            go_quiet ((go_at_call 34; exact Calls.quiet_of_same (has_refB false _ _ _ _ _ _ (HD.out.2.2.1.drewN _) HD.out.2.1)))
                            go_wp2_with fail
                            go_meet
                            exact ⟨rfl, _, rfl⟩
                        case rest => as_aux_lemma =>
                          obtain ⟨rfl, q, rfl⟩ := hcut
                          have hbe : Below wc.heap.size wc (wd.drewN q) := below_drewN HD.out.2.2.2 q
                          have hwe : (wd.drewN q).heap.size = wd.heap.size := rfl
                          clear g1 hprev e1 e2 e2' e3 e4 e5 hbX
                          generalize wd.drewN q = we at *
                          have hS6 := HX.out.1.below hbe
                          obtain ⟨bX2, oX2, e, hbX, hc⟩ := (HX.out.2.1.below (Nat.le_refl _) hbe).at' (by omega)
                          injection e with e
                          injection e with e1 e2 _
                          subst e1 e2
                          have g1 := hc s hlts
                          rw [nth_castL (by rw [HX.out.2.2.1]; exact hlts)] at g1
                          have hxx : nth L s = x := HXX.out.symm
                          rw [hxx] at g1
                          obtain ⟨bA, oA, R, mm, dr, rfl, hbA, hcell, hrow⟩ := hS6.par.row hxn
                          have hrl := hrow.len
                          have HY := Lib.hid (And.intro hS6 (And.intro (HX.out.2.1.below (Nat.le_refl _) hbe) (And.intro hbe (And.intro hrow hrl))))
                          have hrb := hrow.big
                          have hxi : (x : Int) < (n : Nat) := by omega
                          clear hS6 hc hxx hbe hrow hrl hwe
                          go_wp2_with fail
                          go_loopw [20] (fun i wr => ∃ j : Nat, i = .int .i64 (j : Nat) ∧ j ≤ mm ∧ wr = we) (fun i _ => mm - (intOf i).toNat)
                          case atStart => exact ⟨0, rfl, Nat.zero_le _, rfl⟩
                          case round => as_aux_lemma =>
                            obtain ⟨j, rfl, hj, hwr⟩ := hrel
                            have hwr := hwr.symm
                            subst hwr
                            by_cases hltj : j < mm
                            · have hi5 : (j : Int) < (mm : Nat) := by omega
                              obtain ⟨bR, oR, rfl, hbR, hc⟩ := HY.out.2.2.2.1.at' (by omega)
                              have g2 := hc j hltj
                              have hpm := nth_mem (xs := nth Ps x) (j := j) (by rw [HY.out.2.2.2.2]; exact hltj)
                              have hq3 := HQ.out.2.2.1 x _ HD.out.1 hpm
                              generalize nth (nth Ps x) j = p at *
                              clear hc hpm
                              obtain ⟨b1, hb1⟩ : ∃ b1, b1 = decide (p ∈ castL L) := ⟨_, rfl⟩
                              rw [← hb1] at hq3
                              have HB1 := Lib.hid hb1
                              clear hb1
                              cases b1 with
                              | true =>
                                clear hq3
                                go_wp2_with fail
                                refine (has_refB true _ kx dx _ p _ HY.out.2.1 HB1.out.symm).mono ?_
                                rintro e w9 ⟨rfl, hw9⟩
                                have hw9 := hw9.symm
                                subst hw9
                                go_wp2_with fail
                                exact ⟨⟨j + 1, by go_num, by omega, trivial⟩, by simp [intOf]; omega⟩
                              | false =>
                                have hq4 : decide (p ∈ given) = true := by rcases hq3 with h | h; cases h; exact h
                                have HQ4 := Lib.hid hq4
                                clear hq3 hq4
                                go_wp2_with fail
                                refine (has_refB false _ kx dx _ p _ HY.out.2.1 HB1.out.symm).mono ?_
                                rintro e w9 ⟨rfl, hw9⟩
                                have hw9 := hw9.symm
                                subst hw9
                                go_wp2_with fail
                                refine (has_refB true _ m2 d2 _ p _ HY.out.1.giv HQ4.out).mono ?_
                                rintro e w9 ⟨rfl, hw9⟩
                                have hw9 := hw9.symm
                                subst hw9
                                go_wp2_with fail
                                exact ⟨⟨j + 1, by go_num, by omega, trivial⟩, by simp [intOf]; omega⟩
                            · obtain rfl : mm = j := by omega
                              go_wp2_with fail
                              exact ⟨⟨s + 1, by go_num, by omega, HY.out.2.2.1⟩, by simp [intOf]; omega⟩
                      · obtain rfl : kx = s := by omega
                        have hS6 := HX.out.1.below hb
                        have hX6 := HX.out.2.1.below (Nat.le_refl _) hb
                        have hbw6 := HX.out.2.2.2.2.trans (hb.mono HX.out.2.2.2.2.size)
                        have HY := Lib.hid (And.intro hS6 (And.intro hX6 hbw6))
                        clear hS6 hX6 hbw6 hb
                        go_wp2_with fail
                        go_loopw [22] (fun i wr => ∃ j : Nat, i = .int .i64 (j : Nat) ∧ j ≤ m1 ∧ wr = wd) (fun i _ => m1 - (intOf i).toNat)
                        case atStart => exact ⟨0, rfl, Nat.zero_le _, rfl⟩
                        case round => as_aux_lemma =>
                          obtain ⟨j, rfl, hj, hwr⟩ := hrel
                          have hwr := hwr.symm
                          subst hwr
                          by_cases hltj : j < m1
                          · have hi5 : (j : Int) < (m1 : Nat) := by omega
                            obtain ⟨bB, oB, rfl, hbB, hc⟩ := HY.out.1.ask.at' (by omega)
                            have g2 := hc j hltj
                            have hym := nth_mem (xs := asked) (j := j) (by rw [HL.out.2]; exact hltj)
                            have hq3 := HQ.out.2.2.2.1 _ hym
                            generalize nth asked j = p at *
                            clear hc hym
                            obtain ⟨b1, hb1⟩ : ∃ b1, b1 = decide (p ∈ castL L) := ⟨_, rfl⟩
                            rw [← hb1] at hq3
                            have HB1 := Lib.hid hb1
                            clear hb1
                            cases b1 with
                            | true =>
                              clear hq3
                              go_wp2_with fail
                              refine (has_refB true _ kx dx _ p _ HY.out.2.1 HB1.out.symm).mono ?_
                              rintro e w9 ⟨rfl, hw9⟩
                              have hw9 := hw9.symm
                              subst hw9
                              go_wp2_with fail
                              exact ⟨⟨j + 1, by go_num, by omega, trivial⟩, by simp [intOf]; omega⟩
                            | false =>
                              have hq4 : decide (p ∈ given) = true := by rcases hq3 with h | h; cases h; exact h
                              have HQ4 := Lib.hid hq4
                              clear hq3 hq4
                              go_wp2_with fail
                              refine (has_refB false _ kx dx _ p _ HY.out.2.1 HB1.out.symm).mono ?_
                              rintro e w9 ⟨rfl, hw9⟩
                              have hw9 := hw9.symm
                              subst hw9
                              go_wp2_with fail
                              refine (has_refB true _ m2 d2 _ p _ HY.out.1.giv HQ4.out).mono ?_
                              rintro e w9 ⟨rfl, hw9⟩
                              have hw9 := hw9.symm
                              subst hw9
                              go_wp2_with fail
                              exact ⟨⟨j + 1, by go_num, by omega, trivial⟩, by simp [intOf]; omega⟩
                          · obtain rfl : m1 = j := by omega
                            by_cases ht : t = 1
                            · subst ht
                              rw [show ((1 : Nat) : Int) = 1 from rfl] at *
                              go_wp2_with fail
                              go_loopw [23] (fun i wr => ∃ v : Nat, i = .int .i64 (v : Nat) ∧ v ≤ n ∧ wr = wd) (fun i _ => n - (intOf i).toNat)
                              case atStart => exact ⟨0, rfl, Nat.zero_le _, rfl⟩
                              case round => as_aux_lemma =>
                                obtain ⟨v, rfl, hv, hwr⟩ := hrel
                                have hwr := hwr.symm
                                subst hwr
                                by_cases hltv : v < n
                                · have hi5 : (v : Int) < (n : Nat) := by omega
                                  have hq5 := HQ.out.2.2.2.2.1 (by first | rfl | trivial) v hltv
                                  obtain ⟨b1, hb1⟩ : ∃ b1, b1 = decide ((v : Int) ∈ castL (bareL Ps (asked ++ given))) := ⟨_, rfl⟩
                                  rw [← hb1] at hq5
                                  have HB1 := Lib.hid (And.intro hb1 hq5)
                                  clear hb1 hq5
                                  cases b1 <;> (
                                    go_wp2_with fail
                                    refine (has_refB _ _ kx dx _ (v : Int) _ HY.out.2.1 HB1.out.2).mono ?_
                                    rintro e w9 ⟨rfl, hw9⟩
                                    have hw9 := hw9.symm
                                    subst hw9
                                    go_wp2_with fail
                                    refine (has_refB _ _ k d _ (v : Int) _ HY.out.1.bar HB1.out.1.symm).mono ?_
                                    rintro e w9 ⟨rfl, hw9⟩
                                    have hw9 := hw9.symm
                                    subst hw9
                                    go_wp2_with fail
                                    exact ⟨⟨v + 1, by go_num, by omega, trivial⟩, by simp [intOf]; omega⟩)
                                · obtain rfl : n = v := by omega
                                  go_wp2_with fail
                                  exact ⟨⟨2, by go_num, by omega, by omega, HY.out.2.2⟩, by simp [intOf]⟩
                            · have hi6 : ¬ (t : Int) = 1 := by omega
                              have HT := Lib.hid ht
                              clear ht
                              go_wp2_with fail
                              go_loopw [23] (fun i wr => ∃ v : Nat, i = .int .i64 (v : Nat) ∧ v ≤ n ∧ wr = wd) (fun i _ => n - (intOf i).toNat)
                              case atStart => exact ⟨0, rfl, Nat.zero_le _, rfl⟩
                              case round => as_aux_lemma =>
                                obtain ⟨v, rfl, hv, hwr⟩ := hrel
                                have hwr := hwr.symm
                                subst hwr
                                by_cases hltv : v < n
                                · have hi5 : (v : Int) < (n : Nat) := by omega
                                  go_wp2_with fail
                                  exact ⟨⟨t + 1, by go_num, by omega, by omega, HY.out.2.2⟩, by simp [intOf]; omega⟩
                                · obtain rfl : n = v := by omega
                                  go_wp2_with fail
                                  exact ⟨⟨t + 1, by go_num, by omega, by omega, HY.out.2.2⟩, by simp [intOf]; omega⟩
                · obtain rfl : t = 4 := by omega
                  clear hP hA hG
                  go_wp2_with fail
                  go_ret
                  exact ⟨rfl, HS.out.1⟩
        · have hbA := Lib.hid (HB.out.trans (hb2.mono HB.out.size))
          obtain ⟨rfl, rfl, rfl⟩ := hU0 he
          generalize hae : aboveE Ps (asked ++ given) = ae at *
          have he2 : (ae == 0) = false := by simpa using he
          clear hae hU hb2 hP1 ha1 hg1
          go_wp2_with fail
          go_ret
          exact ⟨rfl, hbA.out⟩
      · have hi1 : ¬ (100 : Int) < (m1 : Nat) := by omega
        have hi2 : (100 : Int) < (m2 : Nat) := by omega
        clear hP1 ha1 hg1
        go_wp2_with fail
        go_ret
        exact ⟨rfl, HB.out⟩
    · have hi1 : (100 : Int) < (m1 : Nat) := by omega
      clear hP1 ha1 hg1
      go_wp2_with fail
      go_ret
      exact ⟨rfl, HB.out⟩
theorem lawB (A : Option Addr) (n c : Nat) (Ps : List (List Int)) (B : Option Addr) (m1 d1 : Nat) (asked : List Int) (C : Option Addr) (m2 d2 : Nat) (given : List Int) (w : World) (h : Rows (Value.int .i64) w A n Ps) (_ : n ≤ c) (_ : n * 24 ≤ 140737488351232) (_ : (∀ i, i < n → (nth Ps i).length * 8 ≤ 140737488351232) ∧ ∀ l ∈ Ps, ∀ x ∈ l, (Lit.int .i64 x).wf = true)
    (ha : Sl (Value.int .i64) w B m1 asked) (_ : ∀ a ∈ asked, (Lit.int .i64 a).wf = true) (hg : Sl (Value.int .i64) w C m2 given) (_ : ∀ a ∈ given, (Lit.int .i64 a).wf = true) (_ : n ≤ 1048576) (_ : m1 ≤ 1048576) (_ : m2 ≤ 1048576) :
    Calls Try.prog 9 #[.slice A n c, .slice B m1 d1, .slice C m2 d2] w fun e w' => e = .returned (.bool true) ∧ Below w.heap.size w w' := law A B C n c m1 d1 m2 d2 Ps asked given w h ha hg
end PruneClosed
end Go.Proofs.Ytdlnglffimcopaa
