/- The reference's put, walked. Conditions: as many sizes as variables, within Go's bound. -/
import Derived.Test.YtgmchedfgdgenaaJ13
import Derived.Test.YtgmchedfgdgenaaJ11
import Derived.Test.YtgmchedfgdgenaaJ3
namespace Go.Proofs.Ytgmchedfgdgenaa
open Go.RowKit
attribute [local go_sem] Oper.semAt_some

set_option maxRecDepth 100000 in
set_option maxHeartbeats 4000000 in
theorem put_any (A1 A2 : Option Addr) (n c1 c2 : Nat) (m v size : Int) (S Z : List Int) (w : World) (h1 : Sl (Value.int .i64) w A1 n S) (h2 : Sl (Value.int .i64) w A2 n Z) (hb : (n + 1) * 8 ≤ 140737488351232) :
    Calls Try.prog 76 #[.agg #[.slice A1 n c1, .slice A2 n c2, .int .i64 m], .int .i64 v, .int .i64 size] w fun e w' => ∃ A c B d, e = .returned (.agg #[.slice A (n + 1) c, .slice B (n + 1) d, .int .i64 0]) ∧
      OwnR (Value.int .i64) w' w.heap.size 3 A (n + 1) c (S.take (gapAt S v) ++ v :: S.drop (gapAt S v)) ∧ OwnR (Value.int .i64) w' w.heap.size 3 B (n + 1) d (Z.take (gapAt S v) ++ size :: Z.drop (gapAt S v)) ∧ Below w.heap.size w w' := by
  obtain ⟨p, hp⟩ : ∃ p, p = gapAt S v := ⟨_, rfl⟩
  have hpn : p ≤ n := by rw [hp, ← h1.len]; exact gapAt_le _ _
  rw [← hp]
  have HL := Lib.hid (And.intro h1.len (And.intro h2.len hp))
  have HI := Lib.hid (And.intro h1 h2)
  have big1 := h1.big
  have H0 := (((((Held.init w).sl h1).sl h2).new 29 [.slice A1 n c1, .slice A2 n c2, .int .i64 m]).new 29 [.slice none 0 0, .slice none 0 0, .int .i64 0])
  simp only [World.size_alloc] at H0
  obtain ⟨wb, hwb⟩ : ∃ wb, wb = (w.alloc (.cells [.slice A1 n c1, .slice A2 n c2, .int .i64 m].toArray 29)).alloc (.cells [.slice none 0 0, .slice none 0 0, .int .i64 0].toArray 29) := ⟨_, rfl⟩
  obtain ⟨g, hg⟩ : ∃ g, g = wb.heap.size := ⟨_, rfl⟩
  have hgw : g = w.heap.size + 1 + 1 := by rw [hg, hwb]; simp
  have H1 : Held w _ wb := hwb ▸ H0
  have HH := Lib.hid H1
  have L0 : Boxed2 wb (wb.alloc (.cells #[.slice none 0 0, .slice none 0 0, .int .i64 0] 29)) g 29 none (putL S v p 0).length 0 (putL S v p 0) none (putL Z size p 0).length 0 (putL Z size p 0) (.int .i64 0) := by
    subst hg
    exact ⟨(Below.refl _ _).alloc (Nat.le_refl _) _, RowC.new wb 29 [.slice none 0 0, .slice none 0 0, .int .i64 0], by simpa [putL] using Trio.nil _ _ _ _ _ _ _ _, Nat.le_refl _⟩
  have HX := Lib.hid L0
  have HG := Lib.hid (And.intro hg (And.intro hgw hwb))
  clear h1 h2 H0 H1 L0 hg hwb hp hgw
  go_enter Try.func76, Try.ntmps76
  go_wp2_with fail
  have hgw := HG.out.2.1
  rw [← hgw, ← HG.out.2.2]
  have HGW := Lib.hid hgw
  go_loopw [8, 9] (fun dn j wr => ∃ (i : Nat) (A : Option Addr) (c : Nat) (B : Option Addr) (d : Nat), i ≤ n ∧ j = .int .i64 (i : Nat) ∧ dn = .bool (decide (p < i)) ∧ Boxed2 wb wr g 29 A (putL S v p i).length c (putL S v p i) B (putL Z size p i).length d (putL Z size p i) (.int .i64 0)) (fun _ j _ => n - (intOf j).toNat)
  case atStart => exact ⟨0, none, 0, none, 0, Nat.zero_le _, rfl, by simp, HX.out⟩
  case round =>
    clear HX
    obtain ⟨i, A, c, B, d, hi, rfl, rfl, X0⟩ := hrel
    obtain ⟨wo, hwo⟩ : ∃ wo : World, wo = wr := ⟨_, rfl⟩
    subst hwo
    have H1 := HH.out.step X0.bel
    have s0 := H1.has.2.1.cell 0
    by_cases hlt : i < n
    · obtain ⟨b1, o1, rfl, hbl1, hc1⟩ := H1.has.2.2.2.1.at' (by omega)
      have g1 := hc1 i hlt
      obtain ⟨x, hx⟩ : ∃ x, x = nth S i := ⟨_, rfl⟩
      rw [← hx] at g1
      have HXX := Lib.hid hx
      have HY := Lib.hid X0
      clear hc1 H1 hx X0 hgw
      go_upto_region 6 with fail
      go_cut [8, 27] from 17 to 26 (fun dn b wx => dn = .bool (decide (p < i)) ∧ b = .bool (decide (i = p)) ∧ wo = wx)
      case first =>
        by_cases h1 : p < i
        · have d1 : decide (p < i) = true := by simpa using h1
          have d2 : decide (i = p) = false := by simp; omega
          rw [d1]
          go_wp2_with fail
          go_meet
          case rel => exact ⟨by rw [d1], by rw [d2], rfl⟩
        · have d1 : decide (p < i) = false := by simpa using h1
          rw [d1]
          by_cases h2 : i = p
          · have d2 : decide (i = p) = true := by simpa using h2
            have hv : v < x := by rw [HXX.out, h2, HL.out.2.2]; exact gapAt_hi (by rw [HL.out.1, ← HL.out.2.2]; omega)
            have d3 : decide (v < x) = true := by simpa using hv
            clear h2
            go_wp2_with fail
            go_meet
            case rel => exact ⟨by rw [d1], by rw [d2], rfl⟩
          · have d2 : decide (i = p) = false := by simpa using h2
            have hv : ¬ v < x := by rw [HXX.out]; exact gapAt_lo (by rw [← HL.out.2.2]; omega)
            have d3 : decide (v < x) = false := by simpa using hv
            go_wp2_with fail
            go_meet
            case rel => exact ⟨by rw [d1], by rw [d2], rfl⟩
      case rest =>
      obtain ⟨rfl, rfl, rfl⟩ := hcut
      go_upto_if 27 with fail
      go_cut [8, 27] from 28 to 39 (fun dn b wx => dn = .bool (decide (p ≤ i)) ∧ b = .bool (decide (i = p)) ∧ ∃ (A : Option Addr) (c : Nat) (B : Option Addr) (d : Nat), Boxed2 wb wx g 29 A (midL S v p i).length c (midL S v p i) B (midL Z size p i).length d (midL Z size p i) (.int .i64 0))
      case first =>
        by_cases h2 : i = p
        · have d2 : decide (i = p) = true := by simpa using h2
          rw [d2]
          obtain ⟨ln, hln⟩ : ∃ ln, ln = (putL S v p i).length := ⟨_, rfl⟩
          obtain ⟨lm, hlm⟩ : ∃ lm, lm = (putL Z size p i).length := ⟨_, rfl⟩
          have hle1 : ln ≤ n := by rw [hln, putL_length (by rw [HL.out.1]; exact hpn) (by rw [HL.out.1]; omega)]; split <;> omega
          have hle2 : lm ≤ n := by rw [hlm, putL_length (by rw [HL.out.2.1]; exact hpn) (by rw [HL.out.2.1]; omega)]; split <;> omega
          have X1 := HY.out
          rw [← hln, ← hlm] at X1
          have g0 := X1.row.cell 0
          have hq : (ln + 1) * 8 ≤ 140737488355328 := by omega
          have hq2 : (lm + 1) * 8 ≤ 140737488355328 := by omega
          have X2 := X1.alloc (.cells #[.int .i64 v] 3)
          have e1 : g + 1 ≤ (wo.alloc (.cells #[.int .i64 v] 3)).heap.size := X2.row.lt
          have HX := Lib.hid X2
          have HLN := Lib.hid (And.intro hln (And.intro hlm h2))
          clear X1 X2 hln hlm h2 g1
          go_wp2_with (first
            | (at_builtin; refine wpList_app _ eiI (Value.int .i64) (fun _ => rfl) rfl _ _ rfl (g + 1) _ _ _ _ rfl HX.out.tr.o1 _ _ _ _ rfl (Sl.one (enc := Value.int .i64) _ _ _) hq e1 ?_)
            | fail)
          intro A' c' w4 ho hgr hb' hd
          clear e1 g0
          have f0 := (HX.out.row.below (HX.out.low hgr) (Nat.lt_succ_self g)).frozen 0
          have g0 := (HX.out.row.below (HX.out.low hgr) (Nat.lt_succ_self g)).cell 0
          have X1 := HX.out.app1 ho hgr (by rw [World.size_alloc]; exact hd)
          clear HX ho hgr hb' hd
          go_upto_region 8 with fail
          clear f0 g0
          generalize w4.setCell ⟨g, 0, none⟩ (.slice A' (ln + 1) c') = w5 at *
          have g0 := X1.row.cell 1
          have X2 := X1.alloc (.cells #[.int .i64 size] 3)
          have e1 : g + 1 ≤ (w5.alloc (.cells #[.int .i64 size] 3)).heap.size := X2.row.lt
          have HX := Lib.hid X2
          clear X1 X2
          go_wp2_with (first
            | (at_builtin; refine wpList_app _ eiI (Value.int .i64) (fun _ => rfl) rfl _ _ rfl (g + 1) _ _ _ _ rfl HX.out.tr.o2 _ _ _ _ rfl (Sl.one (enc := Value.int .i64) _ _ _) hq2 e1 ?_)
            | fail)
          intro B' d' w6 ho hgr hb' hd
          clear e1 g0
          have f0 := (HX.out.row.below (HX.out.low2 hgr) (Nat.lt_succ_self g)).frozen 1
          have g0 := (HX.out.row.below (HX.out.low2 hgr) (Nat.lt_succ_self g)).cell 1
          have X1 := HX.out.app2 ho hgr (by rw [World.size_alloc]; exact hd)
          clear HX ho hgr hb' hd
          go_upto_region 9 with fail
          clear f0 g0
          generalize w6.setCell ⟨g, 1, none⟩ (.slice B' (lm + 1) d') = w7 at *
          have HX := Lib.hid X1
          clear X1
          go_wp2_with fail
          go_meet
          case rel =>
            have h3 := HX.out
            have e3 : midL S v p i = putL S v p i ++ [v] := by rw [HLN.out.2.2]; exact midL_at
            have e4 : midL Z size p i = putL Z size p i ++ [size] := by rw [HLN.out.2.2]; exact midL_at
            refine ⟨by have : p ≤ i := by have := HLN.out.2.2; omega
                       simp [this], by rw [d2], A', c', B', d', ?_⟩
            rw [e3, e4, List.length_append, List.length_append, ← HLN.out.1, ← HLN.out.2.1]
            exact h3
        · have d2 : decide (i = p) = false := by simpa using h2
          rw [d2]
          have hd : decide (p < i) = decide (p ≤ i) := by
            by_cases h3 : p < i
            · have : p ≤ i := by omega
              simp [h3, this]
            · have : ¬ p ≤ i := by omega
              simp [h3, this]
          have HH2 := Lib.hid (And.intro h2 hd)
          clear h2 hd
          go_wp2_with fail
          go_meet
          case rel =>
            have h3 := HY.out
            rw [putL_mid HH2.out.1, putL_mid HH2.out.1] at h3
            exact ⟨by rw [HH2.out.2], by rw [d2], A, c, B, d, h3⟩
      case rest =>
      obtain ⟨rfl, rfl, A, c, B, d, X0⟩ := hcut
      obtain ⟨XL, hXL⟩ : ∃ XL, XL = midL S v p i := ⟨_, rfl⟩
      obtain ⟨YL, hYL⟩ : ∃ YL, YL = midL Z size p i := ⟨_, rfl⟩
      rw [← hXL, ← hYL] at X0
      obtain ⟨ln, hln⟩ : ∃ ln, ln = XL.length := ⟨_, rfl⟩
      obtain ⟨lm, hlm⟩ : ∃ lm, lm = YL.length := ⟨_, rfl⟩
      rw [← hln, ← hlm] at X0
      have hle1 : ln ≤ n + 1 := by rw [hln, hXL, midL_length (by rw [HL.out.1]; exact hpn) (by rw [HL.out.1]; omega)]; split <;> omega
      have hle2 : lm ≤ n + 1 := by rw [hlm, hYL, midL_length (by rw [HL.out.2.1]; exact hpn) (by rw [HL.out.2.1]; omega)]; split <;> omega
      have hbnd : ln ≤ n ∧ lm ≤ n := by
        rw [hln, hXL, midL_length (by rw [HL.out.1]; exact hpn) (by rw [HL.out.1]; omega), hlm, hYL, midL_length (by rw [HL.out.2.1]; exact hpn) (by rw [HL.out.2.1]; omega)]
        constructor <;> (split <;> omega)
      obtain ⟨b2, o2, rfl, hbw2, _⟩ := HI.out.2.at' (by omega)
      have hbw1 : b1 < w.heap.size := by
        obtain ⟨b', o', e', h', _⟩ := HI.out.1.at' (by omega)
        injection e' with e'
        injection e' with e' _ _
        omega
      have hwg : w.heap.size < g := by have := HGW.out; omega
      have HY := Lib.hid X0
      have H1 := HH.out.step X0.bel
      have HXY := Lib.hid (And.intro hXL (And.intro hYL (And.intro hln hlm)))
      have r0 := X0.row.cell 0
      have a0 := H1.has.2.1.cell 0
      have e0 : wc.cell? ⟨b1, o1 + i, none⟩ = some (.int .i64 x) := by rw [HXX.out]; exact H1.has.2.2.2.1.cellI hlt
      have hblt : b1 < wc.heap.size := by have := X0.row.lt; omega
      obtain ⟨⟨ix, q1, q2, q3, q4, q5⟩, _, _⟩ := eiI
      have hk1 : ln + 1 ≤ maxLen := by unfold maxLen; omega
      have hk2 : (ln + 1) * 8 ≤ 140737488355328 := by omega
      clear X0 H1 hXL hYL hln hlm g1
      go_upto_region 10 with fail
--R10
      refine wp_region_lastL (S := fun w' => w'.cell? ⟨g, 0, none⟩ = some (.slice A ln c) ∧ w'.cell? ⟨w.heap.size, 0, none⟩ = some (.slice (some ⟨b1, o1, none⟩) n c1) ∧ w'.cell? ⟨b1, o1 + i, none⟩ = some (.int .i64 x)) 10 10 (by kernel_rfl) rfl rfl rfl (by kernel_rfl) ?hS1 (fun hHeld => ?rest1)
      case hS1 => (first | assumption | exact ⟨r0, a0, e0⟩ | exact ⟨r1, a1, e1⟩ | exact ⟨r2, a2, e2⟩ | go_keep)
      refine wpAnyH_takeL (i := 0) (v := ?v2) rfl (by kernel_rfl) (by kernel_rfl) (by kernel_rfl) (fun _ _ _ h => h) (by rfl) ?hy2 (by assumption) ?rest2
      case hy2 => (intro w hSw; (try dsimp only at hSw); go_simp; try with_reducible rfl)
      try simp only [Act.put, List.setIfInBounds_toArray, List.set_cons_zero, List.set_cons_succ]
      refine wpAnyH_takeL (i := 1) (v := ?v3) rfl (by kernel_rfl) (by kernel_rfl) (by kernel_rfl) (fun _ _ _ h => h) (by rfl) ?hy3 (by assumption) ?rest3
      case hy3 => (intro w hSw; (try dsimp only at hSw); go_simp; try with_reducible rfl)
      try simp only [Act.put, List.setIfInBounds_toArray, List.set_cons_zero, List.set_cons_succ]
      refine wpAnyH_takeL (i := 2) (v := ?v4) rfl (by kernel_rfl) (by kernel_rfl) (by kernel_rfl) (fun _ _ _ h => h) (by rfl) ?hy4 (by assumption) ?rest4
      case hy4 => (intro w hSw; (try dsimp only at hSw); go_simp; try with_reducible rfl)
      try simp only [Act.put, List.setIfInBounds_toArray, List.set_cons_zero, List.set_cons_succ]
      refine wpAnyH_takeL (i := 3) (v := ?v5) rfl (by kernel_rfl) (by kernel_rfl) (by kernel_rfl) (fun _ _ _ h => h) (by rfl) ?hy5 (by assumption) ?rest5
      case hy5 => (intro w hSw; (try dsimp only at hSw); go_simp; try with_reducible rfl)
      try simp only [Act.put, List.setIfInBounds_toArray, List.set_cons_zero, List.set_cons_succ]
      refine wpAnyH_takeL (i := 4) (v := ?v6) rfl (by kernel_rfl) (by kernel_rfl) (by kernel_rfl) (fun _ _ _ h => h) (by rfl) ?hy6 (by assumption) ?rest6
      case hy6 => (intro w hSw; (try dsimp only at hSw); go_simp; try with_reducible rfl)
      try simp only [Act.put, List.setIfInBounds_toArray, List.set_cons_zero, List.set_cons_succ]
      refine wpAnyH_takeL (i := 5) (v := ?v7) rfl (by kernel_rfl) (by kernel_rfl) (by kernel_rfl) (fun _ _ _ h => h) (by rfl) ?hy7 (by assumption) ?rest7
      case hy7 => (intro w hSw; (try dsimp only at hSw); go_simp; try with_reducible rfl)
      try simp only [Act.put, List.setIfInBounds_toArray, List.set_cons_zero, List.set_cons_succ]
      refine wpAnyH_takeL (i := 6) (v := ?v8) rfl (by kernel_rfl) (by kernel_rfl) (by kernel_rfl) (fun _ _ _ h => h) (by rfl) ?hy8 (by assumption) ?rest8
      case hy8 => (intro w hSw; (try dsimp only at hSw); go_simp; try with_reducible rfl)
      try simp only [Act.put, List.setIfInBounds_toArray, List.set_cons_zero, List.set_cons_succ]
      refine wpAnyH_ready (rs := [7]) (by kernel_rfl) (by simp) (consL rfl (fun K hK => ?step9))
      (go_simp; (have Y1 := (HY.out.alloc (.cells #[.int .i64 x] 3)).drew); (have r1 := Y1.row.cell 0); (have G1 := HH.out.step Y1.bel); (have a1 := G1.has.2.1.cell 0); (have e1 := ((below_drewN ((Below.refl _ _).alloc (Nat.le_refl _) (.cells #[.int .i64 x] 3)) 1).cell (p := ⟨b1, o1 + i, none⟩) hblt).trans e0); (have hz6 : g + 1 ≤ _ := Y1.row.lt))
      refine hK.out _ _ ?hS9 (fun hHeld => ?rest9)
      case hS9 => (first | assumption | exact ⟨r0, a0, e0⟩ | exact ⟨r1, a1, e1⟩ | exact ⟨r2, a2, e2⟩ | go_keep)
      clear hK K
      try simp only [Act.put, List.setIfInBounds_toArray, List.set_cons_zero, List.set_cons_succ]
      refine wpAnyH_ready (rs := [8]) (by kernel_rfl) (by simp) (consL rfl (fun K hK => ?step10))
      (refine step_append_sl _ (Value.int .i64) (fun _ => rfl) (by rfl) (.tmp 41) (.tmp 47) 22 (by rfl) (g + 1) 3 ix (.int .i64 0) 8 q1 q2 q3 q4 q5 (by rfl) A ln c XL (by rfl) Y1.tr.o1 _ 1 1 [x] (by rfl) ((Sl.one (enc := Value.int .i64) _ _ _).drewN 1) hk1 hk2 hz6 ?_; intro C9a k9a w9 ho9 hg9 hb9 hd9; have hl9 := Y1.low hg9; have r2 := (Y1.row.below hl9 (Nat.lt_succ_self g)).cell 0; have f9 := (Y1.row.below hl9 (Nat.lt_succ_self g)).frozen 0; have a2 := (G1.has.2.1.below hl9 (by omega)).cell 0; have e2 := (hl9.cell (p := ⟨b1, o1 + i, none⟩) (by show b1 < g + 1; omega)).trans e1)
      refine hK.out _ _ ?hS10 (fun hHeld => ?rest10)
      case hS10 => (first | assumption | exact ⟨r0, a0, e0⟩ | exact ⟨r1, a1, e1⟩ | exact ⟨r2, a2, e2⟩ | go_keep)
      clear hK K
      try simp only [Act.put, List.setIfInBounds_toArray, List.set_cons_zero, List.set_cons_succ]
      refine wpAnyH_takeL (i := 9) (v := ?v11) rfl (by kernel_rfl) (by kernel_rfl) (by kernel_rfl) (fun _ _ _ h => h) (by rfl) ?hy11 (by assumption) ?rest11
      case hy11 => (intro w hSw; (try dsimp only at hSw); go_simp; try with_reducible rfl)
      try simp only [Act.put, List.setIfInBounds_toArray, List.set_cons_zero, List.set_cons_succ]
      refine wpAnyH_done (by kernel_rfl) ?_ _
      unfold AheadOf
      go_simp
--RE
      have X1 := Y1.app1 ho9 hg9 (by first | exact hd9 | (rw [World.size_drewN, World.size_alloc]; exact hd9) | (rw [World.size_alloc]; exact hd9))
      clear Y1 G1 ho9 hg9 hb9 hd9 hl9 r0 a0 e0 r1 a1 e1 r2 a2 e2 f9 hz6 hk1 hk2 HY
      generalize w9.setCell ⟨g, 0, none⟩ (.slice C9a (ln + 1) k9a) = wd at *
      have HY := Lib.hid X1
      have H1 := HH.out.step X1.bel
      obtain ⟨y, hy⟩ : ∃ y, y = nth Z i := ⟨_, rfl⟩
      have HYY := Lib.hid hy
      have r0 := X1.row.cell 1
      have a0 := H1.has.2.1.cell 1
      have e0 : wd.cell? ⟨b2, o2 + i, none⟩ = some (.int .i64 y) := by rw [hy]; exact H1.has.2.2.1.cellI hlt
      have hblt : b2 < wd.heap.size := by have := X1.row.lt; omega
      have hk1 : lm + 1 ≤ maxLen := by unfold maxLen; omega
      have hk2 : (lm + 1) * 8 ≤ 140737488355328 := by omega
      clear X1 H1 hy
      go_upto_region 11 with fail
--R11
      refine wp_region_lastL (S := fun w' => w'.cell? ⟨g, 1, none⟩ = some (.slice B lm d) ∧ w'.cell? ⟨w.heap.size, 1, none⟩ = some (.slice (some ⟨b2, o2, none⟩) n c2) ∧ w'.cell? ⟨b2, o2 + i, none⟩ = some (.int .i64 y)) 10 10 (by kernel_rfl) rfl rfl rfl (by kernel_rfl) ?hS12 (fun hHeld => ?rest12)
      case hS12 => (first | assumption | exact ⟨r0, a0, e0⟩ | exact ⟨r1, a1, e1⟩ | exact ⟨r2, a2, e2⟩ | go_keep)
      refine wpAnyH_takeL (i := 0) (v := ?v13) rfl (by kernel_rfl) (by kernel_rfl) (by kernel_rfl) (fun _ _ _ h => h) (by rfl) ?hy13 (by assumption) ?rest13
      case hy13 => (intro w hSw; (try dsimp only at hSw); go_simp; try with_reducible rfl)
      try simp only [Act.put, List.setIfInBounds_toArray, List.set_cons_zero, List.set_cons_succ]
      refine wpAnyH_takeL (i := 1) (v := ?v14) rfl (by kernel_rfl) (by kernel_rfl) (by kernel_rfl) (fun _ _ _ h => h) (by rfl) ?hy14 (by assumption) ?rest14
      case hy14 => (intro w hSw; (try dsimp only at hSw); go_simp; try with_reducible rfl)
      try simp only [Act.put, List.setIfInBounds_toArray, List.set_cons_zero, List.set_cons_succ]
      refine wpAnyH_takeL (i := 2) (v := ?v15) rfl (by kernel_rfl) (by kernel_rfl) (by kernel_rfl) (fun _ _ _ h => h) (by rfl) ?hy15 (by assumption) ?rest15
      case hy15 => (intro w hSw; (try dsimp only at hSw); go_simp; try with_reducible rfl)
      try simp only [Act.put, List.setIfInBounds_toArray, List.set_cons_zero, List.set_cons_succ]
      refine wpAnyH_takeL (i := 3) (v := ?v16) rfl (by kernel_rfl) (by kernel_rfl) (by kernel_rfl) (fun _ _ _ h => h) (by rfl) ?hy16 (by assumption) ?rest16
      case hy16 => (intro w hSw; (try dsimp only at hSw); go_simp; try with_reducible rfl)
      try simp only [Act.put, List.setIfInBounds_toArray, List.set_cons_zero, List.set_cons_succ]
      refine wpAnyH_takeL (i := 4) (v := ?v17) rfl (by kernel_rfl) (by kernel_rfl) (by kernel_rfl) (fun _ _ _ h => h) (by rfl) ?hy17 (by assumption) ?rest17
      case hy17 => (intro w hSw; (try dsimp only at hSw); go_simp; try with_reducible rfl)
      try simp only [Act.put, List.setIfInBounds_toArray, List.set_cons_zero, List.set_cons_succ]
      refine wpAnyH_takeL (i := 5) (v := ?v18) rfl (by kernel_rfl) (by kernel_rfl) (by kernel_rfl) (fun _ _ _ h => h) (by rfl) ?hy18 (by assumption) ?rest18
      case hy18 => (intro w hSw; (try dsimp only at hSw); go_simp; try with_reducible rfl)
      try simp only [Act.put, List.setIfInBounds_toArray, List.set_cons_zero, List.set_cons_succ]
      refine wpAnyH_takeL (i := 6) (v := ?v19) rfl (by kernel_rfl) (by kernel_rfl) (by kernel_rfl) (fun _ _ _ h => h) (by rfl) ?hy19 (by assumption) ?rest19
      case hy19 => (intro w hSw; (try dsimp only at hSw); go_simp; try with_reducible rfl)
      try simp only [Act.put, List.setIfInBounds_toArray, List.set_cons_zero, List.set_cons_succ]
      refine wpAnyH_ready (rs := [7]) (by kernel_rfl) (by simp) (consL rfl (fun K hK => ?step20))
      (go_simp; (have Y1 := (HY.out.alloc (.cells #[.int .i64 y] 3)).drew); (have r1 := Y1.row.cell 1); (have G1 := HH.out.step Y1.bel); (have a1 := G1.has.2.1.cell 1); (have e1 := ((below_drewN ((Below.refl _ _).alloc (Nat.le_refl _) (.cells #[.int .i64 y] 3)) 1).cell (p := ⟨b2, o2 + i, none⟩) hblt).trans e0); (have hz6 : g + 1 ≤ _ := Y1.row.lt))
      refine hK.out _ _ ?hS20 (fun hHeld => ?rest20)
      case hS20 => (first | assumption | exact ⟨r0, a0, e0⟩ | exact ⟨r1, a1, e1⟩ | exact ⟨r2, a2, e2⟩ | go_keep)
      clear hK K
      try simp only [Act.put, List.setIfInBounds_toArray, List.set_cons_zero, List.set_cons_succ]
      refine wpAnyH_ready (rs := [8]) (by kernel_rfl) (by simp) (consL rfl (fun K hK => ?step21))
      (refine step_append_sl _ (Value.int .i64) (fun _ => rfl) (by rfl) (.tmp 51) (.tmp 57) 22 (by rfl) (g + 1) 3 ix (.int .i64 0) 8 q1 q2 q3 q4 q5 (by rfl) B lm d YL (by rfl) Y1.tr.o2 _ 1 1 [y] (by rfl) ((Sl.one (enc := Value.int .i64) _ _ _).drewN 1) hk1 hk2 hz6 ?_; intro C9b k9b w9 ho9 hg9 hb9 hd9; have hl9 := Y1.low2 hg9; have r2 := (Y1.row.below hl9 (Nat.lt_succ_self g)).cell 1; have f9 := (Y1.row.below hl9 (Nat.lt_succ_self g)).frozen 1; have a2 := (G1.has.2.1.below hl9 (by omega)).cell 1; have e2 := (hl9.cell (p := ⟨b2, o2 + i, none⟩) (by show b2 < g + 1; omega)).trans e1)
      refine hK.out _ _ ?hS21 (fun hHeld => ?rest21)
      case hS21 => (first | assumption | exact ⟨r0, a0, e0⟩ | exact ⟨r1, a1, e1⟩ | exact ⟨r2, a2, e2⟩ | go_keep)
      clear hK K
      try simp only [Act.put, List.setIfInBounds_toArray, List.set_cons_zero, List.set_cons_succ]
      refine wpAnyH_takeL (i := 9) (v := ?v22) rfl (by kernel_rfl) (by kernel_rfl) (by kernel_rfl) (fun _ _ _ h => h) (by rfl) ?hy22 (by assumption) ?rest22
      case hy22 => (intro w hSw; (try dsimp only at hSw); go_simp; try with_reducible rfl)
      try simp only [Act.put, List.setIfInBounds_toArray, List.set_cons_zero, List.set_cons_succ]
      refine wpAnyH_done (by kernel_rfl) ?_ _
      unfold AheadOf
      go_simp
--RE
      have X1 := Y1.app2 ho9 hg9 (by first | exact hd9 | (rw [World.size_drewN, World.size_alloc]; exact hd9) | (rw [World.size_alloc]; exact hd9))
      clear Y1 G1 ho9 hg9 hb9 hd9 hl9 r0 a0 e0 r1 a1 e1 r2 a2 e2 f9 hz6 hk1 hk2 HY
      generalize w9.setCell ⟨g, 1, none⟩ (.slice C9b (lm + 1) k9b) = we at *
      have e3 : putL S v p (i + 1) = XL ++ [x] := by rw [HXY.out.1, HXX.out]; exact (midL_step (by rw [HL.out.1]; exact hlt)).symm
      have e4 : putL Z size p (i + 1) = YL ++ [y] := by rw [HXY.out.2.1, HYY.out]; exact (midL_step (by rw [HL.out.2.1]; exact hlt)).symm
      have l3 : (putL S v p (i + 1)).length = ln + 1 := by rw [e3, List.length_append, ← HXY.out.2.2.1]; rfl
      have l4 : (putL Z size p (i + 1)).length = lm + 1 := by rw [e4, List.length_append, ← HXY.out.2.2.2]; rfl
      have hdd : decide (p ≤ i) = decide (p < i + 1) := by
        by_cases h3 : p ≤ i
        · have : p < i + 1 := by omega
          simp [h3, this]
        · have : ¬ p < i + 1 := by omega
          simp [h3, this]
      have HR := Lib.hid (And.intro X1 (And.intro e3 (And.intro e4 (And.intro l3 (And.intro l4 hdd)))))
      clear X1 e3 e4 l3 l4 hdd
      go_wp2_with fail
      refine ⟨⟨i + 1, C9a, k9a, C9b, k9b, by omega, by go_num, by rw [HR.out.2.2.2.2.2], ?_⟩, by simp [intOf]; omega⟩
      rw [HR.out.2.2.2.1, HR.out.2.2.2.2.1, HR.out.2.1, HR.out.2.2.1]
      exact HR.out.1
    · obtain rfl : i = n := by omega
      clear hgw
      by_cases hpn2 : p < i
      · have d1 : decide (p < i) = true := by simpa using hpn2
        rw [d1]
        have hs0 := H1.bel
        have e3 : putL S v p i = S.take p ++ v :: S.drop p := by rw [← HL.out.1]; exact putL_end (by rw [HL.out.1]; exact hpn2)
        have e4 : putL Z size p i = Z.take p ++ size :: Z.drop p := by rw [← HL.out.2.1]; exact putL_end (by rw [HL.out.2.1]; exact hpn2)
        have l3 : (putL S v p i).length = i + 1 := by rw [putL_length (by rw [HL.out.1]; exact hpn) (by rw [HL.out.1]; exact Nat.le_refl _), if_neg (by omega)]
        have l4 : (putL Z size p i).length = i + 1 := by rw [putL_length (by rw [HL.out.2.1]; exact hpn) (by rw [HL.out.2.1]; exact Nat.le_refl _), if_neg (by omega)]
        rw [l3, l4, e3, e4] at X0
        have X1 := X0
        clear X0 H1 hs0 e3 e4 l3 l4
        have p0 := X1.row.cell 0
        have p1 := X1.row.cell 1
        have p2 := X1.row.cell 2
        have hres := (HH.out.step X1.bel).has.1
        have hbw := (HH.out.step X1.bel).bel
        have x0 := hres.cell 0
        have x1 := hres.cell 1
        have x2 := hres.cell 2
        have f0 := hres.frozen 0
        have f1 := hres.frozen 1
        have f2 := hres.frozen 2
        have HE := Lib.hid (And.intro hres (And.intro hbw X1))
        clear hres hbw X1
        go_wp2_with fail
        obtain ⟨wz, hwz⟩ : ∃ wz, wz = (((wo.setCell ⟨w.heap.size + 1, 0, none⟩ (.slice A (i + 1) c)).setCell ⟨w.heap.size + 1, 1, none⟩ (.slice B (i + 1) d)).setCell ⟨w.heap.size + 1, 2, none⟩ (.int .i64 0)) := ⟨_, rfl⟩
        obtain ⟨y0, y1, y2, hbz, htz⟩ := set3 HE.out.2.1 HE.out.1 (by omega) hwz
        rw [← hwz]
        have T := HE.out.2.2.tr
        refine bodyPost_ret (v := .agg #[.slice A (i + 1) c, .slice B (i + 1) d, .int .i64 0]) (by simp [results, Try.results76, go_sem, y0, y1, y2]) rfl ⟨A, c, B, d, rfl, ?_, ?_, hbz⟩
        · have t1 := (T.o1.turn htz (fun q e e2 => by have := T.o1.geT e; have := HGW.out; omega)).mono (show w.heap.size ≤ g + 1 by have := HGW.out; omega)
          exact t1
        · have t2 := (T.o2.turn htz (fun q e e2 => by have := T.o2.geT e; have := HGW.out; omega)).mono (show w.heap.size ≤ g + 1 by have := HGW.out; omega)
          exact t2
      · obtain rfl : p = i := by omega
        have d1 : decide (p < p) = false := by simp
        rw [d1]
        have e3 : putL S v p p = S := by unfold putL; rw [if_pos (Nat.le_refl _), List.take_of_length_le (by rw [HL.out.1]; exact Nat.le_refl _)]
        have e4 : putL Z size p p = Z := by unfold putL; rw [if_pos (Nat.le_refl _), List.take_of_length_le (by rw [HL.out.2.1]; exact Nat.le_refl _)]
        rw [e3, e4, HL.out.1, HL.out.2.1] at X0
        have e5 : S.take p ++ v :: S.drop p = S ++ [v] := by rw [List.take_of_length_le (by rw [HL.out.1]; exact Nat.le_refl _), List.drop_eq_nil_of_le (by rw [HL.out.1]; exact Nat.le_refl _)]
        have e6 : Z.take p ++ size :: Z.drop p = Z ++ [size] := by rw [List.take_of_length_le (by rw [HL.out.2.1]; exact Nat.le_refl _), List.drop_eq_nil_of_le (by rw [HL.out.2.1]; exact Nat.le_refl _)]
        have HE5 := Lib.hid (And.intro e5 e6)
        clear e3 e4 e5 e6 H1
        have X1 := X0
        have g0 := X1.row.cell 0
        have X2 := X1.alloc (.cells #[.int .i64 v] 3)
        have e1 : g + 1 ≤ (wo.alloc (.cells #[.int .i64 v] 3)).heap.size := X2.row.lt
        have hq : (p + 1) * 8 ≤ 140737488355328 := by omega
        have HX := Lib.hid X2
        clear X0 X1 X2
        go_wp2_with (first
          | (at_builtin; refine wpList_app _ eiI (Value.int .i64) (fun _ => rfl) rfl _ _ rfl (g + 1) _ _ _ _ rfl HX.out.tr.o1 _ _ _ _ rfl (Sl.one (enc := Value.int .i64) _ _ _) hq e1 ?_)
          | fail)
        intro A' c' w4 ho hgr hb' hd
        clear e1 g0
        have f0 := (HX.out.row.below (HX.out.low hgr) (Nat.lt_succ_self g)).frozen 0
        have g0 := (HX.out.row.below (HX.out.low hgr) (Nat.lt_succ_self g)).cell 0
        have X1 := HX.out.app1 ho hgr (by rw [World.size_alloc]; exact hd)
        clear HX ho hgr hb' hd
        go_upto_region 14 with fail
        clear f0 g0
        generalize w4.setCell ⟨g, 0, none⟩ (.slice A' (p + 1) c') = w5 at *
        have g0 := X1.row.cell 1
        have X2 := X1.alloc (.cells #[.int .i64 size] 3)
        have e1 : g + 1 ≤ (w5.alloc (.cells #[.int .i64 size] 3)).heap.size := X2.row.lt
        have HX := Lib.hid X2
        clear X1 X2
        go_wp2_with (first
          | (at_builtin; refine wpList_app _ eiI (Value.int .i64) (fun _ => rfl) rfl _ _ rfl (g + 1) _ _ _ _ rfl HX.out.tr.o2 _ _ _ _ rfl (Sl.one (enc := Value.int .i64) _ _ _) hq e1 ?_)
          | fail)
        intro B' d' w6 ho hgr hb' hd
        clear e1 g0
        have f0 := (HX.out.row.below (HX.out.low2 hgr) (Nat.lt_succ_self g)).frozen 1
        have g0 := (HX.out.row.below (HX.out.low2 hgr) (Nat.lt_succ_self g)).cell 1
        have X1 := HX.out.app2 ho hgr (by rw [World.size_alloc]; exact hd)
        clear HX ho hgr hb' hd
        go_upto_region 15 with fail
        clear f0 g0
        generalize w6.setCell ⟨g, 1, none⟩ (.slice B' (p + 1) d') = w7 at *
        rw [← HE5.out.1, ← HE5.out.2] at X1
        have p0 := X1.row.cell 0
        have p1 := X1.row.cell 1
        have p2 := X1.row.cell 2
        have hres := (HH.out.step X1.bel).has.1
        have hbw := (HH.out.step X1.bel).bel
        have x0 := hres.cell 0
        have x1 := hres.cell 1
        have x2 := hres.cell 2
        have f0 := hres.frozen 0
        have f1 := hres.frozen 1
        have f2 := hres.frozen 2
        have HE := Lib.hid (And.intro hres (And.intro hbw X1))
        clear hres hbw X1
        go_wp2_with fail
        obtain ⟨wz, hwz⟩ : ∃ wz, wz = (((w7.setCell ⟨w.heap.size + 1, 0, none⟩ (.slice A' (p + 1) c')).setCell ⟨w.heap.size + 1, 1, none⟩ (.slice B' (p + 1) d')).setCell ⟨w.heap.size + 1, 2, none⟩ (.int .i64 0)) := ⟨_, rfl⟩
        obtain ⟨y0, y1, y2, hbz, htz⟩ := set3 HE.out.2.1 HE.out.1 (by omega) hwz
        rw [← hwz]
        have T := HE.out.2.2.tr
        refine bodyPost_ret (v := .agg #[.slice A' (p + 1) c', .slice B' (p + 1) d', .int .i64 0]) (by simp [results, Try.results76, go_sem, y0, y1, y2]) rfl ⟨A', c', B', d', rfl, ?_, ?_, hbz⟩
        · have t1 := (T.o1.turn htz (fun q e e2 => by have := T.o1.geT e; have := HGW.out; omega)).mono (show w.heap.size ≤ g + 1 by have := HGW.out; omega)
          exact t1
        · have t2 := (T.o2.turn htz (fun q e e2 => by have := T.o2.geT e; have := HGW.out; omega)).mono (show w.heap.size ≤ g + 1 by have := HGW.out; omega)
          exact t2
end Go.Proofs.Ytgmchedfgdgenaa
