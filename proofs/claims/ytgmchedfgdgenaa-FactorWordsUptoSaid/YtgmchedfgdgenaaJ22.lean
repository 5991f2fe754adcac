/- Joined by program out of: Large, Texts13. What each says stands at its own head. -/
import Derived.Test.YtgmchedfgdgenaaJ13
import Derived.Test.YtgmchedfgdgenaaUnion
import Derived.Test.YtgmchedfgdgenaaJ3
import Derived.Test.YtgmchedfgdgenaaJ10
import Derived.Test.YtgmchedfgdgenaaJ9
/- large: whether a product has more than 3000 cells, walked. Conditions: the lists read, within Go's bound. -/
namespace Go.Proofs.Ytgmchedfgdgenaa
open Go.RowKit
attribute [local go_sem] Oper.semAt_some

def largeB (S1 Z1 : List Int) (m1 : Nat) (S2 Z2 : List Int) (m2 : Nat) : Bool :=
  if checkC S1 Z1 m1 ≠ 0 then false else if checkC S2 Z2 m2 ≠ 0 then false else if unionErr S1 Z1 S2 Z2 ≠ 0 then false else decide (3000 < sufP (uniZ S1 Z1 S2 Z2) 0)
set_option maxRecDepth 100000 in
set_option maxHeartbeats 1600000 in
theorem large_any (A1 A2 A3 B1 B2 B3 : Option Addr) (n1 c1 n2 c2 n3 c3 m1 d1 m2 d2 m3 d3 : Nat) (S1 Z1 S2 Z2 : List Int) (w : World)
    (h1 : Sl (Value.int .i64) w A1 n1 S1) (h2 : Sl (Value.int .i64) w A2 n2 Z1) (k1 : Sl (Value.int .i64) w B1 m1 S2) (k2 : Sl (Value.int .i64) w B2 m2 Z2) (hb : (n1 + m1 + 1) * 8 ≤ 140737488351232) :
    Calls Try.prog 27 #[.agg #[.slice A1 n1 c1, .slice A2 n2 c2, .slice A3 n3 c3], .agg #[.slice B1 m1 d1, .slice B2 m2 d2, .slice B3 m3 d3]] w fun e w' => e = .returned (.bool (largeB S1 Z1 n3 S2 Z2 m3)) ∧ Below w.heap.size w w' := by
  have HL := Lib.hid (And.intro h1.len (And.intro h2.len (And.intro k1.len k2.len)))
  have H0 := ((((((Held.init w).sl h1).sl h2).sl k1).sl k2).new 24 [.slice A1 n1 c1, .slice A2 n2 c2, .slice A3 n3 c3]).new 24 [.slice B1 m1 d1, .slice B2 m2 d2, .slice B3 m3 d3]
  simp only [World.size_alloc] at H0
  clear h1 h2 k1 k2
  have a0 := H0.has.2.1.cell 0
  have a1 := H0.has.2.1.cell 1
  have a2 := H0.has.2.1.cell 2
  go_enter Try.func27, Try.ntmps27
  go_wp2_with fail
  refine (shape_any A1 A2 A3 n1 c1 n2 c2 n3 c3 _).mono ?_
  rintro e w1 ⟨rfl, hb1⟩
  have H1 := (H0.step hb1).new 29 [.slice A1 n1 c1, .slice A2 n2 c2, .int .i64 (n3 : Int)]
  clear H0 hb1 a0 a1 a2
  have a0 := H1.has.2.1.cell 0
  have a1 := H1.has.2.1.cell 1
  have a2 := H1.has.2.1.cell 2
  go_wp2_with fail
  refine (shape_any B1 B2 B3 m1 d1 m2 d2 m3 d3 _).mono ?_
  rintro e w2 ⟨rfl, hb2⟩
  generalize hg1 : w1.heap.size = g1 at *
  have H2 := (H1.step hb2).new 29 [.slice B1 m1 d1, .slice B2 m2 d2, .int .i64 (m3 : Int)]
  have HG1 := Lib.hid hg1
  clear H1 hb2 a0 a1 a2 hg1
  have a0 := H2.has.2.1.cell 0
  have a1 := H2.has.2.1.cell 1
  have a2 := H2.has.2.1.cell 2
  have b0 := H2.has.1.cell 0
  have b1 := H2.has.1.cell 1
  have b2 := H2.has.1.cell 2
  go_wp2_with fail
  refine (rcheck_any A1 A2 n1 c1 n2 c2 n3 S1 Z1 _ H2.has.2.2.2.2.2.2.2.1 H2.has.2.2.2.2.2.2.1).mono ?_
  rintro e w3 ⟨rfl, hb3⟩
  generalize hg2 : w2.heap.size = g2 at *
  have H3 := H2.step hb3
  have HG2 := Lib.hid hg2
  clear H2 hb3 a0 a1 a2 b0 b1 b2 hg2
  generalize hck1 : checkC S1 Z1 n3 = ck1 at *
  by_cases hk1 : ck1 = 0
  · subst hk1
    have HC1 := Lib.hid (checkC_ok hck1)
    have HD1 := Lib.hid hck1
    clear hck1
    have b0 := H3.has.1.cell 0
    have b1 := H3.has.1.cell 1
    have b2 := H3.has.1.cell 2
    go_wp2_with fail
    refine (rcheck_any B1 B2 m1 d1 m2 d2 m3 S2 Z2 _ H3.has.2.2.2.2.2.1 H3.has.2.2.2.2.1).mono ?_
    rintro e w4 ⟨rfl, hb4⟩
    have H4 := H3.step hb4
    clear H3 hb4 b0 b1 b2
    generalize hck2 : checkC S2 Z2 m3 = ck2 at *
    by_cases hk2 : ck2 = 0
    · subst hk2
      have HC2 := Lib.hid (checkC_ok hck2)
      have HD2 := Lib.hid hck2
      clear hck2
      have a0 := H4.has.2.1.cell 0
      have a1 := H4.has.2.1.cell 1
      have a2 := H4.has.2.1.cell 2
      have b0 := H4.has.1.cell 0
      have b1 := H4.has.1.cell 1
      have b2 := H4.has.1.cell 2
      go_wp2_with fail
      obtain rfl : n2 = n1 := by have := HC1.out.1.len; have := HL.out.1; have := HL.out.2.1; omega
      obtain rfl : m2 = m1 := by have := HC2.out.1.len; have := HL.out.2.2.1; have := HL.out.2.2.2; omega
      refine (union_any A1 A2 B1 B2 n2 c1 c2 m2 d1 d2 n3 m3 S1 Z1 S2 Z2 _ H4.has.2.2.2.2.2.2.2.1 H4.has.2.2.2.2.2.2.1 H4.has.2.2.2.2.2.1 H4.has.2.2.2.2.1 hb HC1.out.1 HC2.out.1).mono ?_
      intro e w5 hp
      unfold UnionPost at hp
      generalize huu : unionErr S1 Z1 S2 Z2 = u at *
      have HF : ∀ b : Bool, (if u ≠ 0 then false else decide (3000 < sufP (uniZ S1 Z1 S2 Z2) 0)) = b → largeB S1 Z1 n3 S2 Z2 m3 = b := fun b hb => by
        unfold largeB; rw [HD1.out, HD2.out, huu]; simpa using hb
      have HQ := Lib.hid HF
      clear huu HF a0 a1 a2 b0 b1 b2
      rcases hp with ⟨hu, rfl, hb5⟩ | ⟨hu, A, c, B, d, rfl, sA, sB, _, _, hb5⟩
      · have H5 := (H4.step hb5).new 29 [.slice none 0 0, .slice none 0 0, .int .i64 0]
        have HE := Lib.hid H5.bel
        have hne : decide (u = 0) = false := by simpa using hu
        have HU := Lib.hid hu
        clear H4 H5 hb5 hu
        go_wp2_with fail
        exact bodyPost_ret (v := .bool false) (by simp [results, Try.results27, go_sem]) rfl ⟨by rw [HQ.out false (by rw [if_pos HU.out])], HE.out⟩
      · generalize hT : sufP (uniZ S1 Z1 S2 Z2) 0 = T at *
        have H5 := (H4.step hb5).new 29 [.slice A (uniL S1 S2).length c, .slice B (uniL S1 S2).length d, .int .i64 T]
        have HE := Lib.hid H5.bel
        have x2 := H5.has.1.cell 2
        subst hu
        have HU := Lib.hid hT
        clear H4 H5 hb5 sA sB hT
        go_wp2_with fail
        all_goals exact bodyPost_ret (v := .bool (decide (3000 < T))) (by simp [results, Try.results27, go_sem, *]) rfl ⟨by rw [HQ.out (decide (3000 < T)) (by simp)], HE.out⟩
    · have hne : (ck2 != 0) = true := by simpa using hk2
      have HK := Lib.hid (And.intro hck2 hk2)
      have HE := Lib.hid H4.bel
      clear H4 hk2 hck2
      go_wp2_with fail
      exact bodyPost_ret (v := .bool false) (by simp [results, Try.results27, go_sem]) rfl ⟨by unfold largeB; rw [HD1.out, HK.out.1, if_neg (by simp), if_pos HK.out.2], HE.out⟩
  · have hne : (ck1 != 0) = true := by simpa using hk1
    have HK := Lib.hid (And.intro hck1 hk1)
    have HE := Lib.hid H3.bel
    clear H3 hk1 hck1
    go_wp2_with fail
    exact bodyPost_ret (v := .bool false) (by simp [results, Try.results27, go_sem]) rfl ⟨by unfold largeB; rw [HK.out.1, if_pos HK.out.2], HE.out⟩
end Go.Proofs.Ytgmchedfgdgenaa
/- credencelaw13.texts, walked. Conditions: the lists read, within Go's bound; the name is short. -/
namespace Go.Proofs.Ytgmchedfgdgenaa
open Go.RowKit
attribute [local go_sem] Oper.semAt_some

/-- the texts of a table -/
def textL (name : ByteArray) (n : Nat) : List ByteArray := (List.range n).map fun i => name ++ digT i
theorem textL_succ (name : ByteArray) (n : Nat) : textL name (n + 1) = textL name n ++ [name ++ digT n] := by unfold textL; rw [List.range_succ, List.map_append]; rfl
theorem textL_length (name : ByteArray) (n : Nat) : (textL name n).length = n := by simp [textL]
set_option maxRecDepth 100000 in
set_option maxHeartbeats 1600000 in
theorem texts_any (A1 A2 A3 : Option Addr) (n1 c1 n2 c2 n3 c3 : Nat) (name : ByteArray) (w : World) (hn : name.size ≤ 1) (b3 : n3 * 16 ≤ 140737488351232) :
    Calls Try.prog 29 #[.agg #[.slice A1 n1 c1, .slice A2 n2 c2, .slice A3 n3 c3], .string name] w fun e w' => ∃ C k, e = .returned (.agg #[.slice A1 n1 c1, .slice A2 n2 c2, .slice C n3 k]) ∧
      OwnR Value.string w' w.heap.size 9 C n3 k (textL name n3) ∧ Below w.heap.size w w' := by
  have H0 := (((Held.init w).new 24 [.slice A1 n1 c1, .slice A2 n2 c2, .slice A3 n3 c3]).new 33 [.slice none 0 0, .slice none 0 0, .slice none 0 0]).new 33 [.slice A1 n1 c1, .slice A2 n2 c2, .slice none 0 0]
  simp only [World.size_alloc] at H0
  obtain ⟨wc, hwc⟩ : ∃ wc, wc = ((w.alloc (.cells [.slice A1 n1 c1, .slice A2 n2 c2, .slice A3 n3 c3].toArray 24)).alloc (.cells [.slice none 0 0, .slice none 0 0, .slice none 0 0].toArray 33)).alloc (.cells [.slice A1 n1 c1, .slice A2 n2 c2, .slice none 0 0].toArray 33) := ⟨_, rfl⟩
  have H1 : Held w _ wc := hwc ▸ H0
  have HC := Lib.hid H1
  have hwcs : wc.heap.size = w.heap.size + 1 + 1 + 1 := by rw [hwc]; simp
  have HW := Lib.hid (And.intro hwc hwcs)
  clear H0 H1 hwc hwcs
  go_enter Try.func29, Try.ntmps29
  go_wp2_with fail
  rw [← show wc = ((w.alloc (.cells #[.slice A1 n1 c1, .slice A2 n2 c2, .slice A3 n3 c3] 24)).alloc (.cells #[.slice none 0 0, .slice none 0 0, .slice none 0 0] 33)).alloc (.cells #[.slice A1 n1 c1, .slice A2 n2 c2, .slice none 0 0] 33) from HW.out.1]
  go_loopw [6] (fun i wr => ∃ (t : Nat) (C : Option Addr) (k : Nat), t ≤ n3 ∧ i = .int .i64 (t : Nat) ∧ OutLp Value.string 33 9 wc (w.heap.size + 1 + 1) (.slice A1 n1 c1) (.slice A2 n2 c2) wr C t k (textL name t)) (fun i _ => n3 - (intOf i).toNat)
  case atStart => exact ⟨0, none, 0, Nat.zero_le _, rfl, Turn.refl _ _, HC.out.has.1, OwnR.nil _ _ _ _, by rw [HW.out.2]; omega⟩
  case round =>
    obtain ⟨t, C, k, ht, rfl, lp⟩ := hrel
    have hwr := lp.tu.size
    have abx := HC.out.has.2.2.1.turn lp.tu (by omega)
    have a2 := abx.cell 2
    by_cases hlt : t < n3
    · have LP := Lib.hid lp
      have p2 := lp.box.cell 2
      have HD := Lib.hid lp.drew
      have hts := digT_size (t + 1) t (by omega)
      have z3 : ¬ 9223372036854775807 < name.size + (digT t).size := by omega
      obtain ⟨⟨ix, e1, e2, e3, e4, e5⟩, _, _⟩ := eiSt
      have hk1 : t + 1 ≤ maxLen := by unfold maxLen; omega
      have hk2 : (t + 1) * 16 ≤ 140737488355328 := by omega
      clear abx lp
      go_upto_region 5 with fail
--R
      refine wp_region_lastL (S := fun w' => w'.cell? ⟨w.heap.size + 1 + 1, 2, none⟩ = some (.slice C t k)) 9 9 (by kernel_rfl) rfl rfl rfl (by kernel_rfl) ?hS1 (fun hHeld => ?rest1)
      case hS1 => (first | assumption | exact p2 | exact p5 | exact p6 | exact p9 | go_keep)
      refine wpAnyH_takeL (i := 0) (v := ?v2) rfl (by kernel_rfl) (by kernel_rfl) (by kernel_rfl) (fun _ _ _ h => h) (by rfl) ?hy2 (by assumption) ?rest2
      case hy2 => (intro w hSw; (try dsimp only at hSw); go_simp; try with_reducible rfl)
      try simp only [Act.put, List.setIfInBounds_toArray, List.set_cons_zero, List.set_cons_succ]
      refine wpAnyH_takeL (i := 1) (v := ?v3) rfl (by kernel_rfl) (by kernel_rfl) (by kernel_rfl) (fun _ _ _ h => h) (by rfl) ?hy3 (by assumption) ?rest3
      case hy3 => (intro w hSw; (try dsimp only at hSw); go_simp; try with_reducible rfl)
      try simp only [Act.put, List.setIfInBounds_toArray, List.set_cons_zero, List.set_cons_succ]
      refine wpAnyH_takeL (i := 2) (v := ?v4) rfl (by kernel_rfl) (by kernel_rfl) (by kernel_rfl) (fun _ _ _ h => h) (by rfl) ?hy4 (by assumption) ?rest4
      case hy4 => (intro w hSw; (try dsimp only at hSw); go_simp; try with_reducible rfl)
      try simp only [Act.put, List.setIfInBounds_toArray, List.set_cons_zero, List.set_cons_succ]
      refine wpAnyH_takeL (i := 3) (v := ?v5) rfl (by kernel_rfl) (by kernel_rfl) (by kernel_rfl) (fun _ _ _ h => h) (by rfl) ?hy5 (by assumption) ?rest5
      case hy5 => (intro w hSw; (try dsimp only at hSw); go_simp; try with_reducible rfl)
      try simp only [Act.put, List.setIfInBounds_toArray, List.set_cons_zero, List.set_cons_succ]
      refine wpAnyH_ready (rs := [4]) (by kernel_rfl) (by simp) (consL rfl (fun K hK => ?step6))
      (go_simp; (refine (digits_any (t + 1) t (by omega) (by omega) _).mono ?_); (rintro e w7 ⟨rfl, hb7⟩); (have P5 := HD.out.below hb7); (have p5 := P5.box.cell 2))
      refine hK.out _ _ ?hS6 (fun hHeld => ?rest6)
      case hS6 => (first | assumption | exact p2 | exact p5 | exact p6 | exact p9 | go_keep)
      clear hK K
      try simp only [Act.put, List.setIfInBounds_toArray, List.set_cons_zero, List.set_cons_succ]
      refine wpAnyH_takeL (i := 5) (v := ?v7) rfl (by kernel_rfl) (by kernel_rfl) (by kernel_rfl) (fun _ _ _ h => h) (by rfl) ?hy7 (by assumption) ?rest7
      case hy7 => (intro w hSw; (try dsimp only at hSw); go_simp; try with_reducible rfl)
      try simp only [Act.put, List.setIfInBounds_toArray, List.set_cons_zero, List.set_cons_succ]
      refine wpAnyH_ready (rs := [6]) (by kernel_rfl) (by simp) (consL rfl (fun K hK => ?step8))
      (go_simp; (have P6 := P5.alloc (.cells #[.string (name ++ digT t)] 9)); (have p6 := P6.box.cell 2); (have hz6 := P6.tu.size))
      refine hK.out _ _ ?hS8 (fun hHeld => ?rest8)
      case hS8 => (first | assumption | exact p2 | exact p5 | exact p6 | exact p9 | go_keep)
      clear hK K
      try simp only [Act.put, List.setIfInBounds_toArray, List.set_cons_zero, List.set_cons_succ]
      refine wpAnyH_ready (rs := [7]) (by kernel_rfl) (by simp) (consL rfl (fun K hK => ?step9))
      (refine step_append_sl _ Value.string (fun _ => rfl) (by rfl) (.tmp 20) (.tmp 25) 31 (by rfl) wc.heap.size 9 ix (.string ⟨#[]⟩) 16 e1 e2 e3 e4 e5 (by rfl) C t k (textL name t) (by rfl) P6.cells _ 1 1 [name ++ digT t] (by rfl) (Sl.one (enc := Value.string) _ _ _) hk1 hk2 hz6 ?_; intro C9 k9 w9 ho9 hg9 hb9 hd9; have hrow9 := P6.box.turn (Turn.of_grown hg9) (fun e => by have := (P6.cells.geT (P6.cells.block_eq e)).1; have := P6.pw; omega); have p9 := hrow9.cell 2; have f9 := hrow9.frozen 2)
      refine hK.out _ _ ?hS9 (fun hHeld => ?rest9)
      case hS9 => (first | assumption | exact p2 | exact p5 | exact p6 | exact p9 | go_keep)
      clear hK K
      try simp only [Act.put, List.setIfInBounds_toArray, List.set_cons_zero, List.set_cons_succ]
      refine wpAnyH_takeL (i := 8) (v := ?v10) rfl (by kernel_rfl) (by kernel_rfl) (by kernel_rfl) (fun _ _ _ h => h) (by rfl) ?hy10 (by assumption) ?rest10
      case hy10 => (intro w hSw; (try dsimp only at hSw); go_simp; try with_reducible rfl)
      try simp only [Act.put, List.setIfInBounds_toArray, List.set_cons_zero, List.set_cons_succ]
      refine wpAnyH_done (by kernel_rfl) ?_ _
      unfold AheadOf
      go_simp
--RE
      have P7 := P6.app (ys := textL name (t + 1)) (by rw [textL_succ]; exact ho9) hg9
      have HR := Lib.hid P7
      clear P6 P5 P7 ho9 hg9 hb9 hd9 hb7 hrow9 p9 f9 p5 p6 p2 hz6 hk1 hk2
      go_wp2_with fail
      exact ⟨⟨t + 1, C9, k9, by omega, by go_num, HR.out⟩, by simp [intOf]; omega⟩
    · obtain rfl : t = n3 := by omega
      have rbx := HC.out.has.2.1.turn lp.tu (by omega)
      have BB : Below w.heap.size w wr := HC.out.bel.trans (lp.tu.below (by have := HW.out.2; omega) (fun x hx e => by omega))
      have p0 := lp.box.cell 0
      have p1 := lp.box.cell 1
      have p2 := lp.box.cell 2
      have x0 := rbx.cell 0
      have x1 := rbx.cell 1
      have x2 := rbx.cell 2
      have f0 := rbx.frozen 0
      have f1 := rbx.frozen 1
      have f2 := rbx.frozen 2
      have HE := Lib.hid (And.intro rbx (And.intro BB lp))
      clear rbx BB lp abx
      go_wp2_with fail
      obtain ⟨wz, hwz⟩ : ∃ wz, wz = (((wr.setCell ⟨w.heap.size + 1, 0, none⟩ (.slice A1 n1 c1)).setCell ⟨w.heap.size + 1, 1, none⟩ (.slice A2 n2 c2)).setCell ⟨w.heap.size + 1, 2, none⟩ (.slice C t k)) := ⟨_, rfl⟩
      obtain ⟨y0, y1, y2, hbz, htz⟩ := set3 HE.out.2.1 HE.out.1 (by omega) hwz
      rw [← hwz]
      refine bodyPost_ret (v := .agg #[.slice A1 n1 c1, .slice A2 n2 c2, .slice C t k]) (by simp [results, Try.results29, go_sem, y0, y1, y2]) rfl ⟨C, k, rfl, ?_, hbz⟩
      have ho := HE.out.2.2.cells
      have hw := HW.out.2
      exact (ho.turn htz (fun q e e2 => by have := ho.geT e; omega)).mono (by omega)
end Go.Proofs.Ytgmchedfgdgenaa
