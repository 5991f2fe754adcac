/- factor.Times at string, walked. Conditions: the lists read, within Go's bound; the cells may be multiplied. -/
import Derived.Test.YtgmchedfgdgenaaJ7
import Derived.Test.YtgmchedfgdgenaaJ8
import Derived.Test.YtgmchedfgdgenaaJ6
import Derived.Test.YtgmchedfgdgenaaJ9
import Derived.Deep.RegionHeld3
namespace Go.Proofs.Ytgmchedfgdgenaa
open Go.RowKit Go.Shelf
attribute [local go_sem] Oper.semAt_some

theorem isNil_s (w : World) : (binOp .eql 77 (.iface 45 (.agg #[])) .nilIface).run Try.prog w = .ok (.bool false) w := by kernel_rfl
theorem aheadMul_s (w : World) : (nilAhead 280 45 (.agg #[]) "Mul").run Try.prog w = .ok (some false) w := by kernel_rfl
theorem methodMul_s (w : World) : (method 280 45 (.agg #[]) "Mul").run Try.prog w = .ok (122, .agg #[]) w := by kernel_rfl
/-- a cell of a product -/
def pcell_s (S1 Z1 : List Int) (L1 : List ByteArray) (S2 Z2 : List Int) (L2 : List ByteArray) (k : Nat) : ByteArray :=
  mulF_s (nth L1 (atS Z1 (S1.map (asg (uniL S1 S2) (dgL (uniZ S1 Z1 S2 Z2) k)))).toNat) (nth L2 (atS Z2 (S2.map (asg (uniL S1 S2) (dgL (uniZ S1 Z1 S2 Z2) k)))).toNat)
/-- the cells of a product -/
def prod_s (S1 Z1 : List Int) (L1 : List ByteArray) (S2 Z2 : List Int) (L2 : List ByteArray) (N : Nat) : List ByteArray := (List.range N).map (pcell_s S1 Z1 L1 S2 Z2 L2)
def TimesPost_s (S1 Z1 : List Int) (L1 : List ByteArray) (S2 Z2 : List Int) (L2 : List ByteArray) (w : World) (e : Ending) (w' : World) : Prop :=
  (timesErr S1 Z1 L1.length S2 Z2 L2.length ≠ 0 ∧ e = .returned (.tuple #[.agg #[.slice none 0 0, .slice none 0 0, .slice none 0 0], .int .i64 (timesErr S1 Z1 L1.length S2 Z2 L2.length)]) ∧ Below w.heap.size w w') ∨
  (timesErr S1 Z1 L1.length S2 Z2 L2.length = 0 ∧ ∃ A c B d C k, ∃ N : Nat, (N : Int) = sufP (uniZ S1 Z1 S2 Z2) 0 ∧ e = .returned (.tuple #[.agg #[.slice A (uniL S1 S2).length c, .slice B (uniL S1 S2).length d, .slice C N k], .int .i64 0]) ∧
    Trio (Value.int .i64) (Value.int .i64) (Value.string) w' w.heap.size 3 3 9 A (uniL S1 S2).length c (uniL S1 S2) B (uniL S1 S2).length d (uniZ S1 Z1 S2 Z2) C N k (prod_s S1 Z1 L1 S2 Z2 L2 N) ∧ Below w.heap.size w w')
set_option maxRecDepth 100000 in
set_option maxHeartbeats 20000000 in
theorem times_s (A1 A2 A3 B1 B2 B3 : Option Addr) (n1 c1 n2 c2 n3 c3 m1 d1 m2 d2 m3 d3 : Nat) (S1 Z1 S2 Z2 : List Int) (L1 L2 : List ByteArray) (w : World)
    (h1 : Sl (Value.int .i64) w A1 n1 S1) (h2 : Sl (Value.int .i64) w A2 n2 Z1) (h3 : Sl (Value.string) w A3 n3 L1) (k1 : Sl (Value.int .i64) w B1 m1 S2) (k2 : Sl (Value.int .i64) w B2 m2 Z2) (k3 : Sl (Value.string) w B3 m3 L2)
    (hb : (n1 + m1) * 8 ≤ 140737488351232) (hmul : ∀ a b, a ∈ L1 → b ∈ L2 → MulOk_s a b) :
    Calls Try.prog 53 #[.iface 45 (.agg #[]), .agg #[.slice A1 n1 c1, .slice A2 n2 c2, .slice A3 n3 c3], .agg #[.slice B1 m1 d1, .slice B2 m2 d2, .slice B3 m3 d3]] w (TimesPost_s S1 Z1 L1 S2 Z2 L2 w) := by
  refine (callsIn_wide (n := 3)).1 ?_
  refine callsIn_of_wp_marks Try.func53 rfl trivial ?_ rfl
  simp only [Try.ntmps53, List.size_toArray, List.length_cons, List.length_nil, Nat.reduceAdd, Nat.reduceSub, Array.replicate_succ, Array.replicate_zero, List.push_toArray, List.append_toArray, List.nil_append, List.cons_append]
  refine wpIn_wide.2 ?_
  have HL := Lib.hid (And.intro h1.len (And.intro h2.len (And.intro h3.len (And.intro k1.len (And.intro k2.len (And.intro k3.len hmul))))))
  have HI := Lib.hid (And.intro h3 k3)
  have big1 := h3.big
  have big2 := k3.big
  have H0 := ((((((((((Held.init w).sl h1).sl h2).sl h3).sl k1).sl k2).sl k3).new 77 [.iface 45 (.agg #[])]).new 33 [.slice A1 n1 c1, .slice A2 n2 c2, .slice A3 n3 c3]).new 33 [.slice B1 m1 d1, .slice B2 m2 d2, .slice B3 m3 d3]).new 33 [.slice none 0 0, .slice none 0 0, .slice none 0 0]
  simp only [World.size_alloc] at H0
  clear h1 h2 h3 k1 k2 k3 hmul
  have hni := isNil_s
  have r0 := H0.has.2.2.2.1.cell 0
  have a0 := H0.has.2.2.1.cell 0
  have a1 := H0.has.2.2.1.cell 1
  have a2 := H0.has.2.2.1.cell 2
--WALK
  obtain ⟨l1, l2, l3, l4, l5, l6, hmul⟩ := HL.out
  have HM := Lib.hid hmul
  clear hmul
  go_wp2_with fail
  refine (check_s A1 A2 A3 n1 c1 n2 c2 n3 c3 S1 Z1 _ H0.has.2.2.2.2.2.2.2.2.2.1 H0.has.2.2.2.2.2.2.2.2.1 big1).mono ?_
  rintro e w1 ⟨rfl, hb1⟩
  have H1 := H0.step hb1
  clear H0 hb1 r0 a0 a1 a2
  generalize hck1 : checkC S1 Z1 n3 = ck1 at *
  by_cases hk1 : ck1 = 0
  · subst hk1
    have b0 := H1.has.2.1.cell 0
    have b1 := H1.has.2.1.cell 1
    have b2 := H1.has.2.1.cell 2
    have HC1 := Lib.hid hck1
    clear hck1
    go_wp2_with fail
    refine (check_s B1 B2 B3 m1 d1 m2 d2 m3 d3 S2 Z2 _ H1.has.2.2.2.2.2.2.1 H1.has.2.2.2.2.2.1 big2).mono ?_
    rintro e w2 ⟨rfl, hb2⟩
    have H2 := H1.step hb2
    clear H1 hb2 b0 b1 b2
    generalize hck2 : checkC S2 Z2 m3 = ck2 at *
    by_cases hk2 : ck2 = 0
    · subst hk2
      have HC2 := Lib.hid hck2
      clear hck2
      obtain ⟨T1, hN1⟩ := checkC_ok HC1.out
      obtain ⟨T2, hN2⟩ := checkC_ok HC2.out
      have HT := Lib.hid (And.intro T1 (And.intro hN1 (And.intro T2 hN2)))
      have a1e := setOf_asc T1.asc
      have a2e := setOf_asc T2.asc
      have hn12 : n1 * 8 ≤ 140737488355328 := by omega
      have hm12 : m1 * 8 ≤ 140737488355328 := by omega
      have hj : (n1 + m1) * 8 ≤ 140737488355328 := by omega
      have a0 := H2.has.2.2.1.cell 0
      have b0 := H2.has.2.1.cell 0
      have HD := Lib.hid H2.drew
      have HS := Lib.hid (And.intro a1e (And.intro a2e (And.intro T1 T2)))
      have hu := uni_length_le S1 S2
      clear T1 hN1 T2 hN2 a1e a2e
      go_upto_region 9 with fail
      go_region_held3 (fun w' => w'.cell? ⟨w.heap.size + 1, 0, none⟩ = some (.slice A1 n1 c1) ∧ w'.cell? ⟨w.heap.size + 1 + 1, 0, none⟩ = some (.slice B1 m1 d1)) (first | assumption | exact ⟨a0, b0⟩ | go_keep)
        (first
          | ((go_at_call 35); (with_reducible refine (SoI.of_any A1 n1 c1 S1 _ HD.out.has.2.2.2.2.2.2.2.2.2.1 hn12).mono ?_); (rintro e w3 ⟨X1, x1, y1, rfl, ho3, hb3⟩); (rw [HS.out.1] at ho3); (have hx1 := ho3.length); (have G3 := (HD.out.step hb3).own ho3); (have a0 := G3.has.2.2.2.1.cell 0); (have b0 := G3.has.2.2.1.cell 0))
          | ((go_at_call 35); (with_reducible refine (SoI.of_any B1 m1 d1 S2 _ G3.has.2.2.2.2.2.2.2.1 hm12).mono ?_); (rintro e w4 ⟨X2, x2, y2, rfl, ho4, hb4⟩); (rw [HS.out.2.1] at ho4); (have hx2 := ho4.length); (have G4 := (G3.step hb4).own ho4); (have a0 := G4.has.2.2.2.2.1.cell 0); (have b0 := G4.has.2.2.2.1.cell 0))
          | ((go_at_call 36); (refine (SoI.join_any X1 X2 x1 x2 y1 y2 S1 S2 _ (G4.has.2.1.sl (by omega)) (G4.has.1.sl (by omega)) HS.out.2.2.1.asc HS.out.2.2.2.asc (by omega)).mono ?_); (rintro e w5 ⟨X3, x3, y3, out, rfl, hch, hs5, hb5⟩); (have hou := chosen_uni hch); (subst hou); (have hx3 := hs5.len); (have G5 := (G4.step hb5).sl hs5); (have a0 := G5.has.2.2.2.2.2.1.cell 0); (have b0 := G5.has.2.2.2.2.1.cell 0))
          | ((go_at_call 37); (refine (SoI.list_any X3 x3 y3 (uniL S1 S2) _ G5.has.1 (by omega)).mono ?_); (rintro e w6 ⟨X4, y4, rfl, ho6, hb6⟩); (have G6 := ((G5.step hb6).own (show OwnR _ w6 w.heap.size _ _ _ _ _ from ho6.mono (by have := G5.size; omega))).drop1.drop1.drop1); (have a0 := G6.has.2.2.2.1.cell 0); (have b0 := G6.has.2.2.1.cell 0)))
      clear G3 G4 G5 ho3 ho4 hs5 ho6 hb3 hb4 hb5 hb6 hch
      obtain rfl : x3 = (uniL S1 S2).length := hx3.symm
      obtain rfl : n2 = n1 := by have := HS.out.2.2.1.len; omega
      obtain rfl : m2 = m1 := by have := HS.out.2.2.2.len; omega
      clear hx3 HD H2 hj hn12 hm12 a0 b0
      have hUb : (uniL S1 S2).length * 8 ≤ 140737488351232 := by omega
      have hUbig : (uniL S1 S2).length ≤ 140737488351232 := by omega
      have a0 := G6.has.2.2.2.1.cell 0
      have a1 := G6.has.2.2.2.1.cell 1
      have a2 := G6.has.2.2.2.1.cell 2
      have b0 := G6.has.2.2.1.cell 0
      have b1 := G6.has.2.2.1.cell 1
      have b2 := G6.has.2.2.1.cell 2
      go_wp2_with fail
      refine (sized_s X4 A1 A2 A3 B1 B2 B3 (uniL S1 S2).length y4 n2 c1 c2 n3 c3 m2 d1 d2 m3 d3 (uniL S1 S2) S1 Z1 S2 Z2 _ (G6.has.1.sl hUbig) G6.has.2.2.2.2.2.2.2.2.2.2.1 G6.has.2.2.2.2.2.2.2.2.2.1 G6.has.2.2.2.2.2.2.2.1 G6.has.2.2.2.2.2.2.1 hUb HS.out.2.2.1.asc HS.out.2.2.2.asc (fun x hx => mem_uni.1 hx)).mono ?_
      intro e w7 hsz
      unfold SizedPost at hsz
      clear a0 a1 a2 b0 b1 b2
      rcases hsz with ⟨hcl, rfl, hb7⟩ | ⟨hcl, Y, yc, rfl, hoY, hb7⟩
      · have H7 := G6.step hb7
        clear G6 hb7
        have hcl2 : timesErr S1 Z1 L1.length S2 Z2 L2.length = 61 := by unfold timesErr; rw [l3, l6, HC1.out, HC2.out, hcl]; simp
        have HCL := Lib.hid hcl2
        clear hcl hcl2
        have X := (((H7.has.2.1).put 0 (.slice none 0 0)).put 1 (.slice none 0 0)).put 2 (.slice none 0 0)
        have hle : w.heap.size ≤ w.heap.size + 1 + 1 + 1 := by omega
        have BB := ((H7.bel.setCell (p := ⟨w.heap.size + 1 + 1 + 1, 0, none⟩) hle (.slice none 0 0)).setCell (p := ⟨w.heap.size + 1 + 1 + 1, 1, none⟩) hle (.slice none 0 0)).setCell (p := ⟨w.heap.size + 1 + 1 + 1, 2, none⟩) hle (.slice none 0 0)
        have f0 := (H7.has.2.1).frozen 0
        have f1 := (H7.has.2.1).frozen 1
        have f2 := (H7.has.2.1).frozen 2
        have x0 := (H7.has.2.1).cell 0
        have x1 := (H7.has.2.1).cell 1
        have x2 := (H7.has.2.1).cell 2
        have HE := Lib.hid (And.intro X BB)
        clear X BB hle
        go_wp2_with fail
        have y0 := HE.out.1.cell 0
        have y1 := HE.out.1.cell 1
        have y2 := HE.out.1.cell 2
        obtain ⟨wz, hwz⟩ : ∃ wz, wz = (((w7.setCell ⟨w.heap.size + 1 + 1 + 1, 0, none⟩ (.slice none 0 0)).setCell ⟨w.heap.size + 1 + 1 + 1, 1, none⟩ (.slice none 0 0)).setCell ⟨w.heap.size + 1 + 1 + 1, 2, none⟩ (.slice none 0 0)) := ⟨_, rfl⟩
        rw [← hwz] at y0 y1 y2 HE ⊢
        exact ⟨.tuple #[.agg #[.slice none 0 0, .slice none 0 0, .slice none 0 0], .int .i64 61], by simp [results, Try.results53, go_sem, y0, y1, y2], .inl ⟨by rw [HCL.out]; decide, by rw [HCL.out], HE.out.2⟩⟩
      · have hXY : ∀ g, X4 = some ⟨g, 0, none⟩ → Y ≠ some ⟨g, 0, none⟩ := fun g e1 e2 => by have h1 := (G6.has.1.geT e1).2; have h2 := (hoY.geT e2).1; omega
        have G7 := (G6.step hb7).own (show OwnR _ w7 w.heap.size _ _ _ _ _ from hoY.mono (by have := G6.size; omega))
        have hone := uniZ_one HT.out.1 HT.out.2.2.1
        have hcnt := cntC_eq hone
        have HNO := Lib.hid hcl
        unfold uniZ at hone hcnt
        clear G6 hb7 hoY
        go_wp2_with fail
        refine (count_any Y (uniL S1 S2).length yc ((uniL S1 S2).map (sizeF S1 Z1 S2 Z2)) _ (G7.has.1.sl hUbig)).mono ?_
        rintro e w8 ⟨rfl, hw8⟩
        subst hw8
        rw [hcnt]
        by_cases hmany : 2147483647 < sufP ((uniL S1 S2).map (sizeF S1 Z1 S2 Z2)) 0
        · rw [if_pos hmany]
          have hcl2 : timesErr S1 Z1 L1.length S2 Z2 L2.length = 4 := by unfold timesErr; rw [l3, l6, HC1.out, HC2.out, hcl, if_pos hmany]; simp
          have HCL := Lib.hid hcl2
          clear hcl hcl2 hmany hcnt
          have X := (((G7.has.2.2.1).put 0 (.slice none 0 0)).put 1 (.slice none 0 0)).put 2 (.slice none 0 0)
          have hle : w.heap.size ≤ w.heap.size + 1 + 1 + 1 := by omega
          have BB := ((G7.bel.setCell (p := ⟨w.heap.size + 1 + 1 + 1, 0, none⟩) hle (.slice none 0 0)).setCell (p := ⟨w.heap.size + 1 + 1 + 1, 1, none⟩) hle (.slice none 0 0)).setCell (p := ⟨w.heap.size + 1 + 1 + 1, 2, none⟩) hle (.slice none 0 0)
          have f0 := (G7.has.2.2.1).frozen 0
          have f1 := (G7.has.2.2.1).frozen 1
          have f2 := (G7.has.2.2.1).frozen 2
          have x0 := (G7.has.2.2.1).cell 0
          have x1 := (G7.has.2.2.1).cell 1
          have x2 := (G7.has.2.2.1).cell 2
          have HE := Lib.hid (And.intro X BB)
          clear X BB hle
          go_wp2_with fail
          have y0 := HE.out.1.cell 0
          have y1 := HE.out.1.cell 1
          have y2 := HE.out.1.cell 2
          obtain ⟨wz, hwz⟩ : ∃ wz, wz = (((w7.setCell ⟨w.heap.size + 1 + 1 + 1, 0, none⟩ (.slice none 0 0)).setCell ⟨w.heap.size + 1 + 1 + 1, 1, none⟩ (.slice none 0 0)).setCell ⟨w.heap.size + 1 + 1 + 1, 2, none⟩ (.slice none 0 0)) := ⟨_, rfl⟩
          rw [← hwz] at y0 y1 y2 HE ⊢
          exact ⟨.tuple #[.agg #[.slice none 0 0, .slice none 0 0, .slice none 0 0], .int .i64 4], by simp [results, Try.results53, go_sem, y0, y1, y2], .inl ⟨by rw [HCL.out]; decide, by rw [HCL.out], HE.out.2⟩⟩
        · rw [if_neg hmany]
          obtain ⟨N, hN⟩ : ∃ N : Nat, sufP ((uniL S1 S2).map (sizeF S1 Z1 S2 Z2)) 0 = (N : Int) := ⟨(sufP ((uniL S1 S2).map (sizeF S1 Z1 S2 Z2)) 0).toNat, by have := sufP_pos hone 0; omega⟩
          have hcl2 : timesErr S1 Z1 L1.length S2 Z2 L2.length = 0 := by unfold timesErr; rw [l3, l6, HC1.out, HC2.out, hcl, if_neg hmany]; simp
          have HCL := Lib.hid (And.intro hcl2 (And.intro hN (And.intro hone hcnt)))
          have HCN := Lib.hid (show cntC ((uniL S1 S2).map (sizeF S1 Z1 S2 Z2)) = ((N : Int), 0) by rw [hcnt, if_neg hmany, hN])
          rw [hN] at hmany ⊢
          have hNl : N ≤ 2147483647 := by omega
          clear hcl hcl2 hmany hcnt hone hN
          have hX4 : ∀ g, X4 = some ⟨g, 0, none⟩ → g < w7.heap.size := fun g e => (G7.has.2.1.geT e).2
          have hY : ∀ g, Y = some ⟨g, 0, none⟩ → g < w7.heap.size := fun g e => (G7.has.1.geT e).2
          have hsz7 := G7.has.2.2.1.lt
          have hq : 16 * N ≤ 281474976710656 := by omega
          go_upto_region 17 with (first
            | (at_make; refine wpList_mk0 _ eiSt (Value.string) rfl _ _ rfl N rfl rfl hq ?_; intro w9 hr hb9)
            | fail)
          have G8 := (G7.step hb9).own (show OwnR _ w9 w.heap.size _ _ _ _ _ from hr.mono (by have := G7.size; omega))
          have G9 := G8.new 33 [.slice X4 (uniL S1 S2).length y4, .slice Y (uniL S1 S2).length yc, .slice (some ⟨w7.heap.size, 0, none⟩) 0 N]
          have hg9 := hr.geT rfl
          clear G7 G8 hb9 hr hq
          obtain ⟨pp, hpp⟩ : ∃ pp, pp = w9.heap.size := ⟨_, rfl⟩
          rw [← hpp] at G9 hg9 ⊢
          obtain ⟨g0, hg0⟩ : ∃ g0, g0 = w7.heap.size := ⟨_, rfl⟩
          rw [← hg0] at G9 hg9 hX4 hY hsz7 ⊢
          have hppw := G9.has.1.lt
          generalize w9.alloc (.cells [.slice X4 (uniL S1 S2).length y4, .slice Y (uniL S1 S2).length yc, .slice (some ⟨g0, 0, none⟩) 0 N].toArray 33) = wb at G9 hppw ⊢
          clear hpp hg0
          have s20 : (fun w' => w'.cell? ⟨w.heap.size + 1, 0, none⟩ = some (.slice A1 n2 c1) ∧ w'.cell? ⟨w.heap.size + 1, 1, none⟩ = some (.slice A2 n2 c2) ∧ w'.cell? ⟨w.heap.size + 1, 2, none⟩ = some (.slice A3 n3 c3) ∧ w'.cell? ⟨w.heap.size + 1 + 1, 0, none⟩ = some (.slice B1 m2 d1) ∧ w'.cell? ⟨w.heap.size + 1 + 1, 1, none⟩ = some (.slice B2 m2 d2) ∧ w'.cell? ⟨w.heap.size + 1 + 1, 2, none⟩ = some (.slice B3 m3 d3)) wb := ⟨G9.has.2.2.2.2.2.2.1.cell 0, G9.has.2.2.2.2.2.2.1.cell 1, G9.has.2.2.2.2.2.2.1.cell 2, G9.has.2.2.2.2.2.1.cell 0, G9.has.2.2.2.2.2.1.cell 1, G9.has.2.2.2.2.2.1.cell 2⟩
          have K20 := Lib.hid G9.again.drew
          have HUA := Lib.hid (asc_uni S1 S2)
          have hnd1 := asc_nodup HT.out.1.asc
          have hnd2 := asc_nodup HT.out.2.2.1.asc
          have hsub1 : ∀ x, x ∈ S1 → x ∈ uniL S1 S2 := fun x h => mem_uni.2 (.inl h)
          have hsub2 : ∀ x, x ∈ S2 → x ∈ uniL S1 S2 := fun x h => mem_uni.2 (.inr h)
          have hpos1 := HT.out.1.one
          have hpos2 := HT.out.2.2.1.one
          have hmx1 := HT.out.1.cnt
          have hmx2 := HT.out.2.2.1.cnt
          go_cut [16, 17] from 67 (fun v1 v2 wx => ∃ (q1 q2 : Nat) (LA : Option Addr) (lc : Nat) (RA : Option Addr) (rc : Nat), v1 = .pointer (some ⟨q1, 0, none⟩) ∧ v2 = .pointer (some ⟨q2, 0, none⟩) ∧ pp < q1 ∧ pp < q2 ∧ Below wb.heap.size wb wx ∧ OwnR (Value.int .i64) wx (pp + 1) 3 LA (uniL S1 S2).length lc (stL (uniL S1 S2) S1 Z1 0) ∧ OwnR (Value.int .i64) wx (pp + 1) 3 RA (uniL S1 S2).length rc (stL (uniL S1 S2) S2 Z2 0) ∧ RowC wx q1 22 [.slice LA (uniL S1 S2).length lc] ∧ RowC wx q2 22 [.slice RA (uniL S1 S2).length rc])
          case first =>
            refine wp_region_noPanic ?_
            refine wp_region_lastL (S := fun w' => w'.cell? ⟨w.heap.size + 1, 0, none⟩ = some (.slice A1 n2 c1) ∧ w'.cell? ⟨w.heap.size + 1, 1, none⟩ = some (.slice A2 n2 c2) ∧ w'.cell? ⟨w.heap.size + 1, 2, none⟩ = some (.slice A3 n3 c3) ∧ w'.cell? ⟨w.heap.size + 1 + 1, 0, none⟩ = some (.slice B1 m2 d1) ∧ w'.cell? ⟨w.heap.size + 1 + 1, 1, none⟩ = some (.slice B2 m2 d2) ∧ w'.cell? ⟨w.heap.size + 1 + 1, 2, none⟩ = some (.slice B3 m3 d3)) 9 9 (by kernel_rfl) rfl rfl rfl (by kernel_rfl) ?hS1001 (fun hHeld => ?rest1001)
            case hS1001 => (first | assumption | exact s20 | go_keep)
            generalize wb.drew = wb1 at K20 hHeld ⊢
            clear s20
            have s20 := hHeld
            refine wpAnyH_takeL (i := 0) (v := ?v1002) rfl (by kernel_rfl) (by kernel_rfl) (by kernel_rfl) (fun _ _ _ h => h) (by rfl) ?hy1002 (by assumption) ?rest1002
            case hy1002 => (intro w hSw; (try dsimp only at hSw); go_simp; try with_reducible rfl)
            try simp only [Act.put, List.setIfInBounds_toArray, List.set_cons_zero, List.set_cons_succ]
            refine wpAnyH_takeL (i := 1) (v := ?v1003) rfl (by kernel_rfl) (by kernel_rfl) (by kernel_rfl) (fun _ _ _ h => h) (by rfl) ?hy1003 (by assumption) ?rest1003
            case hy1003 => (intro w hSw; (try dsimp only at hSw); go_simp; try with_reducible rfl)
            try simp only [Act.put, List.setIfInBounds_toArray, List.set_cons_zero, List.set_cons_succ]
            refine wpAnyH_takeL (i := 3) (v := ?v1004) rfl (by kernel_rfl) (by kernel_rfl) (by kernel_rfl) (fun _ _ _ h => h) (by rfl) ?hy1004 (by assumption) ?rest1004
            case hy1004 => (intro w hSw; (try dsimp only at hSw); go_simp; try with_reducible rfl)
            try simp only [Act.put, List.setIfInBounds_toArray, List.set_cons_zero, List.set_cons_succ]
            refine wpAnyH_takeL (i := 4) (v := ?v1005) rfl (by kernel_rfl) (by kernel_rfl) (by kernel_rfl) (fun _ _ _ h => h) (by rfl) ?hy1005 (by assumption) ?rest1005
            case hy1005 => (intro w hSw; (try dsimp only at hSw); go_simp; try with_reducible rfl)
            try simp only [Act.put, List.setIfInBounds_toArray, List.set_cons_zero, List.set_cons_succ]
            refine wpAnyH_ready (rs := [2, 6, 7]) (by kernel_rfl) (by simp) (consM rfl (fun K hK => ?step1007) (consM rfl (fun K hK => ?step1008) (consL rfl (fun K hK => ?step1009))))
            case step1007 =>
              (go_simp; (refine (strides_s X4 A1 A2 A3 (uniL S1 S2).length y4 n2 c1 c2 n3 c3 (uniL S1 S2) S1 Z1 _ (K20.out.has.2.2.2.1.sl hUbig) K20.out.has.2.2.2.2.2.2.2.2.2.2.2.2.2.1 K20.out.has.2.2.2.2.2.2.2.2.2.2.2.2.1 hUb HUA.out hnd1 hsub1 hpos1 hmx1).mono ?_); (rintro e w21 ⟨LA, lc, rfl, ho21, hb21⟩); (have K21 := (K20.out.step hb21).own (show OwnR _ w21 (pp + 1) _ _ _ _ _ from ho21.mono K20.out.has.1.lt)); (have s21 := Stable.below (P := fun w' => w'.cell? ⟨w.heap.size + 1, 0, none⟩ = some (.slice A1 n2 c1) ∧ w'.cell? ⟨w.heap.size + 1, 1, none⟩ = some (.slice A2 n2 c2) ∧ w'.cell? ⟨w.heap.size + 1, 2, none⟩ = some (.slice A3 n3 c3) ∧ w'.cell? ⟨w.heap.size + 1 + 1, 0, none⟩ = some (.slice B1 m2 d1) ∧ w'.cell? ⟨w.heap.size + 1 + 1, 1, none⟩ = some (.slice B2 m2 d2) ∧ w'.cell? ⟨w.heap.size + 1 + 1, 2, none⟩ = some (.slice B3 m3 d3)) hb21 s20))
              refine hK.out _ _ ?hS1007 (fun hHeld => ?rest1007)
              case hS1007 => (first | assumption | exact s20 | go_keep)
              clear hK K
              try simp only [Act.put, List.setIfInBounds_toArray, List.set_cons_zero, List.set_cons_succ]
              refine wpAnyH_ready (rs := [5, 6, 7]) (by kernel_rfl) (by simp) (consM rfl (fun K hK => ?step1011) (consM rfl (fun K hK => ?step1012) (consL rfl (fun K hK => ?step1013))))
              case step1011 =>
                (go_simp; (refine (strides_s X4 B1 B2 B3 (uniL S1 S2).length y4 m2 d1 d2 m3 d3 (uniL S1 S2) S2 Z2 _ (K21.has.2.2.2.2.1.sl hUbig) K21.has.2.2.2.2.2.2.2.2.2.2.2.1 K21.has.2.2.2.2.2.2.2.2.2.2.1 hUb HUA.out hnd2 hsub2 hpos2 hmx2).mono ?_); (rintro e w22 ⟨RA, rc, rfl, ho22, hb22⟩); (have K22 := (K21.step hb22).own (show OwnR _ w22 (pp + 1) _ _ _ _ _ from ho22.mono K21.has.2.1.lt)); (have s22 := Stable.below (P := fun w' => w'.cell? ⟨w.heap.size + 1, 0, none⟩ = some (.slice A1 n2 c1) ∧ w'.cell? ⟨w.heap.size + 1, 1, none⟩ = some (.slice A2 n2 c2) ∧ w'.cell? ⟨w.heap.size + 1, 2, none⟩ = some (.slice A3 n3 c3) ∧ w'.cell? ⟨w.heap.size + 1 + 1, 0, none⟩ = some (.slice B1 m2 d1) ∧ w'.cell? ⟨w.heap.size + 1 + 1, 1, none⟩ = some (.slice B2 m2 d2) ∧ w'.cell? ⟨w.heap.size + 1 + 1, 2, none⟩ = some (.slice B3 m3 d3)) hb22 s21))
                refine hK.out _ _ ?hS1011 (fun hHeld => ?rest1011)
                case hS1011 => (first | assumption | exact s20 | go_keep)
                clear hK K
                try simp only [Act.put, List.setIfInBounds_toArray, List.set_cons_zero, List.set_cons_succ]
                refine wpAnyH_ready (rs := [6, 7]) (by kernel_rfl) (by simp) (consM rfl (fun K hK => ?step1015) (consL rfl (fun K hK => ?step1016)))
                case step1015 =>
                  (go_simp; (have hgeq1 := K22.size); (have K23 := K22.new 22 [.slice none 0 0]); (have s23 := Stable.below (P := fun w' => w'.cell? ⟨w.heap.size + 1, 0, none⟩ = some (.slice A1 n2 c1) ∧ w'.cell? ⟨w.heap.size + 1, 1, none⟩ = some (.slice A2 n2 c2) ∧ w'.cell? ⟨w.heap.size + 1, 2, none⟩ = some (.slice A3 n3 c3) ∧ w'.cell? ⟨w.heap.size + 1 + 1, 0, none⟩ = some (.slice B1 m2 d1) ∧ w'.cell? ⟨w.heap.size + 1 + 1, 1, none⟩ = some (.slice B2 m2 d2) ∧ w'.cell? ⟨w.heap.size + 1 + 1, 2, none⟩ = some (.slice B3 m3 d3)) ((Below.refl _ w22).alloc (Nat.le_refl _) (.cells #[.slice none 0 0] 22)) s22); (generalize w22.alloc (.cells [.slice none 0 0].toArray 22) = w23 at K23 s23 ⊢))
                  refine hK.out _ _ ?hS1015 (fun hHeld => ?rest1015)
                  case hS1015 => (first | assumption | exact s20 | go_keep)
                  clear hK K
                  try simp only [Act.put, List.setIfInBounds_toArray, List.set_cons_zero, List.set_cons_succ]
                  refine wpAnyH_ready (rs := [7]) (by kernel_rfl) (by simp) (consL rfl (fun K hK => ?step1018))
                  case step1018 =>
                    (go_simp; (have hgeq2 := K23.size); (have hltq2 := K23.has.1.lt); (have K24 := K23.new 22 [.slice none 0 0]); (have s24 := Stable.below (P := fun w' => w'.cell? ⟨w.heap.size + 1, 0, none⟩ = some (.slice A1 n2 c1) ∧ w'.cell? ⟨w.heap.size + 1, 1, none⟩ = some (.slice A2 n2 c2) ∧ w'.cell? ⟨w.heap.size + 1, 2, none⟩ = some (.slice A3 n3 c3) ∧ w'.cell? ⟨w.heap.size + 1 + 1, 0, none⟩ = some (.slice B1 m2 d1) ∧ w'.cell? ⟨w.heap.size + 1 + 1, 1, none⟩ = some (.slice B2 m2 d2) ∧ w'.cell? ⟨w.heap.size + 1 + 1, 2, none⟩ = some (.slice B3 m3 d3)) ((Below.refl _ w23).alloc (Nat.le_refl _) (.cells #[.slice none 0 0] 22)) s23); (generalize w23.alloc (.cells [.slice none 0 0].toArray 22) = w24 at K24 s24 ⊢))
                    refine hK.out _ _ ?hS1018 (fun hHeld => ?rest1018)
                    case hS1018 => (first | assumption | exact s20 | go_keep)
                    clear hK K
                    try simp only [Act.put, List.setIfInBounds_toArray, List.set_cons_zero, List.set_cons_succ]
                    refine wpAnyH_ready (rs := [8]) (by kernel_rfl) (by simp) (consL rfl (fun K hK => ?step1019))
                    ((have ya := K24.has.2.1.cell 0); (have fa := K24.has.2.1.frozen 0); (have rF := K24.has.1.far (p := ⟨w22.heap.size, 0, none⟩) (by simp; omega) (.slice LA (uniL S1 S2).length lc)); (have yb := rF.cell 0); (have fb := rF.frozen 0); (have sF : (fun w' => w'.cell? ⟨w.heap.size + 1, 0, none⟩ = some (.slice A1 n2 c1) ∧ w'.cell? ⟨w.heap.size + 1, 1, none⟩ = some (.slice A2 n2 c2) ∧ w'.cell? ⟨w.heap.size + 1, 2, none⟩ = some (.slice A3 n3 c3) ∧ w'.cell? ⟨w.heap.size + 1 + 1, 0, none⟩ = some (.slice B1 m2 d1) ∧ w'.cell? ⟨w.heap.size + 1 + 1, 1, none⟩ = some (.slice B2 m2 d2) ∧ w'.cell? ⟨w.heap.size + 1 + 1, 2, none⟩ = some (.slice B3 m3 d3)) (w24.setCell ⟨w22.heap.size, 0, none⟩ (.slice LA (uniL S1 S2).length lc)) := ⟨(cell_farN (by omega)).trans s24.1, (cell_farN (by omega)).trans s24.2.1, (cell_farN (by omega)).trans s24.2.2.1, (cell_farN (by omega)).trans s24.2.2.2.1, (cell_farN (by omega)).trans s24.2.2.2.2.1, (cell_farN (by omega)).trans s24.2.2.2.2.2⟩); go_simp)
                    refine hK.out _ _ ?hS1019 (fun hHeld => ?rest1019)
                    case hS1019 => (first | assumption | exact s20 | go_keep)
                    clear hK K
                    try simp only [Act.put, List.setIfInBounds_toArray, List.set_cons_zero, List.set_cons_succ]
                    refine wpAnyH_done (by kernel_rfl) ?_ _
                    unfold AheadOf
                    go_simp
                    refine NoPanic.normal ?_
                    have hT := two_stored K24.bel K24.has.2.2.2.1 K24.has.2.2.1 K24.has.2.1 K24.has.1 (by omega) hgeq1 hgeq2
                    go_wp2_with fail
                    go_meet
                    case rel => exact ⟨_, _, LA, lc, RA, rc, rfl, rfl, by omega, by omega, hT⟩
                case step1016 =>
                  (go_simp; (have hgeq2 := K22.size); (have K25 := K22.new 22 [.slice none 0 0]); (have s25 := Stable.below (P := fun w' => w'.cell? ⟨w.heap.size + 1, 0, none⟩ = some (.slice A1 n2 c1) ∧ w'.cell? ⟨w.heap.size + 1, 1, none⟩ = some (.slice A2 n2 c2) ∧ w'.cell? ⟨w.heap.size + 1, 2, none⟩ = some (.slice A3 n3 c3) ∧ w'.cell? ⟨w.heap.size + 1 + 1, 0, none⟩ = some (.slice B1 m2 d1) ∧ w'.cell? ⟨w.heap.size + 1 + 1, 1, none⟩ = some (.slice B2 m2 d2) ∧ w'.cell? ⟨w.heap.size + 1 + 1, 2, none⟩ = some (.slice B3 m3 d3)) ((Below.refl _ w22).alloc (Nat.le_refl _) (.cells #[.slice none 0 0] 22)) s22); (generalize w22.alloc (.cells [.slice none 0 0].toArray 22) = w25 at K25 s25 ⊢))
                  refine hK.out _ _ ?hS1016 (fun hHeld => ?rest1016)
                  case hS1016 => (first | assumption | exact s20 | go_keep)
                  clear hK K
                  try simp only [Act.put, List.setIfInBounds_toArray, List.set_cons_zero, List.set_cons_succ]
                  refine wpAnyH_ready (rs := [6]) (by kernel_rfl) (by simp) (consL rfl (fun K hK => ?step1021))
                  case step1021 =>
                    (go_simp; (have hgeq1 := K25.size); (have hltq1 := K25.has.1.lt); (have K26 := K25.new 22 [.slice none 0 0]); (have s26 := Stable.below (P := fun w' => w'.cell? ⟨w.heap.size + 1, 0, none⟩ = some (.slice A1 n2 c1) ∧ w'.cell? ⟨w.heap.size + 1, 1, none⟩ = some (.slice A2 n2 c2) ∧ w'.cell? ⟨w.heap.size + 1, 2, none⟩ = some (.slice A3 n3 c3) ∧ w'.cell? ⟨w.heap.size + 1 + 1, 0, none⟩ = some (.slice B1 m2 d1) ∧ w'.cell? ⟨w.heap.size + 1 + 1, 1, none⟩ = some (.slice B2 m2 d2) ∧ w'.cell? ⟨w.heap.size + 1 + 1, 2, none⟩ = some (.slice B3 m3 d3)) ((Below.refl _ w25).alloc (Nat.le_refl _) (.cells #[.slice none 0 0] 22)) s25); (generalize w25.alloc (.cells [.slice none 0 0].toArray 22) = w26 at K26 s26 ⊢))
                    refine hK.out _ _ ?hS1021 (fun hHeld => ?rest1021)
                    case hS1021 => (first | assumption | exact s20 | go_keep)
                    clear hK K
                    try simp only [Act.put, List.setIfInBounds_toArray, List.set_cons_zero, List.set_cons_succ]
                    refine wpAnyH_ready (rs := [8]) (by kernel_rfl) (by simp) (consL rfl (fun K hK => ?step1022))
                    ((have ya := K26.has.1.cell 0); (have fa := K26.has.1.frozen 0); (have rF := K26.has.2.1.far (p := ⟨w25.heap.size, 0, none⟩) (by simp; omega) (.slice LA (uniL S1 S2).length lc)); (have yb := rF.cell 0); (have fb := rF.frozen 0); (have sF : (fun w' => w'.cell? ⟨w.heap.size + 1, 0, none⟩ = some (.slice A1 n2 c1) ∧ w'.cell? ⟨w.heap.size + 1, 1, none⟩ = some (.slice A2 n2 c2) ∧ w'.cell? ⟨w.heap.size + 1, 2, none⟩ = some (.slice A3 n3 c3) ∧ w'.cell? ⟨w.heap.size + 1 + 1, 0, none⟩ = some (.slice B1 m2 d1) ∧ w'.cell? ⟨w.heap.size + 1 + 1, 1, none⟩ = some (.slice B2 m2 d2) ∧ w'.cell? ⟨w.heap.size + 1 + 1, 2, none⟩ = some (.slice B3 m3 d3)) (w26.setCell ⟨w25.heap.size, 0, none⟩ (.slice LA (uniL S1 S2).length lc)) := ⟨(cell_farN (by omega)).trans s26.1, (cell_farN (by omega)).trans s26.2.1, (cell_farN (by omega)).trans s26.2.2.1, (cell_farN (by omega)).trans s26.2.2.2.1, (cell_farN (by omega)).trans s26.2.2.2.2.1, (cell_farN (by omega)).trans s26.2.2.2.2.2⟩); go_simp)
                    refine hK.out _ _ ?hS1022 (fun hHeld => ?rest1022)
                    case hS1022 => (first | assumption | exact s20 | go_keep)
                    clear hK K
                    try simp only [Act.put, List.setIfInBounds_toArray, List.set_cons_zero, List.set_cons_succ]
                    refine wpAnyH_done (by kernel_rfl) ?_ _
                    unfold AheadOf
                    go_simp
                    refine NoPanic.normal ?_
                    have hT := two_stored K26.bel K26.has.2.2.2.1 K26.has.2.2.1 K26.has.1 K26.has.2.1 (by omega) hgeq1 hgeq2
                    go_wp2_with fail
                    go_meet
                    case rel => exact ⟨_, _, LA, lc, RA, rc, rfl, rfl, by omega, by omega, hT⟩
              case step1012 =>
                (go_simp; (have hgeq1 := K21.size); (have K27 := K21.new 22 [.slice none 0 0]); (have s27 := Stable.below (P := fun w' => w'.cell? ⟨w.heap.size + 1, 0, none⟩ = some (.slice A1 n2 c1) ∧ w'.cell? ⟨w.heap.size + 1, 1, none⟩ = some (.slice A2 n2 c2) ∧ w'.cell? ⟨w.heap.size + 1, 2, none⟩ = some (.slice A3 n3 c3) ∧ w'.cell? ⟨w.heap.size + 1 + 1, 0, none⟩ = some (.slice B1 m2 d1) ∧ w'.cell? ⟨w.heap.size + 1 + 1, 1, none⟩ = some (.slice B2 m2 d2) ∧ w'.cell? ⟨w.heap.size + 1 + 1, 2, none⟩ = some (.slice B3 m3 d3)) ((Below.refl _ w21).alloc (Nat.le_refl _) (.cells #[.slice none 0 0] 22)) s21); (generalize w21.alloc (.cells [.slice none 0 0].toArray 22) = w27 at K27 s27 ⊢))
                refine hK.out _ _ ?hS1012 (fun hHeld => ?rest1012)
                case hS1012 => (first | assumption | exact s20 | go_keep)
                clear hK K
                try simp only [Act.put, List.setIfInBounds_toArray, List.set_cons_zero, List.set_cons_succ]
                refine wpAnyH_ready (rs := [5, 7]) (by kernel_rfl) (by simp) (consM rfl (fun K hK => ?step1024) (consL rfl (fun K hK => ?step1025)))
                case step1024 =>
                  (go_simp; (refine (strides_s X4 B1 B2 B3 (uniL S1 S2).length y4 m2 d1 d2 m3 d3 (uniL S1 S2) S2 Z2 _ (K27.has.2.2.2.2.2.1.sl hUbig) K27.has.2.2.2.2.2.2.2.2.2.2.2.2.1 K27.has.2.2.2.2.2.2.2.2.2.2.2.1 hUb HUA.out hnd2 hsub2 hpos2 hmx2).mono ?_); (rintro e w28 ⟨RA, rc, rfl, ho28, hb28⟩); (have K28 := (K27.step hb28).own (show OwnR _ w28 (pp + 1) _ _ _ _ _ from ho28.mono K27.has.2.2.1.lt)); (have s28 := Stable.below (P := fun w' => w'.cell? ⟨w.heap.size + 1, 0, none⟩ = some (.slice A1 n2 c1) ∧ w'.cell? ⟨w.heap.size + 1, 1, none⟩ = some (.slice A2 n2 c2) ∧ w'.cell? ⟨w.heap.size + 1, 2, none⟩ = some (.slice A3 n3 c3) ∧ w'.cell? ⟨w.heap.size + 1 + 1, 0, none⟩ = some (.slice B1 m2 d1) ∧ w'.cell? ⟨w.heap.size + 1 + 1, 1, none⟩ = some (.slice B2 m2 d2) ∧ w'.cell? ⟨w.heap.size + 1 + 1, 2, none⟩ = some (.slice B3 m3 d3)) hb28 s27))
                  refine hK.out _ _ ?hS1024 (fun hHeld => ?rest1024)
                  case hS1024 => (first | assumption | exact s20 | go_keep)
                  clear hK K
                  try simp only [Act.put, List.setIfInBounds_toArray, List.set_cons_zero, List.set_cons_succ]
                  refine wpAnyH_ready (rs := [7]) (by kernel_rfl) (by simp) (consL rfl (fun K hK => ?step1027))
                  case step1027 =>
                    (go_simp; (have hgeq2 := K28.size); (have hltq2 := K28.has.2.1.lt); (have K29 := K28.new 22 [.slice none 0 0]); (have s29 := Stable.below (P := fun w' => w'.cell? ⟨w.heap.size + 1, 0, none⟩ = some (.slice A1 n2 c1) ∧ w'.cell? ⟨w.heap.size + 1, 1, none⟩ = some (.slice A2 n2 c2) ∧ w'.cell? ⟨w.heap.size + 1, 2, none⟩ = some (.slice A3 n3 c3) ∧ w'.cell? ⟨w.heap.size + 1 + 1, 0, none⟩ = some (.slice B1 m2 d1) ∧ w'.cell? ⟨w.heap.size + 1 + 1, 1, none⟩ = some (.slice B2 m2 d2) ∧ w'.cell? ⟨w.heap.size + 1 + 1, 2, none⟩ = some (.slice B3 m3 d3)) ((Below.refl _ w28).alloc (Nat.le_refl _) (.cells #[.slice none 0 0] 22)) s28); (generalize w28.alloc (.cells [.slice none 0 0].toArray 22) = w29 at K29 s29 ⊢))
                    refine hK.out _ _ ?hS1027 (fun hHeld => ?rest1027)
                    case hS1027 => (first | assumption | exact s20 | go_keep)
                    clear hK K
                    try simp only [Act.put, List.setIfInBounds_toArray, List.set_cons_zero, List.set_cons_succ]
                    refine wpAnyH_ready (rs := [8]) (by kernel_rfl) (by simp) (consL rfl (fun K hK => ?step1028))
                    ((have ya := K29.has.2.2.1.cell 0); (have fa := K29.has.2.2.1.frozen 0); (have rF := K29.has.1.far (p := ⟨w21.heap.size, 0, none⟩) (by simp; omega) (.slice LA (uniL S1 S2).length lc)); (have yb := rF.cell 0); (have fb := rF.frozen 0); (have sF : (fun w' => w'.cell? ⟨w.heap.size + 1, 0, none⟩ = some (.slice A1 n2 c1) ∧ w'.cell? ⟨w.heap.size + 1, 1, none⟩ = some (.slice A2 n2 c2) ∧ w'.cell? ⟨w.heap.size + 1, 2, none⟩ = some (.slice A3 n3 c3) ∧ w'.cell? ⟨w.heap.size + 1 + 1, 0, none⟩ = some (.slice B1 m2 d1) ∧ w'.cell? ⟨w.heap.size + 1 + 1, 1, none⟩ = some (.slice B2 m2 d2) ∧ w'.cell? ⟨w.heap.size + 1 + 1, 2, none⟩ = some (.slice B3 m3 d3)) (w29.setCell ⟨w21.heap.size, 0, none⟩ (.slice LA (uniL S1 S2).length lc)) := ⟨(cell_farN (by omega)).trans s29.1, (cell_farN (by omega)).trans s29.2.1, (cell_farN (by omega)).trans s29.2.2.1, (cell_farN (by omega)).trans s29.2.2.2.1, (cell_farN (by omega)).trans s29.2.2.2.2.1, (cell_farN (by omega)).trans s29.2.2.2.2.2⟩); go_simp)
                    refine hK.out _ _ ?hS1028 (fun hHeld => ?rest1028)
                    case hS1028 => (first | assumption | exact s20 | go_keep)
                    clear hK K
                    try simp only [Act.put, List.setIfInBounds_toArray, List.set_cons_zero, List.set_cons_succ]
                    refine wpAnyH_done (by kernel_rfl) ?_ _
                    unfold AheadOf
                    go_simp
                    refine NoPanic.normal ?_
                    have hT := two_stored K29.bel K29.has.2.2.2.1 K29.has.2.1 K29.has.2.2.1 K29.has.1 (by omega) hgeq1 hgeq2
                    go_wp2_with fail
                    go_meet
                    case rel => exact ⟨_, _, LA, lc, RA, rc, rfl, rfl, by omega, by omega, hT⟩
                case step1025 =>
                  (go_simp; (have hgeq2 := K27.size); (have hltq2 := K27.has.1.lt); (have K30 := K27.new 22 [.slice none 0 0]); (have s30 := Stable.below (P := fun w' => w'.cell? ⟨w.heap.size + 1, 0, none⟩ = some (.slice A1 n2 c1) ∧ w'.cell? ⟨w.heap.size + 1, 1, none⟩ = some (.slice A2 n2 c2) ∧ w'.cell? ⟨w.heap.size + 1, 2, none⟩ = some (.slice A3 n3 c3) ∧ w'.cell? ⟨w.heap.size + 1 + 1, 0, none⟩ = some (.slice B1 m2 d1) ∧ w'.cell? ⟨w.heap.size + 1 + 1, 1, none⟩ = some (.slice B2 m2 d2) ∧ w'.cell? ⟨w.heap.size + 1 + 1, 2, none⟩ = some (.slice B3 m3 d3)) ((Below.refl _ w27).alloc (Nat.le_refl _) (.cells #[.slice none 0 0] 22)) s27); (generalize w27.alloc (.cells [.slice none 0 0].toArray 22) = w30 at K30 s30 ⊢))
                  refine hK.out _ _ ?hS1025 (fun hHeld => ?rest1025)
                  case hS1025 => (first | assumption | exact s20 | go_keep)
                  clear hK K
                  try simp only [Act.put, List.setIfInBounds_toArray, List.set_cons_zero, List.set_cons_succ]
                  refine wpAnyH_ready (rs := [5]) (by kernel_rfl) (by simp) (consL rfl (fun K hK => ?step1030))
                  case step1030 =>
                    (go_simp; (refine (strides_s X4 B1 B2 B3 (uniL S1 S2).length y4 m2 d1 d2 m3 d3 (uniL S1 S2) S2 Z2 _ (K30.has.2.2.2.2.2.2.1.sl hUbig) K30.has.2.2.2.2.2.2.2.2.2.2.2.2.2.1 K30.has.2.2.2.2.2.2.2.2.2.2.2.2.1 hUb HUA.out hnd2 hsub2 hpos2 hmx2).mono ?_); (rintro e w31 ⟨RA, rc, rfl, ho31, hb31⟩); (have K31 := (K30.step hb31).own (show OwnR _ w31 (pp + 1) _ _ _ _ _ from ho31.mono K30.has.2.2.2.1.lt)); (have s31 := Stable.below (P := fun w' => w'.cell? ⟨w.heap.size + 1, 0, none⟩ = some (.slice A1 n2 c1) ∧ w'.cell? ⟨w.heap.size + 1, 1, none⟩ = some (.slice A2 n2 c2) ∧ w'.cell? ⟨w.heap.size + 1, 2, none⟩ = some (.slice A3 n3 c3) ∧ w'.cell? ⟨w.heap.size + 1 + 1, 0, none⟩ = some (.slice B1 m2 d1) ∧ w'.cell? ⟨w.heap.size + 1 + 1, 1, none⟩ = some (.slice B2 m2 d2) ∧ w'.cell? ⟨w.heap.size + 1 + 1, 2, none⟩ = some (.slice B3 m3 d3)) hb31 s30))
                    refine hK.out _ _ ?hS1030 (fun hHeld => ?rest1030)
                    case hS1030 => (first | assumption | exact s20 | go_keep)
                    clear hK K
                    try simp only [Act.put, List.setIfInBounds_toArray, List.set_cons_zero, List.set_cons_succ]
                    refine wpAnyH_ready (rs := [8]) (by kernel_rfl) (by simp) (consL rfl (fun K hK => ?step1031))
                    ((have ya := K31.has.2.2.1.cell 0); (have fa := K31.has.2.2.1.frozen 0); (have rF := K31.has.2.1.far (p := ⟨w21.heap.size, 0, none⟩) (by simp; omega) (.slice LA (uniL S1 S2).length lc)); (have yb := rF.cell 0); (have fb := rF.frozen 0); (have sF : (fun w' => w'.cell? ⟨w.heap.size + 1, 0, none⟩ = some (.slice A1 n2 c1) ∧ w'.cell? ⟨w.heap.size + 1, 1, none⟩ = some (.slice A2 n2 c2) ∧ w'.cell? ⟨w.heap.size + 1, 2, none⟩ = some (.slice A3 n3 c3) ∧ w'.cell? ⟨w.heap.size + 1 + 1, 0, none⟩ = some (.slice B1 m2 d1) ∧ w'.cell? ⟨w.heap.size + 1 + 1, 1, none⟩ = some (.slice B2 m2 d2) ∧ w'.cell? ⟨w.heap.size + 1 + 1, 2, none⟩ = some (.slice B3 m3 d3)) (w31.setCell ⟨w21.heap.size, 0, none⟩ (.slice LA (uniL S1 S2).length lc)) := ⟨(cell_farN (by omega)).trans s31.1, (cell_farN (by omega)).trans s31.2.1, (cell_farN (by omega)).trans s31.2.2.1, (cell_farN (by omega)).trans s31.2.2.2.1, (cell_farN (by omega)).trans s31.2.2.2.2.1, (cell_farN (by omega)).trans s31.2.2.2.2.2⟩); go_simp)
                    refine hK.out _ _ ?hS1031 (fun hHeld => ?rest1031)
                    case hS1031 => (first | assumption | exact s20 | go_keep)
                    clear hK K
                    try simp only [Act.put, List.setIfInBounds_toArray, List.set_cons_zero, List.set_cons_succ]
                    refine wpAnyH_done (by kernel_rfl) ?_ _
                    unfold AheadOf
                    go_simp
                    refine NoPanic.normal ?_
                    have hT := two_stored K31.bel K31.has.2.2.2.1 K31.has.1 K31.has.2.2.1 K31.has.2.1 (by omega) hgeq1 hgeq2
                    go_wp2_with fail
                    go_meet
                    case rel => exact ⟨_, _, LA, lc, RA, rc, rfl, rfl, by omega, by omega, hT⟩
              case step1013 =>
                (go_simp; (have hgeq2 := K21.size); (have K32 := K21.new 22 [.slice none 0 0]); (have s32 := Stable.below (P := fun w' => w'.cell? ⟨w.heap.size + 1, 0, none⟩ = some (.slice A1 n2 c1) ∧ w'.cell? ⟨w.heap.size + 1, 1, none⟩ = some (.slice A2 n2 c2) ∧ w'.cell? ⟨w.heap.size + 1, 2, none⟩ = some (.slice A3 n3 c3) ∧ w'.cell? ⟨w.heap.size + 1 + 1, 0, none⟩ = some (.slice B1 m2 d1) ∧ w'.cell? ⟨w.heap.size + 1 + 1, 1, none⟩ = some (.slice B2 m2 d2) ∧ w'.cell? ⟨w.heap.size + 1 + 1, 2, none⟩ = some (.slice B3 m3 d3)) ((Below.refl _ w21).alloc (Nat.le_refl _) (.cells #[.slice none 0 0] 22)) s21); (generalize w21.alloc (.cells [.slice none 0 0].toArray 22) = w32 at K32 s32 ⊢))
                refine hK.out _ _ ?hS1013 (fun hHeld => ?rest1013)
                case hS1013 => (first | assumption | exact s20 | go_keep)
                clear hK K
                try simp only [Act.put, List.setIfInBounds_toArray, List.set_cons_zero, List.set_cons_succ]
                refine wpAnyH_ready (rs := [5, 6]) (by kernel_rfl) (by simp) (consM rfl (fun K hK => ?step1033) (consL rfl (fun K hK => ?step1034)))
                case step1033 =>
                  (go_simp; (refine (strides_s X4 B1 B2 B3 (uniL S1 S2).length y4 m2 d1 d2 m3 d3 (uniL S1 S2) S2 Z2 _ (K32.has.2.2.2.2.2.1.sl hUbig) K32.has.2.2.2.2.2.2.2.2.2.2.2.2.1 K32.has.2.2.2.2.2.2.2.2.2.2.2.1 hUb HUA.out hnd2 hsub2 hpos2 hmx2).mono ?_); (rintro e w33 ⟨RA, rc, rfl, ho33, hb33⟩); (have K33 := (K32.step hb33).own (show OwnR _ w33 (pp + 1) _ _ _ _ _ from ho33.mono K32.has.2.2.1.lt)); (have s33 := Stable.below (P := fun w' => w'.cell? ⟨w.heap.size + 1, 0, none⟩ = some (.slice A1 n2 c1) ∧ w'.cell? ⟨w.heap.size + 1, 1, none⟩ = some (.slice A2 n2 c2) ∧ w'.cell? ⟨w.heap.size + 1, 2, none⟩ = some (.slice A3 n3 c3) ∧ w'.cell? ⟨w.heap.size + 1 + 1, 0, none⟩ = some (.slice B1 m2 d1) ∧ w'.cell? ⟨w.heap.size + 1 + 1, 1, none⟩ = some (.slice B2 m2 d2) ∧ w'.cell? ⟨w.heap.size + 1 + 1, 2, none⟩ = some (.slice B3 m3 d3)) hb33 s32))
                  refine hK.out _ _ ?hS1033 (fun hHeld => ?rest1033)
                  case hS1033 => (first | assumption | exact s20 | go_keep)
                  clear hK K
                  try simp only [Act.put, List.setIfInBounds_toArray, List.set_cons_zero, List.set_cons_succ]
                  refine wpAnyH_ready (rs := [6]) (by kernel_rfl) (by simp) (consL rfl (fun K hK => ?step1036))
                  case step1036 =>
                    (go_simp; (have hgeq1 := K33.size); (have hltq1 := K33.has.2.1.lt); (have K34 := K33.new 22 [.slice none 0 0]); (have s34 := Stable.below (P := fun w' => w'.cell? ⟨w.heap.size + 1, 0, none⟩ = some (.slice A1 n2 c1) ∧ w'.cell? ⟨w.heap.size + 1, 1, none⟩ = some (.slice A2 n2 c2) ∧ w'.cell? ⟨w.heap.size + 1, 2, none⟩ = some (.slice A3 n3 c3) ∧ w'.cell? ⟨w.heap.size + 1 + 1, 0, none⟩ = some (.slice B1 m2 d1) ∧ w'.cell? ⟨w.heap.size + 1 + 1, 1, none⟩ = some (.slice B2 m2 d2) ∧ w'.cell? ⟨w.heap.size + 1 + 1, 2, none⟩ = some (.slice B3 m3 d3)) ((Below.refl _ w33).alloc (Nat.le_refl _) (.cells #[.slice none 0 0] 22)) s33); (generalize w33.alloc (.cells [.slice none 0 0].toArray 22) = w34 at K34 s34 ⊢))
                    refine hK.out _ _ ?hS1036 (fun hHeld => ?rest1036)
                    case hS1036 => (first | assumption | exact s20 | go_keep)
                    clear hK K
                    try simp only [Act.put, List.setIfInBounds_toArray, List.set_cons_zero, List.set_cons_succ]
                    refine wpAnyH_ready (rs := [8]) (by kernel_rfl) (by simp) (consL rfl (fun K hK => ?step1037))
                    ((have ya := K34.has.1.cell 0); (have fa := K34.has.1.frozen 0); (have rF := K34.has.2.2.1.far (p := ⟨w33.heap.size, 0, none⟩) (by simp; omega) (.slice LA (uniL S1 S2).length lc)); (have yb := rF.cell 0); (have fb := rF.frozen 0); (have sF : (fun w' => w'.cell? ⟨w.heap.size + 1, 0, none⟩ = some (.slice A1 n2 c1) ∧ w'.cell? ⟨w.heap.size + 1, 1, none⟩ = some (.slice A2 n2 c2) ∧ w'.cell? ⟨w.heap.size + 1, 2, none⟩ = some (.slice A3 n3 c3) ∧ w'.cell? ⟨w.heap.size + 1 + 1, 0, none⟩ = some (.slice B1 m2 d1) ∧ w'.cell? ⟨w.heap.size + 1 + 1, 1, none⟩ = some (.slice B2 m2 d2) ∧ w'.cell? ⟨w.heap.size + 1 + 1, 2, none⟩ = some (.slice B3 m3 d3)) (w34.setCell ⟨w33.heap.size, 0, none⟩ (.slice LA (uniL S1 S2).length lc)) := ⟨(cell_farN (by omega)).trans s34.1, (cell_farN (by omega)).trans s34.2.1, (cell_farN (by omega)).trans s34.2.2.1, (cell_farN (by omega)).trans s34.2.2.2.1, (cell_farN (by omega)).trans s34.2.2.2.2.1, (cell_farN (by omega)).trans s34.2.2.2.2.2⟩); go_simp)
                    refine hK.out _ _ ?hS1037 (fun hHeld => ?rest1037)
                    case hS1037 => (first | assumption | exact s20 | go_keep)
                    clear hK K
                    try simp only [Act.put, List.setIfInBounds_toArray, List.set_cons_zero, List.set_cons_succ]
                    refine wpAnyH_done (by kernel_rfl) ?_ _
                    unfold AheadOf
                    go_simp
                    refine NoPanic.normal ?_
                    have hT := two_stored K34.bel K34.has.2.2.2.1 K34.has.2.1 K34.has.1 K34.has.2.2.1 (by omega) hgeq1 hgeq2
                    go_wp2_with fail
                    go_meet
                    case rel => exact ⟨_, _, LA, lc, RA, rc, rfl, rfl, by omega, by omega, hT⟩
                case step1034 =>
                  (go_simp; (have hgeq1 := K32.size); (have hltq1 := K32.has.1.lt); (have K35 := K32.new 22 [.slice none 0 0]); (have s35 := Stable.below (P := fun w' => w'.cell? ⟨w.heap.size + 1, 0, none⟩ = some (.slice A1 n2 c1) ∧ w'.cell? ⟨w.heap.size + 1, 1, none⟩ = some (.slice A2 n2 c2) ∧ w'.cell? ⟨w.heap.size + 1, 2, none⟩ = some (.slice A3 n3 c3) ∧ w'.cell? ⟨w.heap.size + 1 + 1, 0, none⟩ = some (.slice B1 m2 d1) ∧ w'.cell? ⟨w.heap.size + 1 + 1, 1, none⟩ = some (.slice B2 m2 d2) ∧ w'.cell? ⟨w.heap.size + 1 + 1, 2, none⟩ = some (.slice B3 m3 d3)) ((Below.refl _ w32).alloc (Nat.le_refl _) (.cells #[.slice none 0 0] 22)) s32); (generalize w32.alloc (.cells [.slice none 0 0].toArray 22) = w35 at K35 s35 ⊢))
                  refine hK.out _ _ ?hS1034 (fun hHeld => ?rest1034)
                  case hS1034 => (first | assumption | exact s20 | go_keep)
                  clear hK K
                  try simp only [Act.put, List.setIfInBounds_toArray, List.set_cons_zero, List.set_cons_succ]
                  refine wpAnyH_ready (rs := [5]) (by kernel_rfl) (by simp) (consL rfl (fun K hK => ?step1039))
                  case step1039 =>
                    (go_simp; (refine (strides_s X4 B1 B2 B3 (uniL S1 S2).length y4 m2 d1 d2 m3 d3 (uniL S1 S2) S2 Z2 _ (K35.has.2.2.2.2.2.2.1.sl hUbig) K35.has.2.2.2.2.2.2.2.2.2.2.2.2.2.1 K35.has.2.2.2.2.2.2.2.2.2.2.2.2.1 hUb HUA.out hnd2 hsub2 hpos2 hmx2).mono ?_); (rintro e w36 ⟨RA, rc, rfl, ho36, hb36⟩); (have K36 := (K35.step hb36).own (show OwnR _ w36 (pp + 1) _ _ _ _ _ from ho36.mono K35.has.2.2.2.1.lt)); (have s36 := Stable.below (P := fun w' => w'.cell? ⟨w.heap.size + 1, 0, none⟩ = some (.slice A1 n2 c1) ∧ w'.cell? ⟨w.heap.size + 1, 1, none⟩ = some (.slice A2 n2 c2) ∧ w'.cell? ⟨w.heap.size + 1, 2, none⟩ = some (.slice A3 n3 c3) ∧ w'.cell? ⟨w.heap.size + 1 + 1, 0, none⟩ = some (.slice B1 m2 d1) ∧ w'.cell? ⟨w.heap.size + 1 + 1, 1, none⟩ = some (.slice B2 m2 d2) ∧ w'.cell? ⟨w.heap.size + 1 + 1, 2, none⟩ = some (.slice B3 m3 d3)) hb36 s35))
                    refine hK.out _ _ ?hS1039 (fun hHeld => ?rest1039)
                    case hS1039 => (first | assumption | exact s20 | go_keep)
                    clear hK K
                    try simp only [Act.put, List.setIfInBounds_toArray, List.set_cons_zero, List.set_cons_succ]
                    refine wpAnyH_ready (rs := [8]) (by kernel_rfl) (by simp) (consL rfl (fun K hK => ?step1040))
                    ((have ya := K36.has.2.1.cell 0); (have fa := K36.has.2.1.frozen 0); (have rF := K36.has.2.2.1.far (p := ⟨w32.heap.size, 0, none⟩) (by simp; omega) (.slice LA (uniL S1 S2).length lc)); (have yb := rF.cell 0); (have fb := rF.frozen 0); (have sF : (fun w' => w'.cell? ⟨w.heap.size + 1, 0, none⟩ = some (.slice A1 n2 c1) ∧ w'.cell? ⟨w.heap.size + 1, 1, none⟩ = some (.slice A2 n2 c2) ∧ w'.cell? ⟨w.heap.size + 1, 2, none⟩ = some (.slice A3 n3 c3) ∧ w'.cell? ⟨w.heap.size + 1 + 1, 0, none⟩ = some (.slice B1 m2 d1) ∧ w'.cell? ⟨w.heap.size + 1 + 1, 1, none⟩ = some (.slice B2 m2 d2) ∧ w'.cell? ⟨w.heap.size + 1 + 1, 2, none⟩ = some (.slice B3 m3 d3)) (w36.setCell ⟨w32.heap.size, 0, none⟩ (.slice LA (uniL S1 S2).length lc)) := ⟨(cell_farN (by omega)).trans s36.1, (cell_farN (by omega)).trans s36.2.1, (cell_farN (by omega)).trans s36.2.2.1, (cell_farN (by omega)).trans s36.2.2.2.1, (cell_farN (by omega)).trans s36.2.2.2.2.1, (cell_farN (by omega)).trans s36.2.2.2.2.2⟩); go_simp)
                    refine hK.out _ _ ?hS1040 (fun hHeld => ?rest1040)
                    case hS1040 => (first | assumption | exact s20 | go_keep)
                    clear hK K
                    try simp only [Act.put, List.setIfInBounds_toArray, List.set_cons_zero, List.set_cons_succ]
                    refine wpAnyH_done (by kernel_rfl) ?_ _
                    unfold AheadOf
                    go_simp
                    refine NoPanic.normal ?_
                    have hT := two_stored K36.bel K36.has.2.2.2.1 K36.has.1 K36.has.2.1 K36.has.2.2.1 (by omega) hgeq1 hgeq2
                    go_wp2_with fail
                    go_meet
                    case rel => exact ⟨_, _, LA, lc, RA, rc, rfl, rfl, by omega, by omega, hT⟩
            case step1008 =>
              (go_simp; (have hgeq1 := K20.out.size); (have K37 := K20.out.new 22 [.slice none 0 0]); (have s37 := Stable.below (P := fun w' => w'.cell? ⟨w.heap.size + 1, 0, none⟩ = some (.slice A1 n2 c1) ∧ w'.cell? ⟨w.heap.size + 1, 1, none⟩ = some (.slice A2 n2 c2) ∧ w'.cell? ⟨w.heap.size + 1, 2, none⟩ = some (.slice A3 n3 c3) ∧ w'.cell? ⟨w.heap.size + 1 + 1, 0, none⟩ = some (.slice B1 m2 d1) ∧ w'.cell? ⟨w.heap.size + 1 + 1, 1, none⟩ = some (.slice B2 m2 d2) ∧ w'.cell? ⟨w.heap.size + 1 + 1, 2, none⟩ = some (.slice B3 m3 d3)) ((Below.refl _ wb1).alloc (Nat.le_refl _) (.cells #[.slice none 0 0] 22)) s20); (generalize wb1.alloc (.cells [.slice none 0 0].toArray 22) = w37 at K37 s37 ⊢))
              refine hK.out _ _ ?hS1008 (fun hHeld => ?rest1008)
              case hS1008 => (first | assumption | exact s20 | go_keep)
              clear hK K
              try simp only [Act.put, List.setIfInBounds_toArray, List.set_cons_zero, List.set_cons_succ]
              refine wpAnyH_ready (rs := [2, 7]) (by kernel_rfl) (by simp) (consM rfl (fun K hK => ?step1042) (consL rfl (fun K hK => ?step1043)))
              case step1042 =>
                (go_simp; (refine (strides_s X4 A1 A2 A3 (uniL S1 S2).length y4 n2 c1 c2 n3 c3 (uniL S1 S2) S1 Z1 _ (K37.has.2.2.2.2.1.sl hUbig) K37.has.2.2.2.2.2.2.2.2.2.2.2.2.2.2.1 K37.has.2.2.2.2.2.2.2.2.2.2.2.2.2.1 hUb HUA.out hnd1 hsub1 hpos1 hmx1).mono ?_); (rintro e w38 ⟨LA, lc, rfl, ho38, hb38⟩); (have K38 := (K37.step hb38).own (show OwnR _ w38 (pp + 1) _ _ _ _ _ from ho38.mono K37.has.2.1.lt)); (have s38 := Stable.below (P := fun w' => w'.cell? ⟨w.heap.size + 1, 0, none⟩ = some (.slice A1 n2 c1) ∧ w'.cell? ⟨w.heap.size + 1, 1, none⟩ = some (.slice A2 n2 c2) ∧ w'.cell? ⟨w.heap.size + 1, 2, none⟩ = some (.slice A3 n3 c3) ∧ w'.cell? ⟨w.heap.size + 1 + 1, 0, none⟩ = some (.slice B1 m2 d1) ∧ w'.cell? ⟨w.heap.size + 1 + 1, 1, none⟩ = some (.slice B2 m2 d2) ∧ w'.cell? ⟨w.heap.size + 1 + 1, 2, none⟩ = some (.slice B3 m3 d3)) hb38 s37))
                refine hK.out _ _ ?hS1042 (fun hHeld => ?rest1042)
                case hS1042 => (first | assumption | exact s20 | go_keep)
                clear hK K
                try simp only [Act.put, List.setIfInBounds_toArray, List.set_cons_zero, List.set_cons_succ]
                refine wpAnyH_ready (rs := [5, 7]) (by kernel_rfl) (by simp) (consM rfl (fun K hK => ?step1045) (consL rfl (fun K hK => ?step1046)))
                case step1045 =>
                  (go_simp; (refine (strides_s X4 B1 B2 B3 (uniL S1 S2).length y4 m2 d1 d2 m3 d3 (uniL S1 S2) S2 Z2 _ (K38.has.2.2.2.2.2.1.sl hUbig) K38.has.2.2.2.2.2.2.2.2.2.2.2.2.1 K38.has.2.2.2.2.2.2.2.2.2.2.2.1 hUb HUA.out hnd2 hsub2 hpos2 hmx2).mono ?_); (rintro e w39 ⟨RA, rc, rfl, ho39, hb39⟩); (have K39 := (K38.step hb39).own (show OwnR _ w39 (pp + 1) _ _ _ _ _ from ho39.mono K38.has.2.2.1.lt)); (have s39 := Stable.below (P := fun w' => w'.cell? ⟨w.heap.size + 1, 0, none⟩ = some (.slice A1 n2 c1) ∧ w'.cell? ⟨w.heap.size + 1, 1, none⟩ = some (.slice A2 n2 c2) ∧ w'.cell? ⟨w.heap.size + 1, 2, none⟩ = some (.slice A3 n3 c3) ∧ w'.cell? ⟨w.heap.size + 1 + 1, 0, none⟩ = some (.slice B1 m2 d1) ∧ w'.cell? ⟨w.heap.size + 1 + 1, 1, none⟩ = some (.slice B2 m2 d2) ∧ w'.cell? ⟨w.heap.size + 1 + 1, 2, none⟩ = some (.slice B3 m3 d3)) hb39 s38))
                  refine hK.out _ _ ?hS1045 (fun hHeld => ?rest1045)
                  case hS1045 => (first | assumption | exact s20 | go_keep)
                  clear hK K
                  try simp only [Act.put, List.setIfInBounds_toArray, List.set_cons_zero, List.set_cons_succ]
                  refine wpAnyH_ready (rs := [7]) (by kernel_rfl) (by simp) (consL rfl (fun K hK => ?step1048))
                  case step1048 =>
                    (go_simp; (have hgeq2 := K39.size); (have hltq2 := K39.has.2.2.1.lt); (have K40 := K39.new 22 [.slice none 0 0]); (have s40 := Stable.below (P := fun w' => w'.cell? ⟨w.heap.size + 1, 0, none⟩ = some (.slice A1 n2 c1) ∧ w'.cell? ⟨w.heap.size + 1, 1, none⟩ = some (.slice A2 n2 c2) ∧ w'.cell? ⟨w.heap.size + 1, 2, none⟩ = some (.slice A3 n3 c3) ∧ w'.cell? ⟨w.heap.size + 1 + 1, 0, none⟩ = some (.slice B1 m2 d1) ∧ w'.cell? ⟨w.heap.size + 1 + 1, 1, none⟩ = some (.slice B2 m2 d2) ∧ w'.cell? ⟨w.heap.size + 1 + 1, 2, none⟩ = some (.slice B3 m3 d3)) ((Below.refl _ w39).alloc (Nat.le_refl _) (.cells #[.slice none 0 0] 22)) s39); (generalize w39.alloc (.cells [.slice none 0 0].toArray 22) = w40 at K40 s40 ⊢))
                    refine hK.out _ _ ?hS1048 (fun hHeld => ?rest1048)
                    case hS1048 => (first | assumption | exact s20 | go_keep)
                    clear hK K
                    try simp only [Act.put, List.setIfInBounds_toArray, List.set_cons_zero, List.set_cons_succ]
                    refine wpAnyH_ready (rs := [8]) (by kernel_rfl) (by simp) (consL rfl (fun K hK => ?step1049))
                    ((have ya := K40.has.2.2.2.1.cell 0); (have fa := K40.has.2.2.2.1.frozen 0); (have rF := K40.has.1.far (p := ⟨wb1.heap.size, 0, none⟩) (by simp; omega) (.slice LA (uniL S1 S2).length lc)); (have yb := rF.cell 0); (have fb := rF.frozen 0); (have sF : (fun w' => w'.cell? ⟨w.heap.size + 1, 0, none⟩ = some (.slice A1 n2 c1) ∧ w'.cell? ⟨w.heap.size + 1, 1, none⟩ = some (.slice A2 n2 c2) ∧ w'.cell? ⟨w.heap.size + 1, 2, none⟩ = some (.slice A3 n3 c3) ∧ w'.cell? ⟨w.heap.size + 1 + 1, 0, none⟩ = some (.slice B1 m2 d1) ∧ w'.cell? ⟨w.heap.size + 1 + 1, 1, none⟩ = some (.slice B2 m2 d2) ∧ w'.cell? ⟨w.heap.size + 1 + 1, 2, none⟩ = some (.slice B3 m3 d3)) (w40.setCell ⟨wb1.heap.size, 0, none⟩ (.slice LA (uniL S1 S2).length lc)) := ⟨(cell_farN (by omega)).trans s40.1, (cell_farN (by omega)).trans s40.2.1, (cell_farN (by omega)).trans s40.2.2.1, (cell_farN (by omega)).trans s40.2.2.2.1, (cell_farN (by omega)).trans s40.2.2.2.2.1, (cell_farN (by omega)).trans s40.2.2.2.2.2⟩); go_simp)
                    refine hK.out _ _ ?hS1049 (fun hHeld => ?rest1049)
                    case hS1049 => (first | assumption | exact s20 | go_keep)
                    clear hK K
                    try simp only [Act.put, List.setIfInBounds_toArray, List.set_cons_zero, List.set_cons_succ]
                    refine wpAnyH_done (by kernel_rfl) ?_ _
                    unfold AheadOf
                    go_simp
                    refine NoPanic.normal ?_
                    have hT := two_stored K40.bel K40.has.2.2.1 K40.has.2.1 K40.has.2.2.2.1 K40.has.1 (by omega) hgeq1 hgeq2
                    go_wp2_with fail
                    go_meet
                    case rel => exact ⟨_, _, LA, lc, RA, rc, rfl, rfl, by omega, by omega, hT⟩
                case step1046 =>
                  (go_simp; (have hgeq2 := K38.size); (have hltq2 := K38.has.2.1.lt); (have K41 := K38.new 22 [.slice none 0 0]); (have s41 := Stable.below (P := fun w' => w'.cell? ⟨w.heap.size + 1, 0, none⟩ = some (.slice A1 n2 c1) ∧ w'.cell? ⟨w.heap.size + 1, 1, none⟩ = some (.slice A2 n2 c2) ∧ w'.cell? ⟨w.heap.size + 1, 2, none⟩ = some (.slice A3 n3 c3) ∧ w'.cell? ⟨w.heap.size + 1 + 1, 0, none⟩ = some (.slice B1 m2 d1) ∧ w'.cell? ⟨w.heap.size + 1 + 1, 1, none⟩ = some (.slice B2 m2 d2) ∧ w'.cell? ⟨w.heap.size + 1 + 1, 2, none⟩ = some (.slice B3 m3 d3)) ((Below.refl _ w38).alloc (Nat.le_refl _) (.cells #[.slice none 0 0] 22)) s38); (generalize w38.alloc (.cells [.slice none 0 0].toArray 22) = w41 at K41 s41 ⊢))
                  refine hK.out _ _ ?hS1046 (fun hHeld => ?rest1046)
                  case hS1046 => (first | assumption | exact s20 | go_keep)
                  clear hK K
                  try simp only [Act.put, List.setIfInBounds_toArray, List.set_cons_zero, List.set_cons_succ]
                  refine wpAnyH_ready (rs := [5]) (by kernel_rfl) (by simp) (consL rfl (fun K hK => ?step1051))
                  case step1051 =>
                    (go_simp; (refine (strides_s X4 B1 B2 B3 (uniL S1 S2).length y4 m2 d1 d2 m3 d3 (uniL S1 S2) S2 Z2 _ (K41.has.2.2.2.2.2.2.1.sl hUbig) K41.has.2.2.2.2.2.2.2.2.2.2.2.2.2.1 K41.has.2.2.2.2.2.2.2.2.2.2.2.2.1 hUb HUA.out hnd2 hsub2 hpos2 hmx2).mono ?_); (rintro e w42 ⟨RA, rc, rfl, ho42, hb42⟩); (have K42 := (K41.step hb42).own (show OwnR _ w42 (pp + 1) _ _ _ _ _ from ho42.mono K41.has.2.2.2.1.lt)); (have s42 := Stable.below (P := fun w' => w'.cell? ⟨w.heap.size + 1, 0, none⟩ = some (.slice A1 n2 c1) ∧ w'.cell? ⟨w.heap.size + 1, 1, none⟩ = some (.slice A2 n2 c2) ∧ w'.cell? ⟨w.heap.size + 1, 2, none⟩ = some (.slice A3 n3 c3) ∧ w'.cell? ⟨w.heap.size + 1 + 1, 0, none⟩ = some (.slice B1 m2 d1) ∧ w'.cell? ⟨w.heap.size + 1 + 1, 1, none⟩ = some (.slice B2 m2 d2) ∧ w'.cell? ⟨w.heap.size + 1 + 1, 2, none⟩ = some (.slice B3 m3 d3)) hb42 s41))
                    refine hK.out _ _ ?hS1051 (fun hHeld => ?rest1051)
                    case hS1051 => (first | assumption | exact s20 | go_keep)
                    clear hK K
                    try simp only [Act.put, List.setIfInBounds_toArray, List.set_cons_zero, List.set_cons_succ]
                    refine wpAnyH_ready (rs := [8]) (by kernel_rfl) (by simp) (consL rfl (fun K hK => ?step1052))
                    ((have ya := K42.has.2.2.2.1.cell 0); (have fa := K42.has.2.2.2.1.frozen 0); (have rF := K42.has.2.1.far (p := ⟨wb1.heap.size, 0, none⟩) (by simp; omega) (.slice LA (uniL S1 S2).length lc)); (have yb := rF.cell 0); (have fb := rF.frozen 0); (have sF : (fun w' => w'.cell? ⟨w.heap.size + 1, 0, none⟩ = some (.slice A1 n2 c1) ∧ w'.cell? ⟨w.heap.size + 1, 1, none⟩ = some (.slice A2 n2 c2) ∧ w'.cell? ⟨w.heap.size + 1, 2, none⟩ = some (.slice A3 n3 c3) ∧ w'.cell? ⟨w.heap.size + 1 + 1, 0, none⟩ = some (.slice B1 m2 d1) ∧ w'.cell? ⟨w.heap.size + 1 + 1, 1, none⟩ = some (.slice B2 m2 d2) ∧ w'.cell? ⟨w.heap.size + 1 + 1, 2, none⟩ = some (.slice B3 m3 d3)) (w42.setCell ⟨wb1.heap.size, 0, none⟩ (.slice LA (uniL S1 S2).length lc)) := ⟨(cell_farN (by omega)).trans s42.1, (cell_farN (by omega)).trans s42.2.1, (cell_farN (by omega)).trans s42.2.2.1, (cell_farN (by omega)).trans s42.2.2.2.1, (cell_farN (by omega)).trans s42.2.2.2.2.1, (cell_farN (by omega)).trans s42.2.2.2.2.2⟩); go_simp)
                    refine hK.out _ _ ?hS1052 (fun hHeld => ?rest1052)
                    case hS1052 => (first | assumption | exact s20 | go_keep)
                    clear hK K
                    try simp only [Act.put, List.setIfInBounds_toArray, List.set_cons_zero, List.set_cons_succ]
                    refine wpAnyH_done (by kernel_rfl) ?_ _
                    unfold AheadOf
                    go_simp
                    refine NoPanic.normal ?_
                    have hT := two_stored K42.bel K42.has.2.2.1 K42.has.1 K42.has.2.2.2.1 K42.has.2.1 (by omega) hgeq1 hgeq2
                    go_wp2_with fail
                    go_meet
                    case rel => exact ⟨_, _, LA, lc, RA, rc, rfl, rfl, by omega, by omega, hT⟩
              case step1043 =>
                (go_simp; (have hgeq2 := K37.size); (have hltq2 := K37.has.1.lt); (have K43 := K37.new 22 [.slice none 0 0]); (have s43 := Stable.below (P := fun w' => w'.cell? ⟨w.heap.size + 1, 0, none⟩ = some (.slice A1 n2 c1) ∧ w'.cell? ⟨w.heap.size + 1, 1, none⟩ = some (.slice A2 n2 c2) ∧ w'.cell? ⟨w.heap.size + 1, 2, none⟩ = some (.slice A3 n3 c3) ∧ w'.cell? ⟨w.heap.size + 1 + 1, 0, none⟩ = some (.slice B1 m2 d1) ∧ w'.cell? ⟨w.heap.size + 1 + 1, 1, none⟩ = some (.slice B2 m2 d2) ∧ w'.cell? ⟨w.heap.size + 1 + 1, 2, none⟩ = some (.slice B3 m3 d3)) ((Below.refl _ w37).alloc (Nat.le_refl _) (.cells #[.slice none 0 0] 22)) s37); (generalize w37.alloc (.cells [.slice none 0 0].toArray 22) = w43 at K43 s43 ⊢))
                refine hK.out _ _ ?hS1043 (fun hHeld => ?rest1043)
                case hS1043 => (first | assumption | exact s20 | go_keep)
                clear hK K
                try simp only [Act.put, List.setIfInBounds_toArray, List.set_cons_zero, List.set_cons_succ]
                refine wpAnyH_ready (rs := [2]) (by kernel_rfl) (by simp) (consL rfl (fun K hK => ?step1054))
                case step1054 =>
                  (go_simp; (refine (strides_s X4 A1 A2 A3 (uniL S1 S2).length y4 n2 c1 c2 n3 c3 (uniL S1 S2) S1 Z1 _ (K43.has.2.2.2.2.2.1.sl hUbig) K43.has.2.2.2.2.2.2.2.2.2.2.2.2.2.2.2.1 K43.has.2.2.2.2.2.2.2.2.2.2.2.2.2.2.1 hUb HUA.out hnd1 hsub1 hpos1 hmx1).mono ?_); (rintro e w44 ⟨LA, lc, rfl, ho44, hb44⟩); (have K44 := (K43.step hb44).own (show OwnR _ w44 (pp + 1) _ _ _ _ _ from ho44.mono K43.has.2.2.1.lt)); (have s44 := Stable.below (P := fun w' => w'.cell? ⟨w.heap.size + 1, 0, none⟩ = some (.slice A1 n2 c1) ∧ w'.cell? ⟨w.heap.size + 1, 1, none⟩ = some (.slice A2 n2 c2) ∧ w'.cell? ⟨w.heap.size + 1, 2, none⟩ = some (.slice A3 n3 c3) ∧ w'.cell? ⟨w.heap.size + 1 + 1, 0, none⟩ = some (.slice B1 m2 d1) ∧ w'.cell? ⟨w.heap.size + 1 + 1, 1, none⟩ = some (.slice B2 m2 d2) ∧ w'.cell? ⟨w.heap.size + 1 + 1, 2, none⟩ = some (.slice B3 m3 d3)) hb44 s43))
                  refine hK.out _ _ ?hS1054 (fun hHeld => ?rest1054)
                  case hS1054 => (first | assumption | exact s20 | go_keep)
                  clear hK K
                  try simp only [Act.put, List.setIfInBounds_toArray, List.set_cons_zero, List.set_cons_succ]
                  refine wpAnyH_ready (rs := [5]) (by kernel_rfl) (by simp) (consL rfl (fun K hK => ?step1056))
                  case step1056 =>
                    (go_simp; (refine (strides_s X4 B1 B2 B3 (uniL S1 S2).length y4 m2 d1 d2 m3 d3 (uniL S1 S2) S2 Z2 _ (K44.has.2.2.2.2.2.2.1.sl hUbig) K44.has.2.2.2.2.2.2.2.2.2.2.2.2.2.1 K44.has.2.2.2.2.2.2.2.2.2.2.2.2.1 hUb HUA.out hnd2 hsub2 hpos2 hmx2).mono ?_); (rintro e w45 ⟨RA, rc, rfl, ho45, hb45⟩); (have K45 := (K44.step hb45).own (show OwnR _ w45 (pp + 1) _ _ _ _ _ from ho45.mono K44.has.2.2.2.1.lt)); (have s45 := Stable.below (P := fun w' => w'.cell? ⟨w.heap.size + 1, 0, none⟩ = some (.slice A1 n2 c1) ∧ w'.cell? ⟨w.heap.size + 1, 1, none⟩ = some (.slice A2 n2 c2) ∧ w'.cell? ⟨w.heap.size + 1, 2, none⟩ = some (.slice A3 n3 c3) ∧ w'.cell? ⟨w.heap.size + 1 + 1, 0, none⟩ = some (.slice B1 m2 d1) ∧ w'.cell? ⟨w.heap.size + 1 + 1, 1, none⟩ = some (.slice B2 m2 d2) ∧ w'.cell? ⟨w.heap.size + 1 + 1, 2, none⟩ = some (.slice B3 m3 d3)) hb45 s44))
                    refine hK.out _ _ ?hS1056 (fun hHeld => ?rest1056)
                    case hS1056 => (first | assumption | exact s20 | go_keep)
                    clear hK K
                    try simp only [Act.put, List.setIfInBounds_toArray, List.set_cons_zero, List.set_cons_succ]
                    refine wpAnyH_ready (rs := [8]) (by kernel_rfl) (by simp) (consL rfl (fun K hK => ?step1057))
                    ((have ya := K45.has.2.2.2.1.cell 0); (have fa := K45.has.2.2.2.1.frozen 0); (have rF := K45.has.2.2.1.far (p := ⟨wb1.heap.size, 0, none⟩) (by simp; omega) (.slice LA (uniL S1 S2).length lc)); (have yb := rF.cell 0); (have fb := rF.frozen 0); (have sF : (fun w' => w'.cell? ⟨w.heap.size + 1, 0, none⟩ = some (.slice A1 n2 c1) ∧ w'.cell? ⟨w.heap.size + 1, 1, none⟩ = some (.slice A2 n2 c2) ∧ w'.cell? ⟨w.heap.size + 1, 2, none⟩ = some (.slice A3 n3 c3) ∧ w'.cell? ⟨w.heap.size + 1 + 1, 0, none⟩ = some (.slice B1 m2 d1) ∧ w'.cell? ⟨w.heap.size + 1 + 1, 1, none⟩ = some (.slice B2 m2 d2) ∧ w'.cell? ⟨w.heap.size + 1 + 1, 2, none⟩ = some (.slice B3 m3 d3)) (w45.setCell ⟨wb1.heap.size, 0, none⟩ (.slice LA (uniL S1 S2).length lc)) := ⟨(cell_farN (by omega)).trans s45.1, (cell_farN (by omega)).trans s45.2.1, (cell_farN (by omega)).trans s45.2.2.1, (cell_farN (by omega)).trans s45.2.2.2.1, (cell_farN (by omega)).trans s45.2.2.2.2.1, (cell_farN (by omega)).trans s45.2.2.2.2.2⟩); go_simp)
                    refine hK.out _ _ ?hS1057 (fun hHeld => ?rest1057)
                    case hS1057 => (first | assumption | exact s20 | go_keep)
                    clear hK K
                    try simp only [Act.put, List.setIfInBounds_toArray, List.set_cons_zero, List.set_cons_succ]
                    refine wpAnyH_done (by kernel_rfl) ?_ _
                    unfold AheadOf
                    go_simp
                    refine NoPanic.normal ?_
                    have hT := two_stored K45.bel K45.has.2.1 K45.has.1 K45.has.2.2.2.1 K45.has.2.2.1 (by omega) hgeq1 hgeq2
                    go_wp2_with fail
                    go_meet
                    case rel => exact ⟨_, _, LA, lc, RA, rc, rfl, rfl, by omega, by omega, hT⟩
            case step1009 =>
              (go_simp; (have hgeq2 := K20.out.size); (have K46 := K20.out.new 22 [.slice none 0 0]); (have s46 := Stable.below (P := fun w' => w'.cell? ⟨w.heap.size + 1, 0, none⟩ = some (.slice A1 n2 c1) ∧ w'.cell? ⟨w.heap.size + 1, 1, none⟩ = some (.slice A2 n2 c2) ∧ w'.cell? ⟨w.heap.size + 1, 2, none⟩ = some (.slice A3 n3 c3) ∧ w'.cell? ⟨w.heap.size + 1 + 1, 0, none⟩ = some (.slice B1 m2 d1) ∧ w'.cell? ⟨w.heap.size + 1 + 1, 1, none⟩ = some (.slice B2 m2 d2) ∧ w'.cell? ⟨w.heap.size + 1 + 1, 2, none⟩ = some (.slice B3 m3 d3)) ((Below.refl _ wb1).alloc (Nat.le_refl _) (.cells #[.slice none 0 0] 22)) s20); (generalize wb1.alloc (.cells [.slice none 0 0].toArray 22) = w46 at K46 s46 ⊢))
              refine hK.out _ _ ?hS1009 (fun hHeld => ?rest1009)
              case hS1009 => (first | assumption | exact s20 | go_keep)
              clear hK K
              try simp only [Act.put, List.setIfInBounds_toArray, List.set_cons_zero, List.set_cons_succ]
              refine wpAnyH_ready (rs := [2, 6]) (by kernel_rfl) (by simp) (consM rfl (fun K hK => ?step1059) (consL rfl (fun K hK => ?step1060)))
              case step1059 =>
                (go_simp; (refine (strides_s X4 A1 A2 A3 (uniL S1 S2).length y4 n2 c1 c2 n3 c3 (uniL S1 S2) S1 Z1 _ (K46.has.2.2.2.2.1.sl hUbig) K46.has.2.2.2.2.2.2.2.2.2.2.2.2.2.2.1 K46.has.2.2.2.2.2.2.2.2.2.2.2.2.2.1 hUb HUA.out hnd1 hsub1 hpos1 hmx1).mono ?_); (rintro e w47 ⟨LA, lc, rfl, ho47, hb47⟩); (have K47 := (K46.step hb47).own (show OwnR _ w47 (pp + 1) _ _ _ _ _ from ho47.mono K46.has.2.1.lt)); (have s47 := Stable.below (P := fun w' => w'.cell? ⟨w.heap.size + 1, 0, none⟩ = some (.slice A1 n2 c1) ∧ w'.cell? ⟨w.heap.size + 1, 1, none⟩ = some (.slice A2 n2 c2) ∧ w'.cell? ⟨w.heap.size + 1, 2, none⟩ = some (.slice A3 n3 c3) ∧ w'.cell? ⟨w.heap.size + 1 + 1, 0, none⟩ = some (.slice B1 m2 d1) ∧ w'.cell? ⟨w.heap.size + 1 + 1, 1, none⟩ = some (.slice B2 m2 d2) ∧ w'.cell? ⟨w.heap.size + 1 + 1, 2, none⟩ = some (.slice B3 m3 d3)) hb47 s46))
                refine hK.out _ _ ?hS1059 (fun hHeld => ?rest1059)
                case hS1059 => (first | assumption | exact s20 | go_keep)
                clear hK K
                try simp only [Act.put, List.setIfInBounds_toArray, List.set_cons_zero, List.set_cons_succ]
                refine wpAnyH_ready (rs := [5, 6]) (by kernel_rfl) (by simp) (consM rfl (fun K hK => ?step1062) (consL rfl (fun K hK => ?step1063)))
                case step1062 =>
                  (go_simp; (refine (strides_s X4 B1 B2 B3 (uniL S1 S2).length y4 m2 d1 d2 m3 d3 (uniL S1 S2) S2 Z2 _ (K47.has.2.2.2.2.2.1.sl hUbig) K47.has.2.2.2.2.2.2.2.2.2.2.2.2.1 K47.has.2.2.2.2.2.2.2.2.2.2.2.1 hUb HUA.out hnd2 hsub2 hpos2 hmx2).mono ?_); (rintro e w48 ⟨RA, rc, rfl, ho48, hb48⟩); (have K48 := (K47.step hb48).own (show OwnR _ w48 (pp + 1) _ _ _ _ _ from ho48.mono K47.has.2.2.1.lt)); (have s48 := Stable.below (P := fun w' => w'.cell? ⟨w.heap.size + 1, 0, none⟩ = some (.slice A1 n2 c1) ∧ w'.cell? ⟨w.heap.size + 1, 1, none⟩ = some (.slice A2 n2 c2) ∧ w'.cell? ⟨w.heap.size + 1, 2, none⟩ = some (.slice A3 n3 c3) ∧ w'.cell? ⟨w.heap.size + 1 + 1, 0, none⟩ = some (.slice B1 m2 d1) ∧ w'.cell? ⟨w.heap.size + 1 + 1, 1, none⟩ = some (.slice B2 m2 d2) ∧ w'.cell? ⟨w.heap.size + 1 + 1, 2, none⟩ = some (.slice B3 m3 d3)) hb48 s47))
                  refine hK.out _ _ ?hS1062 (fun hHeld => ?rest1062)
                  case hS1062 => (first | assumption | exact s20 | go_keep)
                  clear hK K
                  try simp only [Act.put, List.setIfInBounds_toArray, List.set_cons_zero, List.set_cons_succ]
                  refine wpAnyH_ready (rs := [6]) (by kernel_rfl) (by simp) (consL rfl (fun K hK => ?step1065))
                  case step1065 =>
                    (go_simp; (have hgeq1 := K48.size); (have hltq1 := K48.has.2.2.1.lt); (have K49 := K48.new 22 [.slice none 0 0]); (have s49 := Stable.below (P := fun w' => w'.cell? ⟨w.heap.size + 1, 0, none⟩ = some (.slice A1 n2 c1) ∧ w'.cell? ⟨w.heap.size + 1, 1, none⟩ = some (.slice A2 n2 c2) ∧ w'.cell? ⟨w.heap.size + 1, 2, none⟩ = some (.slice A3 n3 c3) ∧ w'.cell? ⟨w.heap.size + 1 + 1, 0, none⟩ = some (.slice B1 m2 d1) ∧ w'.cell? ⟨w.heap.size + 1 + 1, 1, none⟩ = some (.slice B2 m2 d2) ∧ w'.cell? ⟨w.heap.size + 1 + 1, 2, none⟩ = some (.slice B3 m3 d3)) ((Below.refl _ w48).alloc (Nat.le_refl _) (.cells #[.slice none 0 0] 22)) s48); (generalize w48.alloc (.cells [.slice none 0 0].toArray 22) = w49 at K49 s49 ⊢))
                    refine hK.out _ _ ?hS1065 (fun hHeld => ?rest1065)
                    case hS1065 => (first | assumption | exact s20 | go_keep)
                    clear hK K
                    try simp only [Act.put, List.setIfInBounds_toArray, List.set_cons_zero, List.set_cons_succ]
                    refine wpAnyH_ready (rs := [8]) (by kernel_rfl) (by simp) (consL rfl (fun K hK => ?step1066))
                    ((have ya := K49.has.1.cell 0); (have fa := K49.has.1.frozen 0); (have rF := K49.has.2.2.2.1.far (p := ⟨w48.heap.size, 0, none⟩) (by simp; omega) (.slice LA (uniL S1 S2).length lc)); (have yb := rF.cell 0); (have fb := rF.frozen 0); (have sF : (fun w' => w'.cell? ⟨w.heap.size + 1, 0, none⟩ = some (.slice A1 n2 c1) ∧ w'.cell? ⟨w.heap.size + 1, 1, none⟩ = some (.slice A2 n2 c2) ∧ w'.cell? ⟨w.heap.size + 1, 2, none⟩ = some (.slice A3 n3 c3) ∧ w'.cell? ⟨w.heap.size + 1 + 1, 0, none⟩ = some (.slice B1 m2 d1) ∧ w'.cell? ⟨w.heap.size + 1 + 1, 1, none⟩ = some (.slice B2 m2 d2) ∧ w'.cell? ⟨w.heap.size + 1 + 1, 2, none⟩ = some (.slice B3 m3 d3)) (w49.setCell ⟨w48.heap.size, 0, none⟩ (.slice LA (uniL S1 S2).length lc)) := ⟨(cell_farN (by omega)).trans s49.1, (cell_farN (by omega)).trans s49.2.1, (cell_farN (by omega)).trans s49.2.2.1, (cell_farN (by omega)).trans s49.2.2.2.1, (cell_farN (by omega)).trans s49.2.2.2.2.1, (cell_farN (by omega)).trans s49.2.2.2.2.2⟩); go_simp)
                    refine hK.out _ _ ?hS1066 (fun hHeld => ?rest1066)
                    case hS1066 => (first | assumption | exact s20 | go_keep)
                    clear hK K
                    try simp only [Act.put, List.setIfInBounds_toArray, List.set_cons_zero, List.set_cons_succ]
                    refine wpAnyH_done (by kernel_rfl) ?_ _
                    unfold AheadOf
                    go_simp
                    refine NoPanic.normal ?_
                    have hT := two_stored K49.bel K49.has.2.2.1 K49.has.2.1 K49.has.1 K49.has.2.2.2.1 (by omega) hgeq1 hgeq2
                    go_wp2_with fail
                    go_meet
                    case rel => exact ⟨_, _, LA, lc, RA, rc, rfl, rfl, by omega, by omega, hT⟩
                case step1063 =>
                  (go_simp; (have hgeq1 := K47.size); (have hltq1 := K47.has.2.1.lt); (have K50 := K47.new 22 [.slice none 0 0]); (have s50 := Stable.below (P := fun w' => w'.cell? ⟨w.heap.size + 1, 0, none⟩ = some (.slice A1 n2 c1) ∧ w'.cell? ⟨w.heap.size + 1, 1, none⟩ = some (.slice A2 n2 c2) ∧ w'.cell? ⟨w.heap.size + 1, 2, none⟩ = some (.slice A3 n3 c3) ∧ w'.cell? ⟨w.heap.size + 1 + 1, 0, none⟩ = some (.slice B1 m2 d1) ∧ w'.cell? ⟨w.heap.size + 1 + 1, 1, none⟩ = some (.slice B2 m2 d2) ∧ w'.cell? ⟨w.heap.size + 1 + 1, 2, none⟩ = some (.slice B3 m3 d3)) ((Below.refl _ w47).alloc (Nat.le_refl _) (.cells #[.slice none 0 0] 22)) s47); (generalize w47.alloc (.cells [.slice none 0 0].toArray 22) = w50 at K50 s50 ⊢))
                  refine hK.out _ _ ?hS1063 (fun hHeld => ?rest1063)
                  case hS1063 => (first | assumption | exact s20 | go_keep)
                  clear hK K
                  try simp only [Act.put, List.setIfInBounds_toArray, List.set_cons_zero, List.set_cons_succ]
                  refine wpAnyH_ready (rs := [5]) (by kernel_rfl) (by simp) (consL rfl (fun K hK => ?step1068))
                  case step1068 =>
                    (go_simp; (refine (strides_s X4 B1 B2 B3 (uniL S1 S2).length y4 m2 d1 d2 m3 d3 (uniL S1 S2) S2 Z2 _ (K50.has.2.2.2.2.2.2.1.sl hUbig) K50.has.2.2.2.2.2.2.2.2.2.2.2.2.2.1 K50.has.2.2.2.2.2.2.2.2.2.2.2.2.1 hUb HUA.out hnd2 hsub2 hpos2 hmx2).mono ?_); (rintro e w51 ⟨RA, rc, rfl, ho51, hb51⟩); (have K51 := (K50.step hb51).own (show OwnR _ w51 (pp + 1) _ _ _ _ _ from ho51.mono K50.has.2.2.2.1.lt)); (have s51 := Stable.below (P := fun w' => w'.cell? ⟨w.heap.size + 1, 0, none⟩ = some (.slice A1 n2 c1) ∧ w'.cell? ⟨w.heap.size + 1, 1, none⟩ = some (.slice A2 n2 c2) ∧ w'.cell? ⟨w.heap.size + 1, 2, none⟩ = some (.slice A3 n3 c3) ∧ w'.cell? ⟨w.heap.size + 1 + 1, 0, none⟩ = some (.slice B1 m2 d1) ∧ w'.cell? ⟨w.heap.size + 1 + 1, 1, none⟩ = some (.slice B2 m2 d2) ∧ w'.cell? ⟨w.heap.size + 1 + 1, 2, none⟩ = some (.slice B3 m3 d3)) hb51 s50))
                    refine hK.out _ _ ?hS1068 (fun hHeld => ?rest1068)
                    case hS1068 => (first | assumption | exact s20 | go_keep)
                    clear hK K
                    try simp only [Act.put, List.setIfInBounds_toArray, List.set_cons_zero, List.set_cons_succ]
                    refine wpAnyH_ready (rs := [8]) (by kernel_rfl) (by simp) (consL rfl (fun K hK => ?step1069))
                    ((have ya := K51.has.2.1.cell 0); (have fa := K51.has.2.1.frozen 0); (have rF := K51.has.2.2.2.1.far (p := ⟨w47.heap.size, 0, none⟩) (by simp; omega) (.slice LA (uniL S1 S2).length lc)); (have yb := rF.cell 0); (have fb := rF.frozen 0); (have sF : (fun w' => w'.cell? ⟨w.heap.size + 1, 0, none⟩ = some (.slice A1 n2 c1) ∧ w'.cell? ⟨w.heap.size + 1, 1, none⟩ = some (.slice A2 n2 c2) ∧ w'.cell? ⟨w.heap.size + 1, 2, none⟩ = some (.slice A3 n3 c3) ∧ w'.cell? ⟨w.heap.size + 1 + 1, 0, none⟩ = some (.slice B1 m2 d1) ∧ w'.cell? ⟨w.heap.size + 1 + 1, 1, none⟩ = some (.slice B2 m2 d2) ∧ w'.cell? ⟨w.heap.size + 1 + 1, 2, none⟩ = some (.slice B3 m3 d3)) (w51.setCell ⟨w47.heap.size, 0, none⟩ (.slice LA (uniL S1 S2).length lc)) := ⟨(cell_farN (by omega)).trans s51.1, (cell_farN (by omega)).trans s51.2.1, (cell_farN (by omega)).trans s51.2.2.1, (cell_farN (by omega)).trans s51.2.2.2.1, (cell_farN (by omega)).trans s51.2.2.2.2.1, (cell_farN (by omega)).trans s51.2.2.2.2.2⟩); go_simp)
                    refine hK.out _ _ ?hS1069 (fun hHeld => ?rest1069)
                    case hS1069 => (first | assumption | exact s20 | go_keep)
                    clear hK K
                    try simp only [Act.put, List.setIfInBounds_toArray, List.set_cons_zero, List.set_cons_succ]
                    refine wpAnyH_done (by kernel_rfl) ?_ _
                    unfold AheadOf
                    go_simp
                    refine NoPanic.normal ?_
                    have hT := two_stored K51.bel K51.has.2.2.1 K51.has.1 K51.has.2.1 K51.has.2.2.2.1 (by omega) hgeq1 hgeq2
                    go_wp2_with fail
                    go_meet
                    case rel => exact ⟨_, _, LA, lc, RA, rc, rfl, rfl, by omega, by omega, hT⟩
              case step1060 =>
                (go_simp; (have hgeq1 := K46.size); (have hltq1 := K46.has.1.lt); (have K52 := K46.new 22 [.slice none 0 0]); (have s52 := Stable.below (P := fun w' => w'.cell? ⟨w.heap.size + 1, 0, none⟩ = some (.slice A1 n2 c1) ∧ w'.cell? ⟨w.heap.size + 1, 1, none⟩ = some (.slice A2 n2 c2) ∧ w'.cell? ⟨w.heap.size + 1, 2, none⟩ = some (.slice A3 n3 c3) ∧ w'.cell? ⟨w.heap.size + 1 + 1, 0, none⟩ = some (.slice B1 m2 d1) ∧ w'.cell? ⟨w.heap.size + 1 + 1, 1, none⟩ = some (.slice B2 m2 d2) ∧ w'.cell? ⟨w.heap.size + 1 + 1, 2, none⟩ = some (.slice B3 m3 d3)) ((Below.refl _ w46).alloc (Nat.le_refl _) (.cells #[.slice none 0 0] 22)) s46); (generalize w46.alloc (.cells [.slice none 0 0].toArray 22) = w52 at K52 s52 ⊢))
                refine hK.out _ _ ?hS1060 (fun hHeld => ?rest1060)
                case hS1060 => (first | assumption | exact s20 | go_keep)
                clear hK K
                try simp only [Act.put, List.setIfInBounds_toArray, List.set_cons_zero, List.set_cons_succ]
                refine wpAnyH_ready (rs := [2]) (by kernel_rfl) (by simp) (consL rfl (fun K hK => ?step1071))
                case step1071 =>
                  (go_simp; (refine (strides_s X4 A1 A2 A3 (uniL S1 S2).length y4 n2 c1 c2 n3 c3 (uniL S1 S2) S1 Z1 _ (K52.has.2.2.2.2.2.1.sl hUbig) K52.has.2.2.2.2.2.2.2.2.2.2.2.2.2.2.2.1 K52.has.2.2.2.2.2.2.2.2.2.2.2.2.2.2.1 hUb HUA.out hnd1 hsub1 hpos1 hmx1).mono ?_); (rintro e w53 ⟨LA, lc, rfl, ho53, hb53⟩); (have K53 := (K52.step hb53).own (show OwnR _ w53 (pp + 1) _ _ _ _ _ from ho53.mono K52.has.2.2.1.lt)); (have s53 := Stable.below (P := fun w' => w'.cell? ⟨w.heap.size + 1, 0, none⟩ = some (.slice A1 n2 c1) ∧ w'.cell? ⟨w.heap.size + 1, 1, none⟩ = some (.slice A2 n2 c2) ∧ w'.cell? ⟨w.heap.size + 1, 2, none⟩ = some (.slice A3 n3 c3) ∧ w'.cell? ⟨w.heap.size + 1 + 1, 0, none⟩ = some (.slice B1 m2 d1) ∧ w'.cell? ⟨w.heap.size + 1 + 1, 1, none⟩ = some (.slice B2 m2 d2) ∧ w'.cell? ⟨w.heap.size + 1 + 1, 2, none⟩ = some (.slice B3 m3 d3)) hb53 s52))
                  refine hK.out _ _ ?hS1071 (fun hHeld => ?rest1071)
                  case hS1071 => (first | assumption | exact s20 | go_keep)
                  clear hK K
                  try simp only [Act.put, List.setIfInBounds_toArray, List.set_cons_zero, List.set_cons_succ]
                  refine wpAnyH_ready (rs := [5]) (by kernel_rfl) (by simp) (consL rfl (fun K hK => ?step1073))
                  case step1073 =>
                    (go_simp; (refine (strides_s X4 B1 B2 B3 (uniL S1 S2).length y4 m2 d1 d2 m3 d3 (uniL S1 S2) S2 Z2 _ (K53.has.2.2.2.2.2.2.1.sl hUbig) K53.has.2.2.2.2.2.2.2.2.2.2.2.2.2.1 K53.has.2.2.2.2.2.2.2.2.2.2.2.2.1 hUb HUA.out hnd2 hsub2 hpos2 hmx2).mono ?_); (rintro e w54 ⟨RA, rc, rfl, ho54, hb54⟩); (have K54 := (K53.step hb54).own (show OwnR _ w54 (pp + 1) _ _ _ _ _ from ho54.mono K53.has.2.2.2.1.lt)); (have s54 := Stable.below (P := fun w' => w'.cell? ⟨w.heap.size + 1, 0, none⟩ = some (.slice A1 n2 c1) ∧ w'.cell? ⟨w.heap.size + 1, 1, none⟩ = some (.slice A2 n2 c2) ∧ w'.cell? ⟨w.heap.size + 1, 2, none⟩ = some (.slice A3 n3 c3) ∧ w'.cell? ⟨w.heap.size + 1 + 1, 0, none⟩ = some (.slice B1 m2 d1) ∧ w'.cell? ⟨w.heap.size + 1 + 1, 1, none⟩ = some (.slice B2 m2 d2) ∧ w'.cell? ⟨w.heap.size + 1 + 1, 2, none⟩ = some (.slice B3 m3 d3)) hb54 s53))
                    refine hK.out _ _ ?hS1073 (fun hHeld => ?rest1073)
                    case hS1073 => (first | assumption | exact s20 | go_keep)
                    clear hK K
                    try simp only [Act.put, List.setIfInBounds_toArray, List.set_cons_zero, List.set_cons_succ]
                    refine wpAnyH_ready (rs := [8]) (by kernel_rfl) (by simp) (consL rfl (fun K hK => ?step1074))
                    ((have ya := K54.has.2.2.1.cell 0); (have fa := K54.has.2.2.1.frozen 0); (have rF := K54.has.2.2.2.1.far (p := ⟨w46.heap.size, 0, none⟩) (by simp; omega) (.slice LA (uniL S1 S2).length lc)); (have yb := rF.cell 0); (have fb := rF.frozen 0); (have sF : (fun w' => w'.cell? ⟨w.heap.size + 1, 0, none⟩ = some (.slice A1 n2 c1) ∧ w'.cell? ⟨w.heap.size + 1, 1, none⟩ = some (.slice A2 n2 c2) ∧ w'.cell? ⟨w.heap.size + 1, 2, none⟩ = some (.slice A3 n3 c3) ∧ w'.cell? ⟨w.heap.size + 1 + 1, 0, none⟩ = some (.slice B1 m2 d1) ∧ w'.cell? ⟨w.heap.size + 1 + 1, 1, none⟩ = some (.slice B2 m2 d2) ∧ w'.cell? ⟨w.heap.size + 1 + 1, 2, none⟩ = some (.slice B3 m3 d3)) (w54.setCell ⟨w46.heap.size, 0, none⟩ (.slice LA (uniL S1 S2).length lc)) := ⟨(cell_farN (by omega)).trans s54.1, (cell_farN (by omega)).trans s54.2.1, (cell_farN (by omega)).trans s54.2.2.1, (cell_farN (by omega)).trans s54.2.2.2.1, (cell_farN (by omega)).trans s54.2.2.2.2.1, (cell_farN (by omega)).trans s54.2.2.2.2.2⟩); go_simp)
                    refine hK.out _ _ ?hS1074 (fun hHeld => ?rest1074)
                    case hS1074 => (first | assumption | exact s20 | go_keep)
                    clear hK K
                    try simp only [Act.put, List.setIfInBounds_toArray, List.set_cons_zero, List.set_cons_succ]
                    refine wpAnyH_done (by kernel_rfl) ?_ _
                    unfold AheadOf
                    go_simp
                    refine NoPanic.normal ?_
                    have hT := two_stored K54.bel K54.has.2.1 K54.has.1 K54.has.2.2.1 K54.has.2.2.2.1 (by omega) hgeq1 hgeq2
                    go_wp2_with fail
                    go_meet
                    case rel => exact ⟨_, _, LA, lc, RA, rc, rfl, rfl, by omega, by omega, hT⟩
          case rest =>
            obtain ⟨q1, q2, LA, lc, RA, rc, rfl, rfl, hq1, hq2, hbc, hoL, hoR, hrL, hrR⟩ := hcut
            have G10 := ((((G9.step hbc).own hoL).own hoR).row hrL).row hrR
            clear s20 K20 G9 hbc hoL hoR hrL hrR hnd1 hnd2 hpos1 hpos2 hmx1 hmx2
            go_wp2_with fail
            refine (all_any Y (uniL S1 S2).length yc N ((uniL S1 S2).map (sizeF S1 Z1 S2 Z2)) _ (G10.has.2.2.2.2.2.2.1.sl hUbig) hUb HCN.out).mono ?_
            rintro e wd ⟨pn, po, A, ac, rfl, hAll, hbA⟩
            have hq1l := G10.has.2.1.lt
            have hq2l := G10.has.1.lt
            have G11 := G10.step hbA
            have hcd := hbA.size
            clear G10 hbA
            have HAl := Lib.hid hAll
            clear hAll
            go_wp2_with fail
            have hringT := G11.has.2.2.2.2.2.2.2.2.2.2.2.1
            have haT := G11.has.2.2.2.2.2.2.2.2.2.2.1
            have hbT := G11.has.2.2.2.2.2.2.2.2.2.1
            have hresT := G11.has.2.2.2.2.2.2.2.2.1
            have hUT := G11.has.2.2.2.2.2.2.2.1
            have hZT := G11.has.2.2.2.2.2.2.1
            have hLT := G11.has.2.2.2.1
            have hRT := G11.has.2.2.1
            have hq1T := G11.has.2.1
            have hq2T := G11.has.1
            have P0 : ProdLp (Value.string) 33 9 w wd pp g0 (.slice X4 (uniL S1 S2).length y4) (.slice Y (uniL S1 S2).length yc) wd (some ⟨g0, 0, none⟩) 0 N [] :=
              ⟨G11.bel, Turn.refl _ _, G11.has.2.2.2.2.1, G11.has.2.2.2.2.2.1, (fun g e => by injection e with e; injection e with e; exact .inl e.symm), by omega, hg9.2, by omega⟩
            have HG := Lib.hid (And.intro hringT (And.intro haT (And.intro hbT (And.intro hresT (And.intro hUT (And.intro hZT (And.intro hLT (And.intro hRT (And.intro hq1T (And.intro hq2T P0))))))))))
            clear hringT haT hbT hresT hUT hZT hLT hRT hq1T hq2T P0 G11
            obtain ⟨ZU, hZU⟩ : ∃ ZU, ZU = (uniL S1 S2).map (sizeF S1 Z1 S2 Z2) := ⟨_, rfl⟩
            have hZl : ZU.length = (uniL S1 S2).length := by rw [hZU, List.length_map]
            rw [← hZU] at HAl
            have hseq := all_seq wd wc.heap.size pn po N ac A ZU HAl.out (by rw [hZU]; exact HCL.out.2.2.1) hNl (by rw [hZl]; exact hUb)
            obtain ⟨I, hI⟩ : ∃ I : List (AllX N) → World → Prop, I = fun pre W => ∃ C k, ProdLp (Value.string) 33 9 w wd pp g0 (.slice X4 (uniL S1 S2).length y4) (.slice Y (uniL S1 S2).length yc) W C pre.length k (pre.map fun x => pcell_s S1 Z1 L1 S2 Z2 L2 x.k) := ⟨_, rfl⟩
            have hIb : ∀ (s : List (AllX N)) (A B : World), I s A → Below A.heap.size A B → I s B := by
              rw [hI]
              rintro s A B ⟨C, k, h⟩ hb
              exact ⟨C, k, h.below hb⟩
            have hIp : PutOk wd.heap.size I := by
              rw [hI]
              rintro s W l o o' ⟨C, k, h⟩ hl hW ho
              exact ⟨C, k, h.put hl hW ho⟩
            have hRp : PutOk wd.heap.size (fun x : AllX N => allR ZU x) := fun x W l o o' h hl hW ho => Sl.putT h hW ho
            have hI0 : I [] wd := by
              rw [hI]
              exact ⟨_, _, HG.out.2.2.2.2.2.2.2.2.2.2⟩
            refine wp_rangeR (gf := 68) (lb := #[.pointer (some ⟨pn, 0, none⟩), .pointer (some ⟨po, 0, none⟩)]) rfl (enters_of Try.func68 (by kernel_rfl) rfl) hseq keepR_t keepR_p (fun _ => rfl) I hIb hIp hRp hI0 ?a1 ?assign ?body ?done
            case assign =>
              intro l x W K hK
              dsimp only [allE]
              gi_wp2
              exact hK
            
            case body =>
              intro l pre x W hpre hR hlt
              rw [hI] at hpre
              obtain ⟨C, k, hP⟩ := hpre
              have hnt : ∀ g, w.heap.size ≤ g → g < g0 → ¬ (g = pp ∨ g = g0) := fun g h1 h2 h => by omega
              have ringW := HG.out.1.turn hP.tu (by rintro (h | h) <;> omega)
              have aW := HG.out.2.1.turn hP.tu (by rintro (h | h) <;> omega)
              have bW := HG.out.2.2.1.turn hP.tu (by rintro (h | h) <;> omega)
              have LW := HG.out.2.2.2.2.2.2.1.turn hP.tu (fun g e h => by have := HG.out.2.2.2.2.2.2.1.geT e; omega)
              have RW := HG.out.2.2.2.2.2.2.2.1.turn hP.tu (fun g e h => by have := HG.out.2.2.2.2.2.2.2.1.geT e; omega)
              have q1W := HG.out.2.2.2.2.2.2.2.2.1.turn hP.tu (by rintro (h | h) <;> omega)
              have q2W := HG.out.2.2.2.2.2.2.2.2.2.1.turn hP.tu (by rintro (h | h) <;> omega)
              have hV : Sl (Value.int .i64) W x.B (uniL S1 S2).length (dgL ZU x.k) := by
                have h1 : Sl (Value.int .i64) W x.B ZU.length (dgL ZU x.k) := hR
                rwa [hZl] at h1
              have IX1 := idx_ok (U := uniL S1 S2) (S := S1) (Z := Z1) (F := sizeF S1 Z1 S2 Z2) HUA.out HT.out.1 hsub1 (fun i hi => sizeF_1 HT.out.1 hi) HCL.out.2.2.1 x.k
              have IX2 := idx_ok (U := uniL S1 S2) (S := S2) (Z := Z2) (F := sizeF S1 Z1 S2 Z2) HUA.out HT.out.2.2.1 hsub2 (fun i hi => sizeF_2 HT.out.2.2.1 HNO.out hi) HCL.out.2.2.1 x.k
              rw [← hZU] at IX1 IX2
              have hpc : pcell_s S1 Z1 L1 S2 Z2 L2 x.k = mulF_s (nth L1 (atS Z1 (S1.map (asg (uniL S1 S2) (dgL ZU x.k)))).toNat) (nth L2 (atS Z2 (S2.map (asg (uniL S1 S2) (dgL ZU x.k)))).toNat) := by rw [hZU]; rfl
              generalize atS Z1 (S1.map (asg (uniL S1 S2) (dgL ZU x.k))) = a1 at IX1 hpc
              generalize atS Z2 (S2.map (asg (uniL S1 S2) (dgL ZU x.k))) = a2 at IX2 hpc
              obtain ⟨hp1, h10, h1l, hn1⟩ := IX1
              obtain ⟨hp2, h20, h2l, hn2⟩ := IX2
              rw [HT.out.2.1] at h1l
              rw [HT.out.2.2.2] at h2l
              obtain ⟨i1, rfl⟩ : ∃ i1 : Nat, a1 = (i1 : Int) := ⟨a1.toNat, by omega⟩
              obtain ⟨i2, rfl⟩ : ∃ i2 : Nat, a2 = (i2 : Int) := ⟨a2.toNat, by omega⟩
              rw [Int.toNat_natCast, Int.toNat_natCast] at hpc
              have h1m : i1 < L1.length := by omega
              have h2m : i2 < L2.length := by omega
              have hmo := HM.out _ _ (nth_mem h1m) (nth_mem h2m)
              generalize hx1 : nth L1 i1 = v1 at hpc hmo
              generalize hx2 : nth L2 i2 = v2 at hpc hmo
              obtain ⟨ba, oa, hA3, hba, hca⟩ := HI.out.1.at' (by omega)
              obtain ⟨bb, ob, hB3, hbb, hcb⟩ := HI.out.2.at' (by omega)
              have cA := (hP.bel.cell hba).trans (hca i1 (by omega))
              have cB := (hP.bel.cell hbb).trans (hcb i2 (by omega))
              rw [hx1] at cA
              rw [hx2] at cB
              subst hA3 hB3
              have z0 : (fun w' => w'.cell? ⟨pp, 2, none⟩ = some (.slice C pre.length k) ∧ w'.cell? ⟨w.heap.size, 0, none⟩ = some (.iface 45 (.agg #[])) ∧ w'.cell? ⟨w.heap.size + 1, 2, none⟩ = some (.slice (some ⟨ba, oa, none⟩) n3 c3) ∧ w'.cell? ⟨w.heap.size + 1 + 1, 2, none⟩ = some (.slice (some ⟨bb, ob, none⟩) m3 d3) ∧ w'.cell? ⟨q1, 0, none⟩ = some (.slice LA (uniL S1 S2).length lc) ∧ w'.cell? ⟨q2, 0, none⟩ = some (.slice RA (uniL S1 S2).length rc) ∧ w'.cell? ⟨ba, oa + i1, none⟩ = some (Value.string v1) ∧ w'.cell? ⟨bb, ob + i2, none⟩ = some (Value.string v2)) W := ⟨hP.box.cell 2, ringW.cell 0, aW.cell 2, bW.cell 2, q1W.cell 0, q2W.cell 0, cA, cB⟩
              have hmm := methodMul_s
              have hma := aheadMul_s
              obtain ⟨⟨ix, e1, e2, e3, e4, e5⟩, _, _⟩ := eiSt
              have hk1 : pre.length + 1 ≤ maxLen := by unfold maxLen; omega
              have hk2 : (pre.length + 1) * 16 ≤ 140737488355328 := by omega
              have hmx1 := HT.out.1.cnt
              have hmx2 := HT.out.2.2.1.cnt
              have HX := Lib.hid (And.intro LW (And.intro RW (And.intro hV (And.intro hn1 hn2))))
              have HP := Lib.hid hP
              have HMO := Lib.hid (And.intro hmo hpc)
              have hn3l : (n3 : Int) ≤ 2147483647 := by have := HT.out.1.cnt; rw [HT.out.2.1] at this; exact this
              have hm3l : (m3 : Int) ≤ 2147483647 := by have := HT.out.2.2.1.cnt; rw [HT.out.2.2.2] at this; exact this
              have hi1 : (0 : Int) ≤ (i1 : Int) := by omega
              have hi2 : (0 : Int) ≤ (i2 : Int) := by omega
              have hj1 : (i1 : Int) < (n3 : Int) := by omega
              have hj2 : (i2 : Int) < (m3 : Int) := by omega
              clear ringW aW bW LW RW q1W q2W hV hn1 hn2 hP hR cA cB hca hcb h10 h20 h1l h2l h1m h2m hmo hpc hx1 hx2
              refine wpIn_block ?_
              refine wpIn_region_lastL (S := fun w' => w'.cell? ⟨pp, 2, none⟩ = some (.slice C pre.length k) ∧ w'.cell? ⟨w.heap.size, 0, none⟩ = some (.iface 45 (.agg #[])) ∧ w'.cell? ⟨w.heap.size + 1, 2, none⟩ = some (.slice (some ⟨ba, oa, none⟩) n3 c3) ∧ w'.cell? ⟨w.heap.size + 1 + 1, 2, none⟩ = some (.slice (some ⟨bb, ob, none⟩) m3 d3) ∧ w'.cell? ⟨q1, 0, none⟩ = some (.slice LA (uniL S1 S2).length lc) ∧ w'.cell? ⟨q2, 0, none⟩ = some (.slice RA (uniL S1 S2).length rc) ∧ w'.cell? ⟨ba, oa + i1, none⟩ = some (Value.string v1) ∧ w'.cell? ⟨bb, ob + i2, none⟩ = some (Value.string v2)) 24 24 (by kernel_rfl) rfl rfl rfl (by kernel_rfl) (by kernel_rfl) (by rintro ⟨_, _, h⟩; exact h) ?hS3001 (fun hHeld => ?rest3001)
              case hS3001 => (first | assumption | exact z0 | exact z1 | exact z6 | exact z7 | exact z9 | go_keep)
              have hbW : Below W.heap.size W W.drew := below_refl_drewN _ _ 1
              have HPW := Lib.hid (HP.out.below hbW)
              have HX1 := Lib.hid (And.intro (HX.out.1.below (Nat.le_refl _) hbW) (And.intro (HX.out.2.1.below (Nat.le_refl _) hbW) (HX.out.2.2.1.below (Nat.le_refl _) hbW)))
              generalize W.drew = W1 at hHeld hbW HPW HX1 ⊢
              have z1 := hHeld
              clear z0
              refine wpAnyH_takeL (i := 0) (v := ?v3002) rfl (by kernel_rfl) (by kernel_rfl) (by kernel_rfl) (fun _ _ _ h => h) (by rfl) ?hy3002 (by assumption) ?rest3002
              case hy3002 => (intro w hSw; (try dsimp only at hSw); go_simp; try with_reducible rfl)
              try simp only [Act.put, List.setIfInBounds_toArray, List.set_cons_zero, List.set_cons_succ]
              refine wpAnyH_takeL (i := 1) (v := ?v3003) rfl (by kernel_rfl) (by kernel_rfl) (by kernel_rfl) (fun _ _ _ h => h) (by rfl) ?hy3003 (by assumption) ?rest3003
              case hy3003 => (intro w hSw; (try dsimp only at hSw); go_simp; try with_reducible rfl)
              try simp only [Act.put, List.setIfInBounds_toArray, List.set_cons_zero, List.set_cons_succ]
              refine wpAnyH_takeL (i := 2) (v := ?v3004) rfl (by kernel_rfl) (by kernel_rfl) (by kernel_rfl) (fun _ _ _ h => h) (by rfl) ?hy3004 (by assumption) ?rest3004
              case hy3004 => (intro w hSw; (try dsimp only at hSw); go_simp; try with_reducible rfl)
              try simp only [Act.put, List.setIfInBounds_toArray, List.set_cons_zero, List.set_cons_succ]
              refine wpAnyH_takeL (i := 3) (v := ?v3005) rfl (by kernel_rfl) (by kernel_rfl) (by kernel_rfl) (fun _ _ _ h => h) (by rfl) ?hy3005 (by assumption) ?rest3005
              case hy3005 => (intro w hSw; (try dsimp only at hSw); go_simp; try with_reducible rfl)
              try simp only [Act.put, List.setIfInBounds_toArray, List.set_cons_zero, List.set_cons_succ]
              refine wpAnyH_takeL (i := 4) (v := ?v3006) rfl (by kernel_rfl) (by kernel_rfl) (by kernel_rfl) (fun _ _ _ h => h) (by rfl) ?hy3006 (by assumption) ?rest3006
              case hy3006 => (intro w hSw; (try dsimp only at hSw); go_simp; try with_reducible rfl)
              try simp only [Act.put, List.setIfInBounds_toArray, List.set_cons_zero, List.set_cons_succ]
              refine wpAnyH_takeL (i := 5) (v := ?v3007) rfl (by kernel_rfl) (by kernel_rfl) (by kernel_rfl) (fun _ _ _ h => h) (by rfl) ?hy3007 (by assumption) ?rest3007
              case hy3007 => (intro w hSw; (try dsimp only at hSw); go_simp; try with_reducible rfl)
              try simp only [Act.put, List.setIfInBounds_toArray, List.set_cons_zero, List.set_cons_succ]
              refine wpAnyH_takeL (i := 6) (v := ?v3008) rfl (by kernel_rfl) (by kernel_rfl) (by kernel_rfl) (fun _ _ _ h => h) (by rfl) ?hy3008 (by assumption) ?rest3008
              case hy3008 => (intro w hSw; (try dsimp only at hSw); go_simp; try with_reducible rfl)
              try simp only [Act.put, List.setIfInBounds_toArray, List.set_cons_zero, List.set_cons_succ]
              refine wpAnyH_takeL (i := 10) (v := ?v3009) rfl (by kernel_rfl) (by kernel_rfl) (by kernel_rfl) (fun _ _ _ h => h) (by rfl) ?hy3009 (by assumption) ?rest3009
              case hy3009 => (intro w hSw; (try dsimp only at hSw); go_simp; try with_reducible rfl)
              try simp only [Act.put, List.setIfInBounds_toArray, List.set_cons_zero, List.set_cons_succ]
              refine wpAnyH_takeL (i := 11) (v := ?v3010) rfl (by kernel_rfl) (by kernel_rfl) (by kernel_rfl) (fun _ _ _ h => h) (by rfl) ?hy3010 (by assumption) ?rest3010
              case hy3010 => (intro w hSw; (try dsimp only at hSw); go_simp; try with_reducible rfl)
              try simp only [Act.put, List.setIfInBounds_toArray, List.set_cons_zero, List.set_cons_succ]
              refine wpAnyH_takeL (i := 12) (v := ?v3011) rfl (by kernel_rfl) (by kernel_rfl) (by kernel_rfl) (fun _ _ _ h => h) (by rfl) ?hy3011 (by assumption) ?rest3011
              case hy3011 => (intro w hSw; (try dsimp only at hSw); go_simp; try with_reducible rfl)
              try simp only [Act.put, List.setIfInBounds_toArray, List.set_cons_zero, List.set_cons_succ]
              refine wpAnyH_takeL (i := 13) (v := ?v3012) rfl (by kernel_rfl) (by kernel_rfl) (by kernel_rfl) (fun _ _ _ h => h) (by rfl) ?hy3012 (by assumption) ?rest3012
              case hy3012 => (intro w hSw; (try dsimp only at hSw); go_simp; try with_reducible rfl)
              try simp only [Act.put, List.setIfInBounds_toArray, List.set_cons_zero, List.set_cons_succ]
              refine wpAnyH_takeL (i := 17) (v := ?v3013) rfl (by kernel_rfl) (by kernel_rfl) (by kernel_rfl) (fun _ _ _ h => h) (by rfl) ?hy3013 (by assumption) ?rest3013
              case hy3013 => (intro w hSw; (try dsimp only at hSw); go_simp; try with_reducible rfl)
              try simp only [Act.put, List.setIfInBounds_toArray, List.set_cons_zero, List.set_cons_succ]
              refine wpAnyH_takeL (i := 18) (v := ?v3014) rfl (by kernel_rfl) (by kernel_rfl) (by kernel_rfl) (fun _ _ _ h => h) (by rfl) ?hy3014 (by assumption) ?rest3014
              case hy3014 => (intro w hSw; (try dsimp only at hSw); go_simp; try with_reducible rfl)
              try simp only [Act.put, List.setIfInBounds_toArray, List.set_cons_zero, List.set_cons_succ]
              refine wpAnyH_takeL (i := 19) (v := ?v3015) rfl (by kernel_rfl) (by kernel_rfl) (by kernel_rfl) (fun _ _ _ h => h) (by rfl) ?hy3015 (by assumption) ?rest3015
              case hy3015 => (intro w hSw; (try dsimp only at hSw); go_simp; try with_reducible rfl)
              try simp only [Act.put, List.setIfInBounds_toArray, List.set_cons_zero, List.set_cons_succ]
              refine wpAnyH_ready (rs := [7]) (by kernel_rfl) (by simp) (consL rfl (fun K hK => ?step3016))
              (go_simp; (refine (place_any LA x.B (uniL S1 S2).length lc x.d (stL (uniL S1 S2) S1 Z1 0) (dgL ZU x.k) W1 (HX1.out.1.sl hUbig) HX1.out.2.2 HX.out.2.2.2.1 (by rw [hp1]; omega)).mono ?_); (rintro e w5 ⟨rfl, hw5⟩); (rw [hw5]); (clear hw5); (rw [hp1]))
              refine hK.out _ _ ?hS3016 (fun hHeld => ?rest3016)
              case hS3016 => (first | assumption | exact z0 | exact z1 | exact z6 | exact z7 | exact z9 | go_keep)
              clear hK K
              try simp only [Act.put, List.setIfInBounds_toArray, List.set_cons_zero, List.set_cons_succ]
              refine wpAnyH_takeL (i := 8) (v := ?v3017) rfl (by kernel_rfl) (by kernel_rfl) (by kernel_rfl) (fun _ _ _ h => h) (by rfl) ?hy3017 (by assumption) ?rest3017
              case hy3017 => (intro w hSw; (try dsimp only at hSw); go_simp; try with_reducible rfl)
              try simp only [Act.put, List.setIfInBounds_toArray, List.set_cons_zero, List.set_cons_succ]
              refine wpAnyH_takeL (i := 9) (v := ?v3018) rfl (by kernel_rfl) (by kernel_rfl) (by kernel_rfl) (fun _ _ _ h => h) (by rfl) ?hy3018 (by assumption) ?rest3018
              case hy3018 => (intro w hSw; (try dsimp only at hSw); go_simp; try with_reducible rfl)
              try simp only [Act.put, List.setIfInBounds_toArray, List.set_cons_zero, List.set_cons_succ]
              refine wpAnyH_ready (rs := [14]) (by kernel_rfl) (by simp) (consL rfl (fun K hK => ?step3019))
              (go_simp; (refine (place_any RA x.B (uniL S1 S2).length rc x.d (stL (uniL S1 S2) S2 Z2 0) (dgL ZU x.k) W1 (HX1.out.2.1.sl hUbig) HX1.out.2.2 HX.out.2.2.2.2 (by rw [hp2]; omega)).mono ?_); (rintro e w5 ⟨rfl, hw5⟩); (rw [hw5]); (clear hw5); (rw [hp2]))
              refine hK.out _ _ ?hS3019 (fun hHeld => ?rest3019)
              case hS3019 => (first | assumption | exact z0 | exact z1 | exact z6 | exact z7 | exact z9 | go_keep)
              clear hK K
              try simp only [Act.put, List.setIfInBounds_toArray, List.set_cons_zero, List.set_cons_succ]
              refine wpAnyH_takeL (i := 15) (v := ?v3020) rfl (by kernel_rfl) (by kernel_rfl) (by kernel_rfl) (fun _ _ _ h => h) (by rfl) ?hy3020 (by assumption) ?rest3020
              case hy3020 => (intro w hSw; (try dsimp only at hSw); go_simp; try with_reducible rfl)
              try simp only [Act.put, List.setIfInBounds_toArray, List.set_cons_zero, List.set_cons_succ]
              refine wpAnyH_takeL (i := 16) (v := ?v3021) rfl (by kernel_rfl) (by kernel_rfl) (by kernel_rfl) (fun _ _ _ h => h) (by rfl) ?hy3021 (by assumption) ?rest3021
              case hy3021 => (intro w hSw; (try dsimp only at hSw); go_simp; try with_reducible rfl)
              try simp only [Act.put, List.setIfInBounds_toArray, List.set_cons_zero, List.set_cons_succ]
              refine wpAnyH_ready (rs := [20]) (by kernel_rfl) (by simp) (consL rfl (fun K hK => ?step3022))
              (go_simp; (refine (mulC_s v1 v2 W1 HMO.out.1).mono ?_); (rintro e w6 ⟨rfl, hb6⟩); (have z6 := Stable.below (P := fun w' => w'.cell? ⟨pp, 2, none⟩ = some (.slice C pre.length k) ∧ w'.cell? ⟨w.heap.size, 0, none⟩ = some (.iface 45 (.agg #[])) ∧ w'.cell? ⟨w.heap.size + 1, 2, none⟩ = some (.slice (some ⟨ba, oa, none⟩) n3 c3) ∧ w'.cell? ⟨w.heap.size + 1 + 1, 2, none⟩ = some (.slice (some ⟨bb, ob, none⟩) m3 d3) ∧ w'.cell? ⟨q1, 0, none⟩ = some (.slice LA (uniL S1 S2).length lc) ∧ w'.cell? ⟨q2, 0, none⟩ = some (.slice RA (uniL S1 S2).length rc) ∧ w'.cell? ⟨ba, oa + i1, none⟩ = some (Value.string v1) ∧ w'.cell? ⟨bb, ob + i2, none⟩ = some (Value.string v2)) hb6 z1))
              refine hK.out _ _ ?hS3022 (fun hHeld => ?rest3022)
              case hS3022 => (first | assumption | exact z0 | exact z1 | exact z6 | exact z7 | exact z9 | go_keep)
              clear hK K
              try simp only [Act.put, List.setIfInBounds_toArray, List.set_cons_zero, List.set_cons_succ]
              refine wpAnyH_ready (rs := [21]) (by kernel_rfl) (by simp) (consL rfl (fun K hK => ?step3023))
              (go_simp; (have hb7 := ((Below.refl _ w6).alloc (Nat.le_refl _) (.cells #[Value.string (mulF_s v1 v2)] 9))); (have z7 := Stable.below (P := fun w' => w'.cell? ⟨pp, 2, none⟩ = some (.slice C pre.length k) ∧ w'.cell? ⟨w.heap.size, 0, none⟩ = some (.iface 45 (.agg #[])) ∧ w'.cell? ⟨w.heap.size + 1, 2, none⟩ = some (.slice (some ⟨ba, oa, none⟩) n3 c3) ∧ w'.cell? ⟨w.heap.size + 1 + 1, 2, none⟩ = some (.slice (some ⟨bb, ob, none⟩) m3 d3) ∧ w'.cell? ⟨q1, 0, none⟩ = some (.slice LA (uniL S1 S2).length lc) ∧ w'.cell? ⟨q2, 0, none⟩ = some (.slice RA (uniL S1 S2).length rc) ∧ w'.cell? ⟨ba, oa + i1, none⟩ = some (Value.string v1) ∧ w'.cell? ⟨bb, ob + i2, none⟩ = some (Value.string v2)) hb7 z6); (have P7 := (HPW.out.below hb6).below hb7); (have hz7 := P7.bel.size); (have s7 := Sl.one (enc := Value.string) w6 9 (mulF_s v1 v2)); (generalize w6.alloc (.cells #[Value.string (mulF_s v1 v2)] 9) = w7 at hb7 z7 P7 hz7 s7 ⊢); (generalize hxs : (pre.map fun x => pcell_s S1 Z1 L1 S2 Z2 L2 x.k) = xs7 at P7); (have HXS := Lib.hid hxs); (clear hxs))
              refine hK.out _ _ ?hS3023 (fun hHeld => ?rest3023)
              case hS3023 => (first | assumption | exact z0 | exact z1 | exact z6 | exact z7 | exact z9 | go_keep)
              clear hK K
              try simp only [Act.put, List.setIfInBounds_toArray, List.set_cons_zero, List.set_cons_succ]
              refine wpAnyH_ready (rs := [22]) (by kernel_rfl) (by simp) (consL rfl (fun K hK => ?step3024))
              (refine step_append_sl _ (Value.string) (fun _ => rfl) (by rfl) (.tmp 78) (.tmp 98) 31 (by rfl) w.heap.size 9 ix (.string ⟨#[]⟩) 16 e1 e2 e3 e4 e5 (by rfl) C pre.length k xs7 (by rfl) P7.cells _ 1 1 [mulF_s v1 v2] (by rfl) s7 hk1 hk2 hz7 ?_; intro C9 k9 w9 ho9 hg9 hb9 hd9; have hG9 := P7.grown hg9; have f9 := hG9.1.frozen 2; have z9 : (fun w' => w'.cell? ⟨pp, 2, none⟩ = some (.slice C pre.length k) ∧ w'.cell? ⟨w.heap.size, 0, none⟩ = some (.iface 45 (.agg #[])) ∧ w'.cell? ⟨w.heap.size + 1, 2, none⟩ = some (.slice (some ⟨ba, oa, none⟩) n3 c3) ∧ w'.cell? ⟨w.heap.size + 1 + 1, 2, none⟩ = some (.slice (some ⟨bb, ob, none⟩) m3 d3) ∧ w'.cell? ⟨q1, 0, none⟩ = some (.slice LA (uniL S1 S2).length lc) ∧ w'.cell? ⟨q2, 0, none⟩ = some (.slice RA (uniL S1 S2).length rc) ∧ w'.cell? ⟨ba, oa + i1, none⟩ = some (Value.string v1) ∧ w'.cell? ⟨bb, ob + i2, none⟩ = some (Value.string v2)) w9 := ⟨hG9.1.cell 2, hG9.2 _ _ _ (by omega) (by omega) z7.2.1, hG9.2 _ _ _ (by omega) (by omega) z7.2.2.1, hG9.2 _ _ _ (by omega) (by omega) z7.2.2.2.1, hG9.2 _ _ _ (by omega) (by omega) z7.2.2.2.2.1, hG9.2 _ _ _ (by omega) (by omega) z7.2.2.2.2.2.1, hG9.2 _ _ _ (by omega) (by omega) z7.2.2.2.2.2.2.1, hG9.2 _ _ _ (by omega) (by omega) z7.2.2.2.2.2.2.2⟩; have y9 := z9.1)
              refine hK.out _ _ ?hS3024 (fun hHeld => ?rest3024)
              case hS3024 => (first | assumption | exact z0 | exact z1 | exact z6 | exact z7 | exact z9 | go_keep)
              clear hK K
              try simp only [Act.put, List.setIfInBounds_toArray, List.set_cons_zero, List.set_cons_succ]
              refine wpAnyH_takeL (i := 23) (v := ?v3025) rfl (by kernel_rfl) (by kernel_rfl) (by kernel_rfl) (fun _ _ _ h => h) (by rfl) ?hy3025 (by assumption) ?rest3025
              case hy3025 => (intro w hSw; (try dsimp only at hSw); go_simp; try with_reducible rfl)
              try simp only [Act.put, List.setIfInBounds_toArray, List.set_cons_zero, List.set_cons_succ]
              refine wpAnyH_done (by kernel_rfl) ?_ _
              unfold AheadOf
              go_simp
              have hbW7 := (hbW.trans (hb6.mono hbW.size)).trans (hb7.mono (Nat.le_trans hbW.size hb6.size))
              obtain ⟨hko, hkr, hP9⟩ := HP.out.app hbW7 ho9 hg9 hd9 (fun g e h => by subst h; exact ho9.row_neT e hG9.1 (by decide))
              clear hG9 z9 z7 z6 z1
              gi_wp2
              refine ⟨hko, hkr _ (by omega), ?_⟩
              try rw [hI]
              try dsimp only
              refine ⟨C9, k9, ?_⟩
              rw [List.length_append, List.length_singleton, List.map_append, List.map_singleton, HMO.out.2, HXS.out]
              exact hP9
            case done =>
              intro D xs Wz hD hS hpre hK
              rw [hI] at hpre
              obtain ⟨C, k, hP⟩ := hpre
              have hxl : xs.length = N := by have := congrArg List.length hS; simpa using this
              have hpr : (xs.map fun x => pcell_s S1 Z1 L1 S2 Z2 L2 x.k) = prod_s S1 Z1 L1 S2 Z2 L2 N := by unfold prod_s; rw [← hS, List.map_map]; rfl
              rw [hxl, hpr] at hP
              have resW := HG.out.2.2.2.1.turn hP.tu (by rintro (h | h) <;> omega)
              have UW := HG.out.2.2.2.2.1.turn hP.tu (fun g e h => by have := hX4 g e; omega)
              have ZW := HG.out.2.2.2.2.2.1.turn hP.tu (fun g e h => by have := hY g e; omega)
              have u0 := hP.box.cell 0
              have u1 := hP.box.cell 1
              have u2 := hP.box.cell 2
              have r0 := resW.cell 0
              have r1 := resW.cell 1
              have r2 := resW.cell 2
              have f0 := resW.frozen 0
              have f1 := resW.frozen 1
              have f2 := resW.frozen 2
              have HZ := Lib.hid (And.intro hP (And.intro resW (And.intro UW ZW)))
              clear hP resW UW ZW hpr hxl hI hIb hIp hRp hI0
              have rP : ∀ u v x, RowC (((Wz.setCell ⟨w.heap.size + 1 + 1 + 1, 0, none⟩ u).setCell ⟨w.heap.size + 1 + 1 + 1, 1, none⟩ v).setCell ⟨w.heap.size + 1 + 1 + 1, 2, none⟩ x) (w.heap.size + 1 + 1 + 1) 33 [u, v, x] := fun u v x => ((HZ.out.2.1.put 0 u).put 1 v).put 2 x
              have hDr : D ≠ w.heap.size + 1 + 1 + 1 := by omega
              have kP : ∀ u v x, (((Wz.setCell ⟨w.heap.size + 1 + 1 + 1, 0, none⟩ u).setCell ⟨w.heap.size + 1 + 1 + 1, 1, none⟩ v).setCell ⟨w.heap.size + 1 + 1 + 1, 2, none⟩ x).heap[D]? = some (.deferred (some [])) :=
                fun u v x => (Below.heap_setCell _ _ _ D hDr).trans ((Below.heap_setCell _ _ _ D hDr).trans ((Below.heap_setCell _ _ _ D hDr).trans hK))
              have hle : w.heap.size ≤ w.heap.size + 1 + 1 + 1 := by omega
              have bP : ∀ u v x, Below w.heap.size w (((Wz.setCell ⟨w.heap.size + 1 + 1 + 1, 0, none⟩ u).setCell ⟨w.heap.size + 1 + 1 + 1, 1, none⟩ v).setCell ⟨w.heap.size + 1 + 1 + 1, 2, none⟩ x) :=
                fun u v x => ((HZ.out.1.bel.setCell (p := ⟨w.heap.size + 1 + 1 + 1, 0, none⟩) hle u).setCell (p := ⟨w.heap.size + 1 + 1 + 1, 1, none⟩) hle v).setCell (p := ⟨w.heap.size + 1 + 1 + 1, 2, none⟩) hle x
              have T0 : Trio (Value.int .i64) (Value.int .i64) (Value.string) Wz w.heap.size 3 3 9 X4 (uniL S1 S2).length y4 (uniL S1 S2) Y (uniL S1 S2).length yc (uniZ S1 Z1 S2 Z2) C N k (prod_s S1 Z1 L1 S2 Z2 L2 N) :=
                ⟨HZ.out.2.2.1, HZ.out.2.2.2, HZ.out.1.cells, hXY, fun g e1 e2 => by have h1 := hX4 g e1; have h2 := HZ.out.1.at' g e2; omega, fun g e1 e2 => by have h1 := hY g e1; have h2 := HZ.out.1.at' g e2; omega⟩
              have hfar : ∀ g, X4 = some ⟨g, 0, none⟩ ∨ Y = some ⟨g, 0, none⟩ ∨ C = some ⟨g, 0, none⟩ → g ≠ w.heap.size + 1 + 1 + 1 := fun g e h => by
                subst h
                rcases e with e | e | e
                · exact T0.o1.row_neT e HZ.out.2.1 (by decide)
                · exact T0.o2.row_neT e HZ.out.2.1 (by decide)
                · exact T0.o3.row_neT e HZ.out.2.1 (by decide)
              have tP := fun u v x => ((T0.setFar (p := ⟨w.heap.size + 1 + 1 + 1, 0, none⟩) hfar u).setFar (p := ⟨w.heap.size + 1 + 1 + 1, 1, none⟩) hfar v).setFar (p := ⟨w.heap.size + 1 + 1 + 1, 2, none⟩) hfar x
              have HE := Lib.hid (And.intro rP (And.intro kP (And.intro bP tP)))
              clear rP kP bP tP T0 hfar
              go_wp2_with fail
              have kF := HE.out.2.1 (.slice X4 (uniL S1 S2).length y4) (.slice Y (uniL S1 S2).length yc) (.slice C N k)
              have bF := HE.out.2.2.1 (.slice X4 (uniL S1 S2).length y4) (.slice Y (uniL S1 S2).length yc) (.slice C N k)
              have tF := HE.out.2.2.2 (.slice X4 (uniL S1 S2).length y4) (.slice Y (uniL S1 S2).length yc) (.slice C N k)
              have rF := HE.out.1 (.slice X4 (uniL S1 S2).length y4) (.slice Y (uniL S1 S2).length yc) (.slice C N k)
              generalize (((Wz.setCell ⟨w.heap.size + 1 + 1 + 1, 0, none⟩ (.slice X4 (uniL S1 S2).length y4)).setCell ⟨w.heap.size + 1 + 1 + 1, 1, none⟩ (.slice Y (uniL S1 S2).length yc)).setCell ⟨w.heap.size + 1 + 1 + 1, 2, none⟩ (.slice C N k)) = wz at kF bF tF rF ⊢
              have rG := rF.turn (Turn.of_grown (grownBy_putObj' wz D (.deferred none))) (fun e => by injection e with e; omega)
              have y0 := rG.cell 0
              have y1 := rG.cell 1
              have y2 := rG.cell 2
              have tG := tF.putT (o' := .deferred none) kF rfl
              have bG : Below w.heap.size w (wz.putObj D (.deferred none)) := bF.trans (belowK_b (w := w) (Nat.le_refl _) wz D _ _ (by omega) kF rfl rfl)
              refine ⟨by simp, .inl ⟨_, _, rfl, run_takeDeferred kF, ?_⟩⟩
              refine ⟨.tuple #[.agg #[.slice X4 (uniL S1 S2).length y4, .slice Y (uniL S1 S2).length yc, .slice C N k], .int .i64 0], ?_, .inr ⟨HCL.out.1, X4, y4, Y, yc, C, k, N, HCL.out.2.1.symm, rfl, tG, bG⟩⟩
              simp [results, Try.results53, go_sem, y0, y1, y2]
    · have hne2 : decide (ck2 = 0) = false := by simpa using hk2
      have X := (((H2.has.1).put 0 (.slice none 0 0)).put 1 (.slice none 0 0)).put 2 (.slice none 0 0)
      have hle : w.heap.size ≤ w.heap.size + 1 + 1 + 1 := by omega
      have BB := ((H2.bel.setCell (p := ⟨w.heap.size + 1 + 1 + 1, 0, none⟩) hle (.slice none 0 0)).setCell (p := ⟨w.heap.size + 1 + 1 + 1, 1, none⟩) hle (.slice none 0 0)).setCell (p := ⟨w.heap.size + 1 + 1 + 1, 2, none⟩) hle (.slice none 0 0)
      have f0 := (H2.has.1).frozen 0
      have f1 := (H2.has.1).frozen 1
      have f2 := (H2.has.1).frozen 2
      have x0 := (H2.has.1).cell 0
      have x1 := (H2.has.1).cell 1
      have x2 := (H2.has.1).cell 2
      have HE := Lib.hid (And.intro X BB)
      clear X BB hle
      go_wp2_with fail
      have y0 := HE.out.1.cell 0
      have y1 := HE.out.1.cell 1
      have y2 := HE.out.1.cell 2
      obtain ⟨wz, hwz⟩ : ∃ wz, wz = (((w2.setCell ⟨w.heap.size + 1 + 1 + 1, 0, none⟩ (.slice none 0 0)).setCell ⟨w.heap.size + 1 + 1 + 1, 1, none⟩ (.slice none 0 0)).setCell ⟨w.heap.size + 1 + 1 + 1, 2, none⟩ (.slice none 0 0)) := ⟨_, rfl⟩
      rw [← hwz] at y0 y1 y2 HE ⊢
      exact ⟨.tuple #[.agg #[.slice none 0 0, .slice none 0 0, .slice none 0 0], .int .i64 ck2], by simp [results, Try.results53, go_sem, y0, y1, y2], .inl ⟨by unfold timesErr; rw [l3, l6, HC1.out, hck2]; simp [hk2], by unfold timesErr; rw [l3, l6, HC1.out, hck2]; simp [hk2], HE.out.2⟩⟩
  · have hne1 : decide (ck1 = 0) = false := by simpa using hk1
    have X := (((H1.has.1).put 0 (.slice none 0 0)).put 1 (.slice none 0 0)).put 2 (.slice none 0 0)
    have hle : w.heap.size ≤ w.heap.size + 1 + 1 + 1 := by omega
    have BB := ((H1.bel.setCell (p := ⟨w.heap.size + 1 + 1 + 1, 0, none⟩) hle (.slice none 0 0)).setCell (p := ⟨w.heap.size + 1 + 1 + 1, 1, none⟩) hle (.slice none 0 0)).setCell (p := ⟨w.heap.size + 1 + 1 + 1, 2, none⟩) hle (.slice none 0 0)
    have f0 := (H1.has.1).frozen 0
    have f1 := (H1.has.1).frozen 1
    have f2 := (H1.has.1).frozen 2
    have x0 := (H1.has.1).cell 0
    have x1 := (H1.has.1).cell 1
    have x2 := (H1.has.1).cell 2
    have HE := Lib.hid (And.intro X BB)
    clear X BB hle
    go_wp2_with fail
    have y0 := HE.out.1.cell 0
    have y1 := HE.out.1.cell 1
    have y2 := HE.out.1.cell 2
    obtain ⟨wz, hwz⟩ : ∃ wz, wz = (((w1.setCell ⟨w.heap.size + 1 + 1 + 1, 0, none⟩ (.slice none 0 0)).setCell ⟨w.heap.size + 1 + 1 + 1, 1, none⟩ (.slice none 0 0)).setCell ⟨w.heap.size + 1 + 1 + 1, 2, none⟩ (.slice none 0 0)) := ⟨_, rfl⟩
    rw [← hwz] at y0 y1 y2 HE ⊢
    exact ⟨.tuple #[.agg #[.slice none 0 0, .slice none 0 0, .slice none 0 0], .int .i64 ck1], by simp [results, Try.results53, go_sem, y0, y1, y2], .inl ⟨by unfold timesErr; rw [l3, hck1]; simp [hk1], by unfold timesErr; rw [l3, hck1]; simp [hk1], HE.out.2⟩⟩
end Go.Proofs.Ytgmchedfgdgenaa
