/- credencelaw13.roomy[int], walked: a table in memory of its own, with room behind its lists. Conditions: the lists read, within Go's bound. -/
import Derived.Test.YtgmchedfgdgenaaJ2
namespace Go.Proofs.Ytgmchedfgdgenaa
open Go.RowKit


set_option maxRecDepth 100000 in
set_option maxHeartbeats 800000 in
theorem roomy_i (A1 A2 A3 : Option Addr) (n1 c1 n2 c2 n3 c3 : Nat) (S Z : List Int) (L : List Int) (mark : Int) (w : World) (h1 : Sl (Value.int .i64) w A1 n1 S) (h2 : Sl (Value.int .i64) w A2 n2 Z) (h3 : Sl (Value.int .i64) w A3 n3 L)
    (b1 : n1 * 8 ≤ 140737488351232) (b2 : n2 * 8 ≤ 140737488351232) (b3 : n3 * 8 ≤ 140737488351232) :
    Calls Try.prog 7 #[.agg #[.slice A1 n1 c1, .slice A2 n2 c2, .slice A3 n3 c3], Value.int .i64 mark] w (RoomyPost (Value.int .i64) 24 3 S Z L mark w) := by
  have q1 : (0 + n1) * 8 ≤ 140737488355328 := by omega
  have q2 : (0 + n2) * 8 ≤ 140737488355328 := by omega
  have q3 : (0 + n3) * 8 ≤ 140737488355328 := by omega
  have HQ := Lib.hid (And.intro q1 (And.intro q2 q3))
  have HL := Lib.hid (And.intro h1.len (And.intro h2.len h3.len))
  clear q1 q2 q3
  have H0 := ((((Held.init w).sl h1).sl h2).sl h3).new 24 [.slice A1 n1 c1, .slice A2 n2 c2, .slice A3 n3 c3]
  have H1 := H0.new 24 [.slice none 0 0, .slice none 0 0, .slice none 0 0]
  rw [show (w.alloc (.cells [.slice A1 n1 c1, .slice A2 n2 c2, .slice A3 n3 c3].toArray 24)).heap.size = w.heap.size + 1 from by simp] at H1
  clear H0 h1 h2 h3
  go_enter Try.func7, Try.ntmps7
  go_upto_region 2 with fail
  generalize hwp : (w.alloc (.cells #[.slice A1 n1 c1, .slice A2 n2 c2, .slice A3 n3 c3] 24)).alloc (.cells #[.slice none 0 0, .slice none 0 0, .slice none 0 0] 24) = w2 at *
  have hg2 : w2.heap.size = w.heap.size + 2 := by rw [← hwp]; simp
  generalize hg : w2.heap.size = g at *
  clear hwp
  have hg3 : w.heap.size + 1 + 1 = g := by omega
  rw [hg3]
  clear hg3
  obtain ⟨p, hp⟩ : ∃ p, p = w.heap.size := ⟨_, rfl⟩
  rw [← hp] at H1 ⊢
  have X0 : Boxed3 (Value.int .i64) w2 (w2.alloc (.cells #[.slice none 0 0, .slice none 0 0, .slice none 0 0] 24)) g 24 3 3 none 0 0 [] none 0 0 [] none 0 0 [] :=
    ⟨(Below.refl _ _).alloc (Nat.le_refl _) _, by rw [← hg]; exact RowC.new _ _ _, Trio.nil _ _ _ _ _ _ _ _, by omega⟩
  generalize w2.alloc (.cells #[.slice none 0 0, .slice none 0 0, .slice none 0 0] 24) = w3 at *
  have HX := Lib.hid X0
  have HS := Lib.hid H1
  have HG := Lib.hid (And.intro hg (And.intro hg2 hp))
  clear hg hg2 hp
  have Hh : ∀ wx : World, Below w2.heap.size w2 wx → (RowC wx p 24 [.slice A1 n1 c1, .slice A2 n2 c2, .slice A3 n3 c3] ∧ RowC wx (p + 1) 24 [.slice none 0 0, .slice none 0 0, .slice none 0 0] ∧ Sl (Value.int .i64) wx A1 n1 S ∧ Sl (Value.int .i64) wx A2 n2 Z ∧ Sl (Value.int .i64) wx A3 n3 L) := fun _ hb => by
    have := (HS.out.step hb).has
    exact ⟨this.2.1, this.1, this.2.2.2.2.1, this.2.2.2.1, this.2.2.1⟩
  have HH := Lib.hid Hh
  clear Hh H1
  have r0 := (HH.out _ X0.bel).1.cell 0
  have g0 := X0.row.cell 0
  have s1 := (HH.out _ X0.bel).2.2.1
  have e1 : g + 1 ≤ w3.heap.size := X0.row.lt
  clear X0
  go_wp2_with (first
    | (at_builtin; refine wpList_app _ eiI (Value.int .i64) (fun _ => rfl) rfl _ _ rfl (g + 1) _ _ _ _ rfl HX.out.tr.o1 _ _ _ _ rfl s1 HQ.out.1 e1 ?_)
    | fail)
  intro A c w4 ho hgr hb hd
  clear s1 e1 r0 g0
  have f0 := (HX.out.row.below (HX.out.low hgr) (Nat.lt_succ_self g)).frozen 0
  have g0 := (HX.out.row.below (HX.out.low hgr) (Nat.lt_succ_self g)).cell 0
  have X0 := HX.out.app1 ho hgr hd
  clear HX ho hgr hb hd
  go_upto_region 3 with fail
  clear f0 g0
  generalize w4.setCell ⟨g, 0, none⟩ (.slice A n1 c) = w5 at *
  have HX := Lib.hid X0
  have r0 := (HH.out _ X0.bel).1.cell 1
  have g0 := X0.row.cell 1
  have s1 := (HH.out _ X0.bel).2.2.2.1
  have e1 : g + 1 ≤ w5.heap.size := X0.row.lt
  clear X0
  go_wp2_with (first
    | (at_builtin; refine wpList_app _ eiI (Value.int .i64) (fun _ => rfl) rfl _ _ rfl (g + 1) _ _ _ _ rfl HX.out.tr.o2 _ _ _ _ rfl s1 HQ.out.2.1 e1 ?_)
    | fail)
  intro B d w6 ho hgr hb hd
  clear s1 e1 r0 g0
  have f0 := (HX.out.row.below (HX.out.low2 hgr) (Nat.lt_succ_self g)).frozen 1
  have g0 := (HX.out.row.below (HX.out.low2 hgr) (Nat.lt_succ_self g)).cell 1
  have X0 := HX.out.app2 ho hgr hd
  clear HX ho hgr hb hd
  go_upto_region 4 with fail
  clear f0 g0
  generalize w6.setCell ⟨g, 1, none⟩ (.slice B n2 d) = w7 at *
  have HX := Lib.hid X0
  have r0 := (HH.out _ X0.bel).1.cell 2
  have g0 := X0.row.cell 2
  have s1 := (HH.out _ X0.bel).2.2.2.2
  have e1 : g + 1 ≤ w7.heap.size := X0.row.lt
  clear X0
  go_wp2_with (first
    | (at_builtin; refine wpList_app _ eiI (Value.int .i64) (fun _ => rfl) rfl _ _ rfl (g + 1) _ _ _ _ rfl HX.out.tr.o3 _ _ _ _ rfl s1 HQ.out.2.2 e1 ?_)
    | fail)
  intro C k w8 ho hgr hb hd
  clear s1 e1 r0 g0
  have f0 := (HX.out.row.below (HX.out.low3 hgr) (Nat.lt_succ_self g)).frozen 2
  have g0 := (HX.out.row.below (HX.out.low3 hgr) (Nat.lt_succ_self g)).cell 2
  have X0 := HX.out.app3 ho hgr hd
  clear HX ho hgr hb hd
  go_upto_region 5 with fail
  clear f0 g0
  generalize w8.setCell ⟨g, 2, none⟩ (.slice C n3 k) = w9 at *
  have HX := Lib.hid X0
  clear X0
  have L0 : Boxed3 (Value.int .i64) w2 w9 g 24 3 3 A (n1 + 0) c (S ++ List.replicate 0 77) B (n2 + 0) d (Z ++ List.replicate 0 78) C (n3 + 0) k (L ++ List.replicate 0 mark) := by
    have := HX.out
    simpa using this
  have HX := Lib.hid L0
  clear L0
  go_wp2_with fail
  go_loopw [6] (fun i wr => ∃ (t : Nat) (A : Option Addr) (c : Nat) (B : Option Addr) (d : Nat) (C : Option Addr) (k : Nat), i = .int .i64 (t : Nat) ∧ t ≤ 4 ∧ Boxed3 (Value.int .i64) w2 wr g 24 3 3 A (n1 + t) c (S ++ List.replicate t 77) B (n2 + t) d (Z ++ List.replicate t 78) C (n3 + t) k (L ++ List.replicate t mark)) (fun i _ => 4 - (intOf i).toNat)
  case atStart => exact ⟨0, A, c, B, d, C, k, rfl, by omega, HX.out⟩
  case round =>
    clear HX
    obtain ⟨t, A, c, B, d, C, k, rfl, ht, X0⟩ := hrel
    obtain ⟨w3, hw3⟩ : ∃ w3 : World, w3 = wr := ⟨_, rfl⟩
    subst hw3
    by_cases hlt : t < 4
    · have HX := Lib.hid X0
      have g0 := X0.row.cell 0
      have hq : (n1 + t + 1) * 8 ≤ 140737488355328 := by omega
      have X1 := X0.alloc (.cells #[.int .i64 77] 3)
      have e1 : g + 1 ≤ (w3.alloc (.cells #[.int .i64 77] 3)).heap.size := X1.row.lt
      have HX := Lib.hid (And.intro X1 hq)
      clear X0 X1 hq
      go_wp2_with (first
        | (at_builtin; refine wpList_app _ eiI (Value.int .i64) (fun _ => rfl) rfl _ _ rfl (g + 1) _ _ _ _ rfl HX.out.1.tr.o1 _ _ _ _ rfl (Sl.one (enc := Value.int .i64) _ _ _) HX.out.2 e1 ?_)
        | fail)
      intro A c w4 ho hgr hb hd
      clear e1 g0
      have f0 := (HX.out.1.row.below (HX.out.1.low hgr) (Nat.lt_succ_self g)).frozen 0
      have g0 := (HX.out.1.row.below (HX.out.1.low hgr) (Nat.lt_succ_self g)).cell 0
      have X0 := HX.out.1.app1 ho hgr (by rw [World.size_alloc]; exact hd)
      clear HX ho hgr hb hd
      go_upto_region 9 with fail
      clear f0 g0
      generalize w4.setCell ⟨g, 0, none⟩ (.slice A (n1 + t + 1) c) = w5 at *
      have g0 := X0.row.cell 1
      have hq : (n2 + t + 1) * 8 ≤ 140737488355328 := by omega
      have X1 := X0.alloc (.cells #[.int .i64 78] 3)
      have e1 : g + 1 ≤ (w5.alloc (.cells #[.int .i64 78] 3)).heap.size := X1.row.lt
      have HX := Lib.hid (And.intro X1 hq)
      clear X0 X1 hq
      go_wp2_with (first
        | (at_builtin; refine wpList_app _ eiI (Value.int .i64) (fun _ => rfl) rfl _ _ rfl (g + 1) _ _ _ _ rfl HX.out.1.tr.o2 _ _ _ _ rfl (Sl.one (enc := Value.int .i64) _ _ _) HX.out.2 e1 ?_)
        | fail)
      intro B d w6 ho hgr hb hd
      clear e1 g0
      have f0 := (HX.out.1.row.below (HX.out.1.low2 hgr) (Nat.lt_succ_self g)).frozen 1
      have g0 := (HX.out.1.row.below (HX.out.1.low2 hgr) (Nat.lt_succ_self g)).cell 1
      have X0 := HX.out.1.app2 ho hgr (by rw [World.size_alloc]; exact hd)
      clear HX ho hgr hb hd
      go_upto_region 10 with fail
      clear f0 g0
      generalize w6.setCell ⟨g, 1, none⟩ (.slice B (n2 + t + 1) d) = w7 at *
      have g0 := X0.row.cell 2
      have hq : (n3 + t + 1) * 8 ≤ 140737488355328 := by omega
      have X1 := X0.alloc (.cells #[Value.int .i64 mark] 3)
      have e1 : g + 1 ≤ (w7.alloc (.cells #[Value.int .i64 mark] 3)).heap.size := X1.row.lt
      have HX := Lib.hid (And.intro X1 hq)
      clear X0 X1 hq
      go_wp2_with (first
        | (at_builtin; refine wpList_app _ eiI (Value.int .i64) (fun _ => rfl) rfl _ _ rfl (g + 1) _ _ _ _ rfl HX.out.1.tr.o3 _ _ _ _ rfl (Sl.one (enc := Value.int .i64) _ _ _) HX.out.2 e1 ?_)
        | fail)
      intro C k w8 ho hgr hb hd
      clear e1 g0
      have f0 := (HX.out.1.row.below (HX.out.1.low3 hgr) (Nat.lt_succ_self g)).frozen 2
      have g0 := (HX.out.1.row.below (HX.out.1.low3 hgr) (Nat.lt_succ_self g)).cell 2
      have X0 := HX.out.1.app3 ho hgr (by rw [World.size_alloc]; exact hd)
      clear HX ho hgr hb hd
      have X1 : Boxed3 (Value.int .i64) w2 (w8.setCell ⟨g, 2, none⟩ (.slice C (n3 + t + 1) k)) g 24 3 3 A (n1 + (t + 1)) c (S ++ List.replicate (t + 1) 77) B (n2 + (t + 1)) d (Z ++ List.replicate (t + 1) 78) C (n3 + (t + 1)) k (L ++ List.replicate (t + 1) mark) := by
        rw [List.replicate_succ', List.replicate_succ', List.replicate_succ']
        simpa [List.append_assoc, Nat.add_assoc] using X0
      have HX := Lib.hid X1
      clear X0 X1
      go_wp2_with fail
      exact ⟨⟨t + 1, A, c, B, d, C, k, by go_num, by omega, HX.out⟩, by simp [intOf]; omega⟩
    · obtain rfl : t = 4 := by omega
      obtain ⟨hS, hZ, hL⟩ := HL.out
      have T0 := X0.tr
      have k1 := T0.o1.cap
      have k2 := T0.o2.cap
      have k3 := T0.o3.cap
      have k1' : n1 ≤ c := by omega
      have k2' : n2 ≤ d := by omega
      have k3' : n3 ≤ k := by omega
      have R0 := X0.row
      have B0 := X0.bel
      have HF := Lib.hid (And.intro T0 (And.intro R0 B0))
      have HC := Lib.hid (And.intro X0.lt (And.intro hS (And.intro hZ hL)))
      clear X0 T0 R0 B0 HL hS hZ hL k1 k2 k3
      have r0 := (HH.out _ HF.out.2.2).1.cell 0
      have g0 := HF.out.2.1.cell 0
      have f0 := HF.out.2.1.frozen 0
      have X := HF.out.2.1.put 0 (.slice A n1 c)
      have TT := HF.out.1.setLow (p := ⟨g, 0, none⟩) (Nat.lt_succ_self g) (.slice A n1 c)
      have BB := HF.out.2.2.setCell (p := ⟨g, 0, none⟩) HC.out.1 (.slice A n1 c)
      have HE := Lib.hid (And.intro TT (And.intro X BB))
      clear X TT BB HF
      go_upto_region 12 with fail
      generalize w3.setCell ⟨g, 0, none⟩ (.slice A n1 c) = w4 at *
      have HF := Lib.hid HE.out
      clear HE r0 g0 f0
      have r0 := (HH.out _ HF.out.2.2).1.cell 1
      have g0 := HF.out.2.1.cell 1
      have f0 := HF.out.2.1.frozen 1
      have X := HF.out.2.1.put 1 (.slice B n2 d)
      have TT := HF.out.1.setLow (p := ⟨g, 1, none⟩) (Nat.lt_succ_self g) (.slice B n2 d)
      have BB := HF.out.2.2.setCell (p := ⟨g, 1, none⟩) HC.out.1 (.slice B n2 d)
      have HE := Lib.hid (And.intro TT (And.intro X BB))
      clear X TT BB HF
      go_upto_region 13 with fail
      generalize w4.setCell ⟨g, 1, none⟩ (.slice B n2 d) = w5 at *
      have HF := Lib.hid HE.out
      clear HE r0 g0 f0
      have r0 := (HH.out _ HF.out.2.2).1.cell 2
      have g0 := HF.out.2.1.cell 2
      have f0 := HF.out.2.1.frozen 2
      have X := HF.out.2.1.put 2 (.slice C n3 k)
      have TT := HF.out.1.setLow (p := ⟨g, 2, none⟩) (Nat.lt_succ_self g) (.slice C n3 k)
      have BB := HF.out.2.2.setCell (p := ⟨g, 2, none⟩) HC.out.1 (.slice C n3 k)
      have HE := Lib.hid (And.intro TT (And.intro X BB))
      clear X TT BB HF
      go_upto_region 14 with fail
      generalize w5.setCell ⟨g, 2, none⟩ (.slice C n3 k) = w6 at *
      have HF := Lib.hid HE.out
      clear HE r0 g0 f0
      have c0 := (HH.out _ HF.out.2.2).2.1.cell 0
      have c1 := (HH.out _ HF.out.2.2).2.1.cell 1
      have c2 := (HH.out _ HF.out.2.2).2.1.cell 2
      have f0 := (HH.out _ HF.out.2.2).2.1.frozen 0
      have f1 := (HH.out _ HF.out.2.2).2.1.frozen 1
      have f2 := (HH.out _ HF.out.2.2).2.1.frozen 2
      have g0 := HF.out.2.1.cell 0
      have g1 := HF.out.2.1.cell 1
      have g2 := HF.out.2.1.cell 2
      have hps : p + 1 < g := by have := HG.out; omega
      have hne : g ≠ p + 1 := by omega
      have hne2 : p + 1 ≠ g := by omega
      have X := ((((HH.out _ HF.out.2.2).2.1.put 0 (.slice A n1 c)).put 1 (.slice B n2 d)).put 2 (.slice C n3 k))
      have TT := ((HF.out.1.setLow (p := ⟨p + 1, 0, none⟩) (by simp; omega) (.slice A n1 c)).setLow (p := ⟨p + 1, 1, none⟩) (by simp; omega) (.slice B n2 d)).setLow (p := ⟨p + 1, 2, none⟩) (by simp; omega) (.slice C n3 k)
      have hbw : Below w.heap.size w w6 := (HS.out.bel).trans (HF.out.2.2.mono (by have := HG.out; omega))
      have hle : w.heap.size ≤ p + 1 := by have := HG.out; omega
      have BB := ((hbw.setCell (p := ⟨p + 1, 0, none⟩) hle (.slice A n1 c)).setCell (p := ⟨p + 1, 1, none⟩) hle (.slice B n2 d)).setCell (p := ⟨p + 1, 2, none⟩) hle (.slice C n3 k)
      have HE := Lib.hid (And.intro X (And.intro TT BB))
      clear X TT BB hbw hle
      go_wp2_with fail
      have y0 := HE.out.1.cell 0
      have y1 := HE.out.1.cell 1
      have y2 := HE.out.1.cell 2
      generalize ((w6.setCell ⟨p + 1, 0, none⟩ (.slice A n1 c)).setCell ⟨p + 1, 1, none⟩ (.slice B n2 d)).setCell ⟨p + 1, 2, none⟩ (.slice C n3 k) = wz at *
      refine bodyPost_ret (v := .agg #[.slice A n1 c, .slice B n2 d, .slice C n3 k]) (by simp [results, Try.results7, go_sem, y0, y1, y2]) rfl ⟨A, c, B, d, C, k, ?_, ?_, HE.out.2.2⟩
      · obtain ⟨_, hS, hZ, hL⟩ := HC.out
        rw [hS, hZ, hL]
      · obtain ⟨_, hS, hZ, hL⟩ := HC.out
        rw [hS, hZ, hL]
        exact HE.out.2.1.mono (by have := HG.out; omega)
end Go.Proofs.Ytgmchedfgdgenaa
