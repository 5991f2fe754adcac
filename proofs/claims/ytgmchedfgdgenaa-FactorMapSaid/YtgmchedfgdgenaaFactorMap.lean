/- credencelaw13.FactorMap, walked: it returns true and changes nothing that was there. Conditions: the lists read, within Go's bound. -/
import Derived.Test.YtgmchedfgdgenaaMapS
import Derived.Test.YtgmchedfgdgenaaMapNil
import Derived.Test.YtgmchedfgdgenaaKeptI13
import Derived.Test.YtgmchedfgdgenaaSpoil13S
namespace Go.Proofs.Ytgmchedfgdgenaa.FactorMap
open Go.RowKit

theorem ints_b (A A' : Option Addr) (n c n' c' : Nat) (xs ys : List Int) (w : World) (hx : Sl (Value.int .i64) w A n xs) (hy : Sl (Value.int .i64) w A' n' ys) (h : xs = ys) :
    Calls Try.prog 16 #[.slice A n c, .slice A' n' c'] w fun e w' => e = .returned (.bool true) ∧ Below w.heap.size w w' :=
  (rints_any A A' n c n' c' xs ys w hx hy).mono fun _ _ ⟨h1, k, h2⟩ => ⟨by rw [h1, decide_eq_true h], by rw [h2]; exact below_refl_drewN _ _ _⟩
theorem is_b (A1 A2 A3 B1 B2 C : Option Addr) (n1 c1 n2 c2 n3 c3 m1 d1 m2 d2 m3 d3 : Nat) (k : Int) (S Z : List Int) (xs : List ByteArray) (w : World)
    (h1 : Sl (Value.int .i64) w A1 n1 S) (h2 : Sl (Value.int .i64) w A2 n2 Z) (h3 : Sl Value.string w A3 n3 xs) (k1 : Sl (Value.int .i64) w B1 m1 S) (k2 : Sl (Value.int .i64) w B2 m2 Z) (k3 : Sl Value.string w C m3 xs) :
    Calls Try.prog 17 #[.iface 45 (.agg #[]), .agg #[.slice A1 n1 c1, .slice A2 n2 c2, .slice A3 n3 c3], .agg #[.slice B1 m1 d1, .slice B2 m2 d2, .int .i64 k], .slice C m3 d3] w fun e w' => e = .returned (.bool true) ∧ Below w.heap.size w w' :=
  (is_s A1 A2 A3 B1 B2 C n1 c1 n2 c2 n3 c3 m1 d1 m2 d2 m3 d3 k S Z S Z xs xs w h1 h2 h3 k1 k2 k3).mono fun _ _ h => ⟨by rw [h.1]; simp, h.2⟩
set_option maxRecDepth 100000 in
set_option maxHeartbeats 1600000 in
theorem law (A1 : Option Addr) (n1 c1 : Nat) (S : List Int) (A2 : Option Addr) (n2 c2 : Nat) (Z : List Int) (A3 : Option Addr) (n3 c3 : Nat) (L : List Int) (x : Int) (w : World) (h1 : Sl (Value.int .i64) w A1 n1 S) (h2 : Sl (Value.int .i64) w A2 n2 Z) (h3 : Sl (Value.int .i64) w A3 n3 L)
    (b1 : n1 * 8 ≤ 140737488351232) (b2 : n2 * 8 ≤ 140737488351232) (b3 : n3 * 8 ≤ 140737488351232) :
    Calls Try.prog 3 #[.agg #[.slice A1 n1 c1, .slice A2 n2 c2, .slice A3 n3 c3], .int .i64 x] w fun e w' => e = .returned (.bool true) ∧ Below w.heap.size w w' := by
  have HL := Lib.hid (And.intro h1.len (And.intro h2.len h3.len))
  have HA := Lib.hid (And.intro h1 (And.intro h2 h3))
  have H0 := ((((Held.init w).sl h1).sl h2).sl h3).new 24 [.slice A1 n1 c1, .slice A2 n2 c2, .slice A3 n3 c3]
  clear h1 h2 h3
  have r0 := H0.has.1.cell 0
  have r1 := H0.has.1.cell 1
  have r2 := H0.has.1.cell 2
  go_enter Try.func3, Try.ntmps3
  go_wp2_with fail
  refine (roomy_i A1 A2 A3 n1 c1 n2 c2 n3 c3 S Z L 99 _ H0.has.2.2.2.1 H0.has.2.2.1 H0.has.2.1 b1 b2 b3).mono ?_
  rintro e w1 ⟨M1, k1, M2, k2, M3, k3, rfl, T1, hb1⟩
  obtain ⟨hl1, hl2, hl3⟩ := HL.out
  rw [hl1, hl2, hl3] at T1 ⊢
  have H1 := ((H0.step hb1).and (Q := fun w' => Trio (Value.int .i64) (Value.int .i64) (Value.int .i64) w' _ 3 3 3 M1 (n1 + 4) k1 (S ++ List.replicate 4 77) M2 (n2 + 4) k2 (Z ++ List.replicate 4 78) M3 (n3 + 4) k3 (L ++ List.replicate 4 99)) T1).new 24 [.slice M1 n1 k1, .slice M2 n2 k2, .slice M3 n3 k3]
  clear H0 hb1 T1 r0 r1 r2 hl1 hl2 hl3
  have r0 := H1.has.2.2.1.cell 0
  have r1 := H1.has.2.2.1.cell 1
  have r2 := H1.has.2.2.1.cell 2
  go_wp2_with fail
  refine (shape_any A1 A2 A3 n1 c1 n2 c2 n3 c3 _).mono ?_
  rintro e w2 ⟨rfl, hb2⟩
  have H2 := H1.step hb2
  clear H1 hb2 r0 r1 r2
  go_wp2_with fail
  refine (rcheck_any A1 A2 n1 c1 n2 c2 n3 S Z _ H2.has.2.2.2.2.2.1 H2.has.2.2.2.2.1).mono ?_
  rintro e w3 ⟨rfl, hb3⟩
  have H3 := H2.step hb3
  clear H2 hb3
  have HM := Lib.hid (show ∀ g, M1 = some ⟨g, 0, none⟩ ∨ M2 = some ⟨g, 0, none⟩ ∨ M3 = some ⟨g, 0, none⟩ → g < w3.heap.size from fun g h => by
    rcases h with h | h | h
    · exact (H3.has.2.1.o1.ge h).2
    · exact (H3.has.2.1.o2.ge h).2
    · exact (H3.has.2.1.o3.ge h).2)
  have m0 := (H3.alloc (.cells #[.slice none 0 0] 22)).has.1.cell 0
  have m1 := (H3.alloc (.cells #[.slice none 0 0] 22)).has.1.cell 1
  have m2 := (H3.alloc (.cells #[.slice none 0 0] 22)).has.1.cell 2
  have hnil := RowC.new w3 22 [.slice none 0 0]
  have H4 := (H3.alloc (.cells #[.slice none 0 0] 22))
  go_wp2_with fail
  obtain ⟨hl1, hl2, hl3⟩ := HL.out
  have s1 := OwnR.pre H4.has.2.1.o1 hl1 (by omega)
  have s2 := OwnR.pre H4.has.2.1.o2 hl2 (by omega)
  have s3 := OwnR.pre H4.has.2.1.o3 hl3 (by omega)
  refine (map_s w3.heap.size M1 M2 M3 n1 k1 n2 k2 n3 k3 S Z L _ s1 s2 s3 b1 b2 hnil).mono ?_
  clear s1 s2 s3
  intro e w5 hpost
  unfold MapPost at hpost
  rw [hl1, hl2, hl3] at hpost
  clear hl1 hl2 hl3 m0 m1 m2
  generalize hck : checkC S Z n3 = ck at *
  have HCK := Lib.hid hck
  clear hck
  rcases hpost with ⟨hne, rfl, hb5⟩ | ⟨rfl, B1, d1, B2, d2, B3, d3, V, v, rfl, TB, hseen, htu⟩
  · have H5 := (H4.step hb5).row (hnil.below' hb5)
    clear H4 H3 hnil hb5
    have m0 := (H5.alloc (.cells #[.slice none 0 0, .slice none 0 0, .slice none 0 0] 33)).has.2.1.cell 0
    have m1 := (H5.alloc (.cells #[.slice none 0 0, .slice none 0 0, .slice none 0 0] 33)).has.2.1.cell 1
    have m2 := (H5.alloc (.cells #[.slice none 0 0, .slice none 0 0, .slice none 0 0] 33)).has.2.1.cell 2
    have H6 := H5.new 33 [.slice none 0 0, .slice none 0 0, .slice none 0 0]
    clear H5
    go_wp2_with fail
    refine (map_nil M1 M2 M3 n1 k1 n2 k2 n3 k3 _).mono ?_
    rintro e w6 ⟨rfl, hb6⟩
    have H7 := (H6.step hb6).alloc (.cells #[.slice none 0 0, .slice none 0 0, .slice none 0 0] 24)
    clear H6 hb6 m0 m1 m2
    have m0 := H7.has.2.2.1.cell 0
    have m1 := H7.has.2.2.1.cell 1
    have m2 := H7.has.2.2.1.cell 2
    have r0 := H7.has.2.2.2.2.1.cell 0
    have r1 := H7.has.2.2.2.2.1.cell 1
    have r2 := H7.has.2.2.2.2.1.cell 2
    have hbe : (ck != 0) = true := by simpa using hne
    go_wp2_with fail
    refine (kept_i _ M1 M2 M3 A1 A2 A3 n1 k1 k2 k3 c1 n2 c2 n3 c3 S Z L 99 _ H7.has.2.2.2.1 H7.has.2.2.2.2.2.2.2.1 H7.has.2.2.2.2.2.2.1 H7.has.2.2.2.2.2.1 (by omega) (by omega) (by omega)).mono ?_
    rintro e w7 ⟨rfl, hb7⟩
    have H8 := H7.step hb7
    clear H7 hb7 m0 m1 m2 r0 r1 r2
    have t0 := H8.has.1.cell 0
    have t1 := H8.has.1.cell 1
    have t2 := H8.has.1.cell 2
    have t3 := H8.has.2.1.cell 0
    have HF := Lib.hid H8.bel
    clear H8
    go_wp2_with fail
    go_ret
    exact ⟨rfl, HF.out⟩
  · have hz := checkC_zero HCK.out
    have hn31 := hz.1
    have HN12 := Lib.hid (show n1 = n2 by have := hz.2; have := HL.out; omega)
    have hb35 : Below w3.heap.size w3 w5 := (((Turn.refl w3 (fun x => x = w3.heap.size)).alloc _).trans htu (fun _ _ h => h)).below (Nat.le_refl _) (fun y h1 h2 => by omega)
    have H5 := ((((H3.step hb35).row hseen.row).own hseen.own).and (Q := fun w' => Trio (Value.int .i64) (Value.int .i64) Value.string w' _ 3 3 9 B1 n1 d1 S B2 n2 d2 Z B3 n3 d3 (digL n3)) TB)
    have HT := Lib.hid (show ∀ g, B1 = some ⟨g, 0, none⟩ ∨ B2 = some ⟨g, 0, none⟩ ∨ B3 = some ⟨g, 0, none⟩ → w3.heap.size < g from fun g h => by
      have hq : w3.heap.size + 1 = (w3.alloc (.cells #[.slice none 0 0] 22)).heap.size := by simp
      rcases h with h | h | h
      · have := (TB.o1.ge h).1; omega
      · have := (TB.o2.ge h).1; omega
      · have := (TB.o3.ge h).1; omega)
    have H3w := Lib.hid H3.bel.size
    have H35 := Lib.hid hseen.hb
    clear H4 H3 hnil hb35 hseen htu TB hz
    have H6 := H5.new 33 [.slice B1 n1 d1, .slice B2 n2 d2, .slice B3 n3 d3]
    have m0 := H6.has.2.2.2.2.1.cell 0
    have m1 := H6.has.2.2.2.2.1.cell 1
    have m2 := H6.has.2.2.2.2.1.cell 2
    clear H5
    go_wp2_with fail
    refine (map_nil M1 M2 M3 n1 k1 n2 k2 n3 k3 _).mono ?_
    rintro e w6 ⟨rfl, hb6⟩
    have H7 := (H6.step hb6).alloc (.cells #[.slice none 0 0, .slice none 0 0, .slice none 0 0] 24)
    clear H6 hb6 m0 m1 m2
    have m0 := H7.has.2.2.2.2.1.cell 0
    have m1 := H7.has.2.2.2.2.1.cell 1
    have m2 := H7.has.2.2.2.2.1.cell 2
    have r0 := H7.has.2.2.2.2.2.2.1.cell 0
    have r1 := H7.has.2.2.2.2.2.2.1.cell 1
    have r2 := H7.has.2.2.2.2.2.2.1.cell 2
    go_wp2_with fail
    refine (kept_i _ M1 M2 M3 A1 A2 A3 n1 k1 k2 k3 c1 n2 c2 n3 c3 S Z L 99 _ H7.has.2.2.2.2.2.1 H7.has.2.2.2.2.2.2.2.2.2.1 H7.has.2.2.2.2.2.2.2.2.1 H7.has.2.2.2.2.2.2.2.1 (by omega) (by omega) (by omega)).mono ?_
    rintro e w7 ⟨rfl, hb7⟩
    have H8 := H7.step hb7
    clear H7 hb7 m0 m1 m2 r0 r1 r2
    go_wp2_with fail
    have HB := Lib.hid H8
    go_loopw [12, 13] (fun v i wr => ∃ (t : Nat) (C : Option Addr) (k : Nat), v = .slice C t k ∧ i = .int .i64 (t : Nat) ∧ t ≤ n3 ∧ OwnR Value.string wr w7.heap.size 9 C t k (digL t) ∧ Below w7.heap.size w7 wr) (fun _ i _ => n3 - (intOf i).toNat)
    case atStart => exact ⟨0, none, 0, rfl, rfl, Nat.zero_le _, OwnR.nil _ _ _ _, Below.refl _ _⟩
    case round =>
      clear H8
      obtain ⟨t, C, k, rfl, rfl, ht, ho, hb⟩ := hrel
      obtain ⟨wb, hwb⟩ : ∃ wb : World, wb = wr := ⟨_, rfl⟩
      subst hwb
      have H8 := HB.out.step hb
      have r2 := H8.has.2.2.2.2.2.2.1.cell 2
      by_cases hlt : t < n3
      · have hw : IntKind.i64.wrap ((t : Int) + 1) = ((t + 1 : Nat) : Int) := by simp [IntKind.wrap, IntKind.bits, IntKind.signed]; omega
        have HO := Lib.hid (And.intro ho hb)
        clear H8 ho hb
        go_wp2_with fail
        clear hw
        have hd := fun u => digits_any (t + 2) (t + 1) (by omega) (by omega) u
        rw [show (((t + 1 : Nat)) : Int) = (t : Int) + 1 from by omega] at hd
        refine (hd _).mono ?_
        clear hd
        rintro e w8 ⟨rfl, hb8⟩
        have ho1 := (HO.out.1.below (Nat.le_refl _) hb8).alloc (.cells #[.string (digT (t + 1))] 9)
        have hbb := HO.out.2.trans (hb8.mono HO.out.2.size)
        have hba := hbb.alloc hbb.size (.cells #[.string (digT (t + 1))] 9)
        have hsz := hba.size
        have hq : (t + 1) * 16 ≤ 140737488355328 := by omega
        have HA := Lib.hid (And.intro hba hb8)
        clear hbb hba hb8 r2 HO
        go_wp2_with (first
          | (at_builtin; refine wpList_app _ eiSt Value.string (fun _ => rfl) rfl _ _ rfl w7.heap.size _ _ _ _ rfl ho1 _ _ _ _ rfl (Sl.one (enc := Value.string) _ _ _) hq hsz ?_)
          | fail)
        intro C9 k9 w9 ho9 _ hb9 _
        have ho9 := ho9.cast (digL_succ t).symm
        have HR := Lib.hid (And.intro ho9 (HA.out.1.trans hb9))
        clear ho9 hb9 ho1 HA hsz hq
        go_wp2_with fail
        exact ⟨⟨t + 1, C9, k9, rfl, by go_num, by omega, HR.out.1, HR.out.2⟩, by simp [intOf]; omega⟩
      · obtain rfl : n3 = t := by omega
        have H9 := H8.own ho
        have HY := Lib.hid H9
        clear H8 ho hb
        go_wp2_with fail
        clear r2 hlt ht
        refine (one_any x _).mono ?_
        rintro e wo ⟨O, ko, rfl, hoo, hbo⟩
        have HO := Lib.hid (And.intro hoo hbo)
        clear hoo hbo
        go_wp2_with fail
        refine (one_any x _).mono ?_
        rintro e wt ⟨T, kt, rfl, htt, hbt⟩
        rw [World.size_alloc] at htt
        have hozt := hbt.size
        rw [World.size_alloc] at hozt
        have hbw : Below wb.heap.size wb (wt.alloc (.cells #[.slice none 0 0, .slice none 0 0, .slice T 1 kt] 24)) := by
          have h1 := HO.out.2.alloc HO.out.2.size (.cells #[.slice none 0 0, .slice none 0 0, .slice O 1 ko] 24)
          have h2 := h1.trans (hbt.mono h1.size)
          exact h2.alloc h2.size _
        have ho1 : OwnR (Value.int .i64) (wt.alloc (.cells #[.slice none 0 0, .slice none 0 0, .slice T 1 kt] 24)) wb.heap.size 3 O 1 ko [x] := ((HO.out.1.alloc _).below (Nat.le_refl _) hbt).alloc _
        have ro1 : RowC (wt.alloc (.cells #[.slice none 0 0, .slice none 0 0, .slice T 1 kt] 24)) wo.heap.size 24 [.slice none 0 0, .slice none 0 0, .slice O 1 ko] := ((RowC.new wo 24 [.slice none 0 0, .slice none 0 0, .slice O 1 ko]).below' hbt).alloc _
        have ht1 : OwnR (Value.int .i64) (wt.alloc (.cells #[.slice none 0 0, .slice none 0 0, .slice T 1 kt] 24)) (wo.heap.size + 1) 3 T 1 kt [x] := htt.alloc _
        have rt1 := RowC.new wt 24 [.slice none 0 0, .slice none 0 0, .slice T 1 kt]
        have hOlt : ∀ g, O = some ⟨g, 0, none⟩ → wb.heap.size ≤ g ∧ g < wo.heap.size := fun g e1 => HO.out.1.ge e1
        have hwo := HO.out.2.size
        clear htt hbt
        have y2 := ro1.cell 2
        have z2 := rt1.cell 2
        have hq2 : (1 + 1) * 8 ≤ 140737488355328 := by omega
        have hko := ho1.cap
        obtain ⟨og, orest, hOe, _, _, _⟩ := ho1.row (by omega)
        subst hOe
        have ho2 := ho1.alloc (.cells #[.int .i64 5] 3)
        have hbase : wb.heap.size ≤ ((wt.alloc (.cells #[.slice none 0 0, .slice none 0 0, .slice T 1 kt] 24)).alloc (.cells #[.int .i64 5] 3)).heap.size := by have := hbw.size; simp at *; omega
        have HS := Lib.hid (And.intro hbw (And.intro ho1 (And.intro ro1 (And.intro ht1 (And.intro rt1 hOlt)))))
        clear hbw ho1 ro1 ht1 rt1 hOlt
        have hlit := Sl.one (enc := Value.int .i64) (wt.alloc (.cells #[.slice none 0 0, .slice none 0 0, .slice T 1 kt] 24)) 3 (5 : Int)
        rw [World.size_alloc] at hlit
        go_wp2_with (first
          | (at_builtin; refine wpList_app _ eiI (Value.int .i64) (fun _ => rfl) rfl _ _ rfl wb.heap.size _ _ _ _ rfl ho2 _ _ _ _ rfl hlit hq2 hbase ?_)
          | fail)
        intro O9 k9 w9 ho9 hg9 hb9 hd9
        obtain ⟨og9, orest9, hO9, hog9, hr9, _⟩ := ho9.row (by omega)
        subst hO9
        clear hlit ho2 hbase y2 z2
        have hS := HS.out
        have hne1 : wo.heap.size ≠ og := by have := hS.2.2.2.2.2 og rfl; omega
        have hd10 : og9 = og ∨ og9 = wt.heap.size + 1 + 1 := by
          rcases hd9 with h1 | h1
          · have h2 : some og9 = some og := h1
            injection h2 with h2; exact .inl h2
          · have h2 : some og9 = some (wt.heap.size + 1 + 1) := h1
            injection h2 with h2; exact .inr h2
        have hne2 : wo.heap.size ≠ og9 := by omega
        have ro9 : RowC w9 wo.heap.size 24 [.slice none 0 0, .slice none 0 0, .slice (some ⟨og, 0, none⟩) 1 ko] := (hS.2.2.1.alloc _).grown hg9 (fun e1 => hne1 (by injection e1))
        have f2 := ro9.frozen 2
        have y2 := ro9.cell 2
        have ro10 := ro9.put 2 (.slice (some ⟨og9, 0, none⟩) 2 k9)
        have hr10 := hr9.far (p := ⟨wo.heap.size, 2, none⟩) (by simpa using (Ne.symm hne2)) (.slice (some ⟨og9, 0, none⟩) 2 k9)
        have tu : Turn (wt.alloc (.cells #[.slice none 0 0, .slice none 0 0, .slice T 1 kt] 24)) ((w9.setCell ⟨wo.heap.size, 2, none⟩ (.slice (some ⟨og9, 0, none⟩) 2 k9)).setCell ⟨og9, 0, none⟩ (.int .i64 (wrap64 (x + 1)))) (fun y => y = wo.heap.size ∨ y = og) := by
          have t1 := ((Turn.refl (wt.alloc (.cells #[.slice none 0 0, .slice none 0 0, .slice T 1 kt] 24)) (fun y => y = wo.heap.size ∨ y = og)).alloc (.cells #[.int .i64 5] 3)).trans (Turn.of_grown hg9) (fun y _ e1 => .inr (by have e2 : some og = some y := e1; injection e2 with e2; exact e2.symm))
          exact (t1.setCell ⟨wo.heap.size, 2, none⟩ (fun _ => .inl rfl) _).setCell ⟨og9, 0, none⟩ (fun h => by
            rcases hd10 with h1 | h1
            · exact .inr h1
            · have h2 : og9 < wt.heap.size + 1 := by simpa using h
              omega) _
        have hbf := hS.1.trans (tu.below (B := wb.heap.size) (by simp; omega) (fun y hy h => by have := hS.2.2.2.2.2 og rfl; omega))
        have H10 := HY.out.step hbf
        have rt10 := hS.2.2.2.2.1.turn tu (by have := hS.2.2.2.2.2 og rfl; omega)
        have ht10 := hS.2.2.2.1.turn tu (fun g e1 h => by
          have h3 := hS.2.2.2.1.ge e1
          rcases h with h | h
          · omega
          · have := hS.2.2.2.2.2 og rfl; omega)
        have H11 := (H10.row rt10).own ht10
        have HZ := Lib.hid H11
        clear H10 H11 rt10 ht10 hbf tu hS hd9 hd10 hg9 hb9 ho9 hr9
        clear HS HO HY
        go_upto_region 20 with fail
        clear f2 y2
        have y2 := ro10.cell 2
        have hc9 := hr10.cell (j := 0) (by simp)
        have hf9 := hr10.frozen 0
        clear ro9 ro10 hr10
        generalize w9.setCell ⟨wo.heap.size, 2, none⟩ (.slice (some ⟨og9, 0, none⟩) 2 k9) = w10 at *
        go_upto_region 21 with fail
        clear y2 hc9 hf9
        generalize w10.setCell ⟨og9, 0, none⟩ (.int .i64 (wrap64 (x + 1))) = w11 at *
        have hk : ∀ wx : World, Below w11.heap.size w11 wx → wx.cell? ⟨w3.heap.size, 0, none⟩ = some (.slice V n3 v) ∧ wx.cell? ⟨w.heap.size, 0, none⟩ = some (.slice A1 n1 c1) ∧ wx.cell? ⟨w.heap.size, 1, none⟩ = some (.slice A2 n2 c2) ∧ wx.cell? ⟨w.heap.size, 2, none⟩ = some (.slice A3 n3 c3) ∧ wx.cell? ⟨w5.heap.size, 0, none⟩ = some (.slice B1 n1 d1) ∧ wx.cell? ⟨w5.heap.size, 1, none⟩ = some (.slice B2 n2 d2) ∧ wx.cell? ⟨w5.heap.size, 2, none⟩ = some (.slice B3 n3 d3) ∧ wx.cell? ⟨wt.heap.size, 0, none⟩ = some (.slice none 0 0) ∧ wx.cell? ⟨wt.heap.size, 1, none⟩ = some (.slice none 0 0) ∧ wx.cell? ⟨wt.heap.size, 2, none⟩ = some (.slice T 1 kt) := fun wx hb => by
          have H := HZ.out.step hb
          exact ⟨H.has.2.2.2.2.2.2.1.cell 0, H.has.2.2.2.2.2.2.2.2.2.1.cell 0, H.has.2.2.2.2.2.2.2.2.2.1.cell 1, H.has.2.2.2.2.2.2.2.2.2.1.cell 2, H.has.2.2.2.1.cell 0, H.has.2.2.2.1.cell 1, H.has.2.2.2.1.cell 2, H.has.2.1.cell 0, H.has.2.1.cell 1, H.has.2.1.cell 2⟩
        have HK := Lib.hid hk
        obtain ⟨v0, v1, v2, v3, v4, v5, v6, v7, v8, v9⟩ := hk _ (Below.refl _ _)
        clear hk
        have HD : Below w11.heap.size w11 w11.drew := below_refl_drewN _ _ 1
        have G0 := HZ.out.drew
        obtain ⟨hl1, hl2, hl3⟩ := HL.out
        go_region_held3 (fun w' => w'.cell? ⟨w3.heap.size, 0, none⟩ = some (.slice V n3 v) ∧ w'.cell? ⟨w.heap.size, 0, none⟩ = some (.slice A1 n1 c1) ∧ w'.cell? ⟨w.heap.size, 1, none⟩ = some (.slice A2 n2 c2) ∧ w'.cell? ⟨w.heap.size, 2, none⟩ = some (.slice A3 n3 c3) ∧ w'.cell? ⟨w5.heap.size, 0, none⟩ = some (.slice B1 n1 d1) ∧ w'.cell? ⟨w5.heap.size, 1, none⟩ = some (.slice B2 n2 d2) ∧ w'.cell? ⟨w5.heap.size, 2, none⟩ = some (.slice B3 n3 d3) ∧ w'.cell? ⟨wt.heap.size, 0, none⟩ = some (.slice none 0 0) ∧ w'.cell? ⟨wt.heap.size, 1, none⟩ = some (.slice none 0 0) ∧ w'.cell? ⟨wt.heap.size, 2, none⟩ = some (.slice T 1 kt)) (first | assumption | exact ⟨v0, v1, v2, v3, v4, v5, v6, v7, v8, v9⟩ | go_keep)
          (first
            | ((go_at_call 16); (with_reducible refine (ints_b V A3 n3 v n3 c3 L L _ (G0.has.2.2.2.2.2.1.sl (by omega)) G0.has.2.2.2.2.2.2.2.2.2.2.1 rfl).mono ?_); (rintro e u1 ⟨rfl, hb1⟩); (have G1 := G0.step hb1); (obtain ⟨v0, v1, v2, v3, v4, v5, v6, v7, v8, v9⟩ := HK.out _ (HD.trans (hb1.mono HD.size)));(have HD := HD.trans (hb1.mono HD.size)))
            | ((go_at_call 9); (with_reducible refine (shape_any A1 A2 A3 n1 c1 n2 c2 n3 c3 _).mono ?_); (rintro e u2 ⟨rfl, hb2⟩); (have G2 := G1.step hb2); (obtain ⟨v0, v1, v2, v3, v4, v5, v6, v7, v8, v9⟩ := HK.out _ (HD.trans (hb2.mono HD.size)));(have HD := HD.trans (hb2.mono HD.size)))
            | ((go_at_call 17); (with_reducible refine (is_b B1 B2 B3 A1 A2 C n1 d1 n2 d2 n3 d3 n1 c1 n2 c2 n3 k n3 S Z (digL n3) _ (G2.has.2.2.2.2.1.o1.sl (by omega)) (G2.has.2.2.2.2.1.o2.sl (by omega)) (G2.has.2.2.2.2.1.o3.sl (by omega)) G2.has.2.2.2.2.2.2.2.2.2.2.2.2.1 G2.has.2.2.2.2.2.2.2.2.2.2.2.1 (G2.has.2.2.1.sl (by omega))).mono ?_); (rintro e u3 ⟨rfl, hb3⟩); (have G3 := G2.step hb3); (obtain ⟨v0, v1, v2, v3, v4, v5, v6, v7, v8, v9⟩ := HK.out _ (HD.trans (hb3.mono HD.size)));(have HD := HD.trans (hb3.mono HD.size)); (have G3 := G3.alloc (.cells #[.int .i64 x] 3)); (have hlit := Sl.one (enc := Value.int .i64) u3 3 x); (have HD := HD.alloc (by have := HD.size; omega) (.cells #[.int .i64 x] 3)))
            | ((go_at_call 16); (with_reducible refine (ints_b T _ 1 kt 1 1 [x] [x] _ (G3.has.1.sl (by omega)) hlit rfl).mono ?_); (rintro e u4 ⟨rfl, hb4⟩); (have G4 := G3.step hb4); (obtain ⟨v0, v1, v2, v3, v4, v5, v6, v7, v8, v9⟩ := HK.out _ (HD.trans (hb4.mono HD.size)));(have HD := HD.trans (hb4.mono HD.size))))
        obtain rfl := HN12.out
        have hGz := G4.bel.size
        have HU := Lib.hid G4
        clear G0 G1 G2 G3 G4 hb1 hb2 hb3 hb4 hlit v0 v1 v2 v3 v7 v8 v9 HD
        go_wp2_with fail
        refine (spoilt_s _ B1 B2 B3 n1 d1 d2 n3 d3 S Z (digL n3) _ _ HU.out.has.2.2.2.2.1 ?_ (by omega) (by omega)).mono ?_
        · exact Nat.le_trans H35.out (Nat.le_of_lt HU.out.has.2.2.2.1.lt)
        rintro e w12 ⟨rfl, ht12⟩
        have hSlt : ∀ y, (B1 = some ⟨y, 0, none⟩ ∨ B2 = some ⟨y, 0, none⟩ ∨ B3 = some ⟨y, 0, none⟩) → w3.heap.size < y := HT.out
        have hbw : Below w.heap.size u4 w12 := ht12.below (by have := HU.out.bel.size; omega) (fun y h1 h2 => by have := hSlt y h2; have := H3w.out; omega)
        have hbf := HU.out.bel.trans hbw
        have hT : Trio (Value.int .i64) (Value.int .i64) (Value.int .i64) w12 _ 3 3 3 M1 (n1 + 4) k1 (S ++ List.replicate 4 77) M2 (n1 + 4) k2 (Z ++ List.replicate 4 78) M3 (n3 + 4) k3 (L ++ List.replicate 4 99) :=
          ⟨HU.out.has.2.2.2.2.2.2.2.2.1.o1.turn ht12 (fun g e1 h => by have := hSlt g h; have := HM.out g (.inl e1); omega), HU.out.has.2.2.2.2.2.2.2.2.1.o2.turn ht12 (fun g e1 h => by have := hSlt g h; have := HM.out g (.inr (.inl e1)); omega), HU.out.has.2.2.2.2.2.2.2.2.1.o3.turn ht12 (fun g e1 h => by have := hSlt g h; have := HM.out g (.inr (.inr e1)); omega), HU.out.has.2.2.2.2.2.2.2.2.1.d12, HU.out.has.2.2.2.2.2.2.2.2.1.d13, HU.out.has.2.2.2.2.2.2.2.2.1.d23⟩
        have hne : ∀ {g : Nat} {cs : List Value}, RowC u4 g 24 cs → ¬ (B1 = some ⟨g, 0, none⟩ ∨ B2 = some ⟨g, 0, none⟩ ∨ B3 = some ⟨g, 0, none⟩) := fun hr h => by
          rcases h with h | h | h
          · exact HU.out.has.2.2.2.2.1.o1.row_ne h hr (by decide)
          · exact HU.out.has.2.2.2.2.1.o2.row_ne h hr (by decide)
          · exact HU.out.has.2.2.2.2.1.o3.row_ne h hr (by decide)
        have ra := HU.out.has.2.2.2.2.2.2.2.2.2.1.turn ht12 (hne HU.out.has.2.2.2.2.2.2.2.2.2.1)
        have rm := HU.out.has.2.2.2.2.2.2.2.1.turn ht12 (hne HU.out.has.2.2.2.2.2.2.2.1)
        have v1 := ra.cell 0
        have v2 := ra.cell 1
        have v3 := ra.cell 2
        have m1 := rm.cell 0
        have m2 := rm.cell 1
        have m3 := rm.cell 2
        obtain ⟨h1, h2, h3⟩ := HA.out
        have s1 := h1.below (Nat.le_refl _) hbf
        have s2 := h2.below (Nat.le_refl _) hbf
        have s3 := h3.below (Nat.le_refl _) hbf
        have HV := Lib.hid (And.intro hT (And.intro hbf (And.intro s1 (And.intro s2 s3))))
        clear hT hbf hbw s1 s2 s3 h1 h2 h3 ra rm ht12 hSlt
        clear hne v4 v5 v6 hGz
        go_wp2_with fail
        refine (kept_i _ M1 M2 M3 A1 A2 A3 n1 k1 k2 k3 c1 n1 c2 n3 c3 S Z L 99 _ HV.out.1 HV.out.2.2.1 HV.out.2.2.2.1 HV.out.2.2.2.2 (by omega) (by omega) (by omega)).mono ?_
        rintro e w13 ⟨rfl, hb13⟩
        have HF := Lib.hid (HV.out.2.1.trans (hb13.mono HV.out.2.1.size))
        clear hb13 v1 v2 v3 m1 m2 m3
        go_wp2_with fail
        go_ret
        exact ⟨rfl, HF.out⟩
theorem lawB (A1 : Option Addr) (n1 c1 : Nat) (S : List Int) (A2 : Option Addr) (n2 c2 : Nat) (Z : List Int) (A3 : Option Addr) (n3 c3 : Nat) (L : List Int) (x : Int) (w : World) (h1 : Sl (Value.int .i64) w A1 n1 S) (h2 : Sl (Value.int .i64) w A2 n2 Z) (h3 : Sl (Value.int .i64) w A3 n3 L)
    (b1 : n1 * 8 ≤ 140737488351232) (b2 : n2 * 8 ≤ 140737488351232) (b3 : n3 * 8 ≤ 140737488351232) (_ : n1 ≤ c1) (_ : n2 ≤ c2) (_ : n3 ≤ c3) (_ : ∀ y, y ∈ S ∨ y ∈ Z ∨ y ∈ L → (Lit.int .i64 y).wf = true) (_ : (Lit.int .i64 x).wf = true) :
    Calls Try.prog 3 #[.agg #[.slice A1 n1 c1, .slice A2 n2 c2, .slice A3 n3 c3], .int .i64 x] w fun e w' => e = .returned (.bool true) ∧ Below w.heap.size w w' :=
  law A1 n1 c1 S A2 n2 c2 Z A3 n3 c3 L x w h1 h2 h3 b1 b2 b3
end Go.Proofs.Ytgmchedfgdgenaa.FactorMap
