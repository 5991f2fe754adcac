/- credencelaw16.SepApart, walked: it returns true. Conditions: the lists read, within Go's bound together. -/
import Derived.Test.YtdlnglffimcopaaRefApart
import Derived.Test.YtdlnglffimcopaaTurned
import Derived.Deep.CutRange
namespace Go.Proofs.Ytdlnglffimcopaa.SepApart
open Go.RowKit

theorem Twin.turn {w w' : World} {base : Nat} {A : Option Addr} {n c : Nat} {Ps : List (List Int)} {vs : List (Option Addr × Nat × Nat)} {S : Nat → Prop} (h : Twin w base A n c Ps vs) (ht : Turn w w' S) (hA : ∀ x, A = some ⟨x, 0, none⟩ → ¬ S x) (hv : ∀ i, i < n → ∀ x, (nth vs i).1 = some ⟨x, 0, none⟩ → ¬ S x) : Twin w' base A n c Ps vs :=
  ⟨h.out.turn ht hA, fun i hi => ⟨(h.row i hi).1.turn ht (hv i hi), (h.row i hi).2⟩⟩
/-- lists of the call's own, each in blocks of its own -/
structure An (w : World) (b0 b1 b2 b3 : Nat) (B S T U : Option Addr) (m d ma cs mb ct mg cu : Nat) (Ps : List (List Int)) (vs : List (Option Addr × Nat × Nat)) (a b g : List Int) : Prop where
  tw : Twin w b0 B m d Ps vs
  s : OwnR (Value.int .i64) w b1 3 S (ma + 4) cs (a ++ m4)
  t : OwnR (Value.int .i64) w b2 3 T (mb + 4) ct (b ++ m4)
  u : OwnR (Value.int .i64) w b3 3 U (mg + 4) cu (g ++ m4)
  lB : ∀ x, B = some ⟨x, 0, none⟩ → x < b1
  lv : ∀ i, i < m → ∀ x, (nth vs i).1 = some ⟨x, 0, none⟩ → x < b1
  lS : ∀ x, S = some ⟨x, 0, none⟩ → x < b2
  lT : ∀ x, T = some ⟨x, 0, none⟩ → x < b3
  h0 : b0 ≤ b1
  h1 : b1 ≤ b2
  h2 : b2 ≤ b3
section
variable {w w' : World} {b0 b1 b2 b3 : Nat} {B S T U : Option Addr} {m d ma cs mb ct mg cu : Nat} {Ps : List (List Int)} {vs : List (Option Addr × Nat × Nat)} {a b g a' : List Int}
theorem An.turnS (h : An w b0 b1 b2 b3 B S T U m d ma cs mb ct mg cu Ps vs a b g) (hs : OwnR (Value.int .i64) w' b1 3 S (ma + 4) cs (a' ++ m4)) (ht : Turn w w' (fun x => S = some ⟨x, 0, none⟩)) : An w' b0 b1 b2 b3 B S T U m d ma cs mb ct mg cu Ps vs a' b g :=
  ⟨Twin.turn h.tw ht (fun x e e2 => by have := h.lB x e; have := h.s.fr x 0 e2; omega) (fun i hi x e e2 => by have := h.lv i hi x e; have := h.s.fr x 0 e2; omega), hs,
    h.t.turn ht (fun x e e2 => by have := h.t.fr x 0 e; have := h.lS x e2; omega), h.u.turn ht (fun x e e2 => by have := h.u.fr x 0 e; have := h.lS x e2; have := h.h2; omega), h.lB, h.lv, h.lS, h.lT, h.h0, h.h1, h.h2⟩
theorem An.turnT (h : An w b0 b1 b2 b3 B S T U m d ma cs mb ct mg cu Ps vs a b g) (hs : OwnR (Value.int .i64) w' b2 3 T (mb + 4) ct (a' ++ m4)) (ht : Turn w w' (fun x => T = some ⟨x, 0, none⟩)) : An w' b0 b1 b2 b3 B S T U m d ma cs mb ct mg cu Ps vs a a' g :=
  ⟨Twin.turn h.tw ht (fun x e e2 => by have := h.lB x e; have := h.t.fr x 0 e2; have := h.h1; omega) (fun i hi x e e2 => by have := h.lv i hi x e; have := h.t.fr x 0 e2; have := h.h1; omega),
    h.s.turn ht (fun x e e2 => by have := h.lS x e; have := h.t.fr x 0 e2; omega), hs, h.u.turn ht (fun x e e2 => by have := h.u.fr x 0 e; have := h.lT x e2; omega), h.lB, h.lv, h.lS, h.lT, h.h0, h.h1, h.h2⟩
theorem An.turnU (h : An w b0 b1 b2 b3 B S T U m d ma cs mb ct mg cu Ps vs a b g) (hs : OwnR (Value.int .i64) w' b3 3 U (mg + 4) cu (a' ++ m4)) (ht : Turn w w' (fun x => U = some ⟨x, 0, none⟩)) : An w' b0 b1 b2 b3 B S T U m d ma cs mb ct mg cu Ps vs a b a' :=
  ⟨Twin.turn h.tw ht (fun x e e2 => by have := h.lB x e; have := h.u.fr x 0 e2; have := h.h1; have := h.h2; omega) (fun i hi x e e2 => by have := h.lv i hi x e; have := h.u.fr x 0 e2; have := h.h1; have := h.h2; omega),
    h.s.turn ht (fun x e e2 => by have := h.lS x e; have := h.u.fr x 0 e2; have := h.h2; omega), h.t.turn ht (fun x e e2 => by have := h.lT x e; have := h.u.fr x 0 e2; omega), hs, h.lB, h.lv, h.lS, h.lT, h.h0, h.h1, h.h2⟩
theorem An.below (h : An w b0 b1 b2 b3 B S T U m d ma cs mb ct mg cu Ps vs a b g) (hb : Below w.heap.size w w') : An w' b0 b1 b2 b3 B S T U m d ma cs mb ct mg cu Ps vs a b g :=
  ⟨Stable.below (P := fun w => Twin w b0 B m d Ps vs) hb h.tw, h.s.below (Nat.le_refl _) hb, h.t.below (Nat.le_refl _) hb, h.u.below (Nat.le_refl _) hb, h.lB, h.lv, h.lS, h.lT, h.h0, h.h1, h.h2⟩
instance : Stable (fun w => An w b0 b1 b2 b3 B S T U m d ma cs mb ct mg cu Ps vs a b g) := ⟨fun hb h => h.below hb⟩
end
theorem OwnR.below_size {α : Type} {enc : α → Value} {w : World} {base : Nat} {e : TypeId} {A : Option Addr} {n c : Nat} {xs : List α} (h : OwnR enc w base e A n c xs) (x : Nat) (e1 : A = some ⟨x, 0, none⟩) : x < w.heap.size := by
  rcases h.at_row with h1 | ⟨g', h1, _, h2⟩
  · rw [e1] at h1; cases h1
  · rw [e1] at h1; injection h1 with h1; injection h1 with h1; omega
theorem flip_all {a : List Int} {n : Nat} (h : a.length = n) : flipTo n (a ++ m4) = a.map flip1 ++ m4 ∧ ((a ++ m4).take n).map flip1 = a.map flip1 := by
  subst h
  constructor
  · unfold flipTo; rw [List.take_left, List.drop_left]
  · rw [List.take_left]
/-- behind the last list's being taken away -/
theorem rows_last {w : World} {b0 : Nat} {B : Option Addr} {m d : Nat} {Ps : List (List Int)} {vs : List (Option Addr × Nat × Nat)} {gB : Nat} (h : Twin w b0 B m d Ps vs) (hl : Ps.length = m) (hm : 0 < m) (hB : B = some ⟨gB, 0, none⟩) (hn : m ≤ 140737488351232) (hb : ∀ i, i < m → (nth Ps i).length + 4 ≤ 140737488351232) (hne : (3 : TypeId) ≠ 23) :
    Rows (Value.int .i64) (w.setCell ⟨gB, m - 1, none⟩ (.slice none 0 0)) B m (Ps.set (m - 1) []) := by
  subst hB
  have hvl := h.out.length
  have ho := h.out.put (j := m - 1) (by omega) (none, 0, 0)
  refine ⟨⟨vs.set (m - 1) (none, 0, 0), ho.sl hn, fun i hi => ?_⟩, by simpa using hl⟩
  by_cases e : i = m - 1
  · subst e
    rw [nth_set_same (by omega), nth_set_same (by omega)]
    exact ⟨Sl.nil _ _ _, Nat.le_refl _⟩
  · rw [nth_set_other (fun h => e h.symm), nth_set_other (fun h => e h.symm)]
    obtain ⟨h1, h2⟩ := h.row i hi
    have hc := h1.cap
    have h3 := h1.setFar (p := ⟨gB, m - 1, none⟩) (fun g e2 e3 => by
      have e4 : g = gB := e3
      subst e4
      exact h1.kinds h.out hne e2 rfl) (.slice none 0 0)
    exact ⟨h3.pre' h2.symm (by have := hb i hi; omega), by omega⟩

set_option maxRecDepth 100000 in
set_option maxHeartbeats 1600000 in
theorem anew_any (b0 b1 b2 b3 : Nat) (B S T U : Option Addr) (m d ma cs mb ct mg cu : Nat) (Ps : List (List Int)) (vs : List (Option Addr × Nat × Nat)) (a b g : List Int) (w : World) (h : An w b0 b1 b2 b3 B S T U m d ma cs mb ct mg cu Ps vs a b g)
    (hPl : Ps.length = m) (hal : a.length = ma) (hbl : b.length = mb) (hgl : g.length = mg) (hm : m ≤ 7) (hb : ∀ i, i < m → (nth Ps i).length * 8 ≤ 140737488351232) (hma : ma ≤ 1048576) (hmb : mb ≤ 1048576) (hmg : mg ≤ 1048576) (hB0 : b0 ≤ w.heap.size) :
    Calls Try.prog 26 #[.slice B m d, .slice S ma cs, .slice T mb ct, .slice U mg cu] w fun e w' => e = .returned (.bool true) ∧ Below b0 w w' := by
  obtain ⟨wa, hwa⟩ : ∃ wa : World, wa = w := ⟨_, rfl⟩
  subst hwa
  have HL := Lib.hid (And.intro hPl (And.intro hal (And.intro hbl (And.intro hgl hb)))); clear hPl hal hbl hgl hb
  have hs0 := h.s
  have H0 := Lib.hid h; clear h
  go_enter Try.func26, Try.ntmps26
  go_wp2_with fail
  refine (turned_any b1 S ma (ma + 4) cs (a ++ m4) _ hs0 (by omega) (by omega)).mono ?_
  rintro e w1 ⟨A1, da, rfl, hS1, hA1, ht1⟩
  rw [(flip_all HL.out.2.1).1] at hS1
  rw [(flip_all HL.out.2.1).2] at hA1
  have h1 := H0.out.turnS hS1 ht1
  have hbw1 : Below b0 wa w1 := ht1.below hB0 (fun x hx e => by have := H0.out.s.fr x 0 e; have := H0.out.h0; omega)
  have hs1 := h1.t
  have H1 := Lib.hid (And.intro h1 (And.intro hA1 hbw1)); clear h1 hS1 hA1 ht1 hs0 hbw1
  go_wp2_with fail
  refine (turned_any b2 T mb (mb + 4) ct (b ++ m4) _ hs1 (by omega) (by omega)).mono ?_
  rintro e w2 ⟨B1, db, rfl, hT2, hB2, ht2⟩
  rw [(flip_all HL.out.2.2.1).1] at hT2
  rw [(flip_all HL.out.2.2.1).2] at hB2
  have h2 := H1.out.1.turnT hT2 ht2
  have hA2 := H1.out.2.1.turn ht2 (fun x e e2 => by have h3 := H1.out.2.1.fr x 0 e; have h4 := OwnR.below_size H0.out.t x e2; omega)
  have hbw2 : Below b0 wa w2 := H1.out.2.2.trans (ht2.below (Nat.le_trans hB0 H1.out.2.2.size) (fun x hx e => by have := H1.out.1.t.fr x 0 e; have := H0.out.h0; have := H0.out.h1; omega))
  have hs2 := h2.u
  have H2 := Lib.hid (And.intro h2 (And.intro hA2 (And.intro hB2 hbw2))); clear h2 hT2 hB2 ht2 hs1 hA2 hbw2
  go_wp2_with fail
  refine (turned_any b3 U mg (mg + 4) cu (g ++ m4) _ hs2 (by omega) (by omega)).mono ?_
  rintro e w3 ⟨C1, dc, rfl, hU3, hC3, ht3⟩
  rw [(flip_all HL.out.2.2.2.1).1] at hU3
  rw [(flip_all HL.out.2.2.2.1).2] at hC3
  have h3 := H2.out.1.turnU hU3 ht3
  have hUl := OwnR.below_size H0.out.u
  have hA3 := H2.out.2.1.turn ht3 (fun x e e2 => by have := H2.out.2.1.fr x 0 e; have := hUl x e2; omega)
  have hB3 := H2.out.2.2.1.turn ht3 (fun x e e2 => by have := H2.out.2.2.1.fr x 0 e; have := hUl x e2; have := H1.out.2.2.size; omega)
  have hbw3 : Below b0 wa w3 := H2.out.2.2.2.trans (ht3.below (Nat.le_trans hB0 H2.out.2.2.2.size) (fun x hx e => by have := H2.out.1.u.fr x 0 e; have := H0.out.h0; have := H0.out.h1; have := H0.out.h2; omega))
  have H3 := Lib.hid (And.intro h3 (And.intro hA3 (And.intro hB3 (And.intro hC3 hbw3)))); clear h3 hU3 hC3 ht3 hs2 hA3 hB3 hbw3 hUl
  have hcS := H3.out.1.s.cap
  have hcT := H3.out.1.t.cap
  have hmap : ∀ (l : List Int) (k : Nat), l.length = k → (l.map flip1).length = k := fun l k h => by simpa using h
  have HMP := Lib.hid hmap; clear hmap
  go_upto_if 25 with fail
  go_cut [] from 23 (fun wx => ∃ Qs : List (List Int), Qs.length = m ∧ (∀ i, i < m → (nth Qs i).length * 8 ≤ 140737488351232) ∧ Below b0 wa wx ∧ Rows (Value.int .i64) wx B m Qs ∧ Sl (Value.int .i64) wx S ma (a.map flip1) ∧ Sl (Value.int .i64) wx T mb (b.map flip1) ∧ Sl (Value.int .i64) wx U mg (g.map flip1) ∧ Sl (Value.int .i64) wx A1 ma (a.map flip1) ∧ Sl (Value.int .i64) wx B1 mb (b.map flip1) ∧ Sl (Value.int .i64) wx C1 mg (g.map flip1))
  case first =>
    by_cases hm0 : m = 0
    · subst hm0
      go_wp2_with fail
      go_meet
      case rel =>
        obtain ⟨h3, hA3, hB3, hC3, hbw3⟩ := H3.out
        exact ⟨Ps, HL.out.1, HL.out.2.2.2.2, hbw3, h3.tw.rows HL.out.1 (by omega) (fun i hi => by omega), h3.s.pre' (HMP.out _ _ HL.out.2.1) (by omega), h3.t.pre' (HMP.out _ _ HL.out.2.2.1) (by omega), h3.u.pre' (HMP.out _ _ HL.out.2.2.2.1) (by omega), hA3.sl (by omega), hB3.sl (by omega), hC3.sl (by omega)⟩
    · obtain ⟨gB, rest, hBe, hbg, hr, hc⟩ := H3.out.1.tw.out.row (by omega)
      have hvl := H3.out.1.tw.out.length
      have g1 := hr.cell (j := m - 1) (by omega)
      have f1 := hr.frozen (m - 1)
      have hml := H3.out.1.lB gB hBe
      have HBe := Lib.hid hBe
      have q1 : (0 : Int) ≤ ((m : Nat) : Int) - 1 := by omega
      have q2 : ((m : Nat) : Int) - 1 < ((m : Nat) : Int) := by omega
      have q3 : (((m : Nat) : Int) - 1).toNat = m - 1 := by omega
      have q4 : ((m : Nat) : Int) > 0 := by omega
      clear hr hc hvl
      subst hBe
      go_wp2_with fail
      go_meet
      case rel =>
        obtain ⟨h3, hA3, hB3, hC3, hbw3⟩ := H3.out
        have far : ∀ {X : Option Addr} {bs k c : Nat} {xs : List Int}, OwnR (Value.int .i64) w3 bs 3 X k c xs → b1 ≤ bs → OwnR (Value.int .i64) (w3.setCell ⟨gB, m - 1, none⟩ (.slice none 0 0)) bs 3 X k c xs := fun {X bs k c xs} h hle => h.setFar (fun x e e2 => by
          have h4 := h.fr x 0 e
          have e3 : x = gB := e2
          omega) _
        have hwa := H0.out.s.at_row
        have h01 := h3.h1
        have h12 := h3.h2
        have far2 : ∀ {X : Option Addr} {bs k c : Nat} {xs : List Int}, OwnR (Value.int .i64) w3 bs 3 X k c xs → wa.heap.size ≤ bs → OwnR (Value.int .i64) (w3.setCell ⟨gB, m - 1, none⟩ (.slice none 0 0)) bs 3 X k c xs := fun {X bs k c xs} h hle => h.setFar (fun x e e2 => by
          have h4 := h.fr x 0 e
          have e3 : x = gB := e2
          have h5 := OwnR.below_size H0.out.tw.out gB rfl
          omega) _
        exact ⟨Ps.set (m - 1) [], by simpa using HL.out.1, fun i hi => by
            by_cases e : i = m - 1
            · subst e; rw [nth_set_same (by have := HL.out.1; omega)]; simp
            · rw [nth_set_other (fun h => e h.symm)]; exact HL.out.2.2.2.2 i hi, hbw3.setCell (p := ⟨gB, m - 1, none⟩) hbg _,
          rows_last h3.tw HL.out.1 (by omega) rfl (by omega) (fun i hi => by have := HL.out.2.2.2.2 i hi; omega) (by decide), (far h3.s (Nat.le_refl _)).pre' (HMP.out _ _ HL.out.2.1) (by omega), (far h3.t h01).pre' (HMP.out _ _ HL.out.2.2.1) (by omega), (far h3.u (by omega)).pre' (HMP.out _ _ HL.out.2.2.2.1) (by omega),
          (far2 hA3 (Nat.le_refl _)).sl (by omega), (far2 hB3 H1.out.2.2.size).sl (by omega), (far2 hC3 H2.out.2.2.2.size).sl (by omega)⟩
  case rest =>
    obtain ⟨Qs, hQl, hQb, hbw, hrows, hsS, hsT, hsU, hsA, hsB, hsC⟩ := hcut
    have hz0 := hbw.size
    have HQ := Lib.hid (And.intro hQl (And.intro hQb (And.intro hbw (And.intro hrows (And.intro hsS (And.intro hsT (And.intro hsU (And.intro hsA (And.intro hsB hsC)))))))))
    clear hQl hQb hbw hsS hsT hsU hsA hsB hsC
    go_wp2_with fail
    refine (twin_any B m d Qs _ hrows (by omega) HQ.out.2.1).mono ?_
    rintro e w5 ⟨P, dP, us, rfl, hP, hb5⟩
    have hPr := hP.rows HQ.out.1 (by omega) (fun i hi => by have := HQ.out.2.1 i hi; omega)
    have hsA := HQ.out.2.2.2.2.2.2.2.1.below (Nat.le_refl _) hb5
    have hsB := HQ.out.2.2.2.2.2.2.2.2.1.below (Nat.le_refl _) hb5
    have hsC := HQ.out.2.2.2.2.2.2.2.2.2.below (Nat.le_refl _) hb5
    have HB5 := Lib.hid hb5
    clear hP hb5 hrows
    go_wp2_with fail
    refine (apart_ref P A1 B1 C1 m dP ma da mb db mg dc Qs (a.map flip1) (b.map flip1) (g.map flip1) _ hPr hsA hsB hsC (by omega) (by omega)).mono ?_
    rintro e w6 ⟨rfl, hb6⟩
    have hb56 := HB5.out.trans (hb6.mono HB5.out.size)
    have hr6 := HQ.out.2.2.2.1.below (Nat.le_refl _) hb56
    have hs6 := HQ.out.2.2.2.2.1.below (Nat.le_refl _) hb56
    have ht6 := HQ.out.2.2.2.2.2.1.below (Nat.le_refl _) hb56
    have hu6 := HQ.out.2.2.2.2.2.2.1.below (Nat.le_refl _) hb56
    have HB6 := Lib.hid hb56
    clear hPr hsA hsB hsC hb6 hb56
    go_wp2_with fail
    refine (apart_any B S T U m d ma cs mb ct mg cu Qs (a.map flip1) (b.map flip1) (g.map flip1) _ hr6 hs6 ht6 hu6 (by omega) (by omega) (by omega) (by omega) (by omega) (by omega)).mono ?_
    rintro e w7 ⟨rfl, hb7⟩
    have HB7 := Lib.hid (HB6.out.trans (hb7.mono HB6.out.size))
    clear hr6 hs6 ht6 hu6 hb7
    generalize apartB Qs (a.map flip1) (b.map flip1) (g.map flip1) = z at *
    generalize lookE Qs (g.map flip1) (a.map flip1 ++ b.map flip1) = ee at *
    go_wp2_with fail
    go_ret
    exact ⟨by simp, HQ.out.2.2.1.trans (HB7.out.mono (by have := HQ.out.2.2.1.size; omega))⟩

set_option maxRecDepth 100000 in
set_option maxHeartbeats 1600000 in
theorem law1 (A B0 B1 C0 : Option Addr) (n m c ma da mb db mg dg : Nat) (Ps : List (List Int)) (a b given : List Int) (w : World) (h : Rows (Value.int .i64) w A m Ps) (ha : Sl (Value.int .i64) w B0 ma a) (hb0 : Sl (Value.int .i64) w B1 mb b) (hg : Sl (Value.int .i64) w C0 mg given) (hnm : (min ((n : Nat) : Int) 7).toNat = m) (hmc : m ≤ c) (hn : n * 24 ≤ 140737488351232)
    (hb : ∀ i, i < m → (nth Ps i).length * 8 ≤ 140737488351232) (hma : ma ≤ 1048576) (hmb : mb ≤ 1048576) (hmg : mg ≤ 1048576) :
    Calls Try.prog 5 #[.slice A n c, .slice B0 ma da, .slice B1 mb db, .slice C0 mg dg] w fun e w' => e = .returned (.bool true) ∧ Below w.heap.size w w' := by
  have hm7 : m ≤ 7 := by omega
  have HL := Lib.hid (And.intro h.len (And.intro hb (And.intro ha.len (And.intro hb0.len hg.len)))); clear hb
  have H0 := ((((Held.init w).and (Q := fun w => Rows (Value.int .i64) w A m Ps) h).sl ha).sl hb0).sl hg
  obtain ⟨wa, hwa⟩ : ∃ wa : World, wa = w := ⟨_, rfl⟩
  subst hwa
  clear h ha hb0 hg
  go_enter Try.func5, Try.ntmps5
  have q1 : min ((n : Nat) : Int) 7 ≤ c := by omega
  have q2 : 0 ≤ min ((n : Nat) : Int) 7 := by omega
  have HM := Lib.hid hnm; clear hnm
  go_wp2_with fail
  rw [HM.out]
  refine (twin_any A m c Ps _ H0.has.2.2.2.1 (by omega) HL.out.2.1).mono ?_
  rintro e w1 ⟨B, d, vs, rfl, ht, hb⟩
  have hlB := OwnR.below_size ht.out
  have hlv := fun i (hi : i < m) => OwnR.below_size (ht.row i hi).1
  have hs1 := hb.size
  have H1 := (H0.step hb).and (Q := fun w => Twin w wa.heap.size B m d Ps vs) ht
  clear H0 hb ht
  have HT := Lib.hid (And.intro hlB (And.intro hlv hs1)); clear hlB hlv hs1
  go_wp2_with fail
  refine (roomy_any B0 ma da a _ H1.has.2.2.2.1 (by omega)).mono ?_
  rintro e w2 ⟨S, cs, rfl, hS, hb⟩
  have hlS := OwnR.below_size hS
  have hs2 := hb.size
  have H2 := (H1.step hb).and (Q := fun w => OwnR (Value.int .i64) w w1.heap.size 3 S (ma + 4) cs (a ++ m4)) hS
  clear H1 hb hS
  have HS := Lib.hid (And.intro hlS hs2); clear hlS hs2
  go_wp2_with fail
  refine (roomy_any B1 mb db b _ H2.has.2.2.2.1 (by omega)).mono ?_
  rintro e w3 ⟨T, ct, rfl, hT, hb⟩
  have hlT := OwnR.below_size hT
  have hs3 := hb.size
  have H3 := (H2.step hb).and (Q := fun w => OwnR (Value.int .i64) w w2.heap.size 3 T (mb + 4) ct (b ++ m4)) hT
  clear H2 hb hT
  have HTT := Lib.hid (And.intro hlT hs3); clear hlT hs3
  go_wp2_with fail
  refine (roomy_any C0 mg dg given _ H3.has.2.2.2.1 (by omega)).mono ?_
  rintro e w4 ⟨U, cu, rfl, hU, hb⟩
  have H4 := (H3.step hb).and (Q := fun w => OwnR (Value.int .i64) w w3.heap.size 3 U (mg + 4) cu (given ++ m4)) hU
  have hs4 := Lib.hid hb.size
  clear H3 hb hU
  have hAn : An w4 wa.heap.size w1.heap.size w2.heap.size w3.heap.size B S T U m d ma cs mb ct mg cu Ps vs a b given :=
    ⟨H4.has.2.2.2.1, H4.has.2.2.1, H4.has.2.1, H4.has.1, HT.out.1, HT.out.2.1, HS.out.1, HTT.out.1, HT.out.2.2, HS.out.2, HTT.out.2⟩
  have H5 : Held wa (fun w => An w wa.heap.size w1.heap.size w2.heap.size w3.heap.size B S T U m d ma cs mb ct mg cu Ps vs a b given ∧ Sl (Value.int .i64) w C0 mg given ∧ Sl (Value.int .i64) w B1 mb b ∧ Sl (Value.int .i64) w B0 ma a ∧ Rows (Value.int .i64) w A m Ps) w4 :=
    ⟨H4.bel, hAn, H4.has.2.2.2.2.1, H4.has.2.2.2.2.2.1, H4.has.2.2.2.2.2.2.1, H4.has.2.2.2.2.2.2.2.1⟩
  clear H4 hAn
  have hcS := H5.has.1.s.cap
  have hcT := H5.has.1.t.cap
  go_wp2_with fail
  refine (apart_ref A B0 B1 C0 m c ma da mb db mg dg Ps a b given _ H5.has.2.2.2.2 H5.has.2.2.2.1 H5.has.2.2.1 H5.has.2.1 (by omega) (by omega)).mono ?_
  rintro e w5 ⟨rfl, hb⟩
  have H6 := H5.step hb
  clear H5 hb
  have hrows := H6.has.1.tw.rows HL.out.1 (by omega) (fun i hi => by have := HL.out.2.1 i hi; omega)
  have hsa := OwnR.pre' H6.has.1.s HL.out.2.2.1 (by omega)
  have hsb := OwnR.pre' H6.has.1.t HL.out.2.2.2.1 (by omega)
  have hsg := OwnR.pre' H6.has.1.u HL.out.2.2.2.2 (by omega)
  go_wp2_with fail
  refine (apart_any B S T U m d ma cs mb ct mg cu Ps a b given _ hrows hsa hsb hsg (by omega) (by omega) (by omega) (by omega) (by omega) (by omega)).mono ?_
  rintro e w6 ⟨rfl, hb⟩
  have H7 := H6.step hb
  clear H6 hb hrows hsa hsb hsg
  have hrows := H7.has.1.tw.rows HL.out.1 (by omega) (fun i hi => by have := HL.out.2.1 i hi; omega)
  have hsa := OwnR.pre' H7.has.1.s HL.out.2.2.1 (by omega)
  have hsb := OwnR.pre' H7.has.1.t HL.out.2.2.2.1 (by omega)
  have hsg := OwnR.pre' H7.has.1.u HL.out.2.2.2.2 (by omega)
  go_wp2_with fail
  refine (apart_any B S T U m d ma cs mb ct mg cu Ps a b given _ hrows hsa hsb hsg (by omega) (by omega) (by omega) (by omega) (by omega) (by omega)).mono ?_
  rintro e w7 ⟨rfl, hb⟩
  have H8 := H7.step hb
  clear H7 hb hrows hsa hsb hsg
  generalize apartB Ps a b given = z at *
  generalize lookE Ps given (a ++ b) = ee at *
  go_wp2_with fail
  refine (kept_any wa.heap.size B A m d c Ps vs _ H8.has.1.tw H8.has.2.2.2.2 (by omega) HL.out.2.1).mono ?_
  rintro e w8 ⟨rfl, t8, rfl⟩
  have HK := Lib.hid H8
  have H9 := H8.drewN t8
  clear H8
  go_wp2_with fail
  refine (still_any S B0 ma cs da a _ (H9.has.1.s.sl (by omega)) H9.has.2.2.2.1 H9.has.1.s.cap).mono ?_
  rintro e w9 ⟨rfl, t9, rfl⟩
  have H10 := HK.out.drewN (t8 + t9)
  clear H9
  go_wp2_with fail
  refine (still_any T B1 mb ct db b _ (H10.has.1.t.sl (by omega)) H10.has.2.2.1 H10.has.1.t.cap).mono ?_
  rintro e w10 ⟨rfl, t10, rfl⟩
  have H11 := HK.out.drewN (t8 + t9 + t10)
  clear H10
  go_wp2_with fail
  refine (still_any U C0 mg cu dg given _ (H11.has.1.u.sl (by omega)) H11.has.2.1 H11.has.1.u.cap).mono ?_
  rintro e w11 ⟨rfl, t11, rfl⟩
  have H12 := HK.out.drewN (t8 + t9 + t10 + t11)
  clear H11
  go_wp2_with fail
  refine (anew_any wa.heap.size w1.heap.size w2.heap.size w3.heap.size B S T U m d ma cs mb ct mg cu Ps vs a b given _ H12.has.1 HL.out.1 HL.out.2.2.1 HL.out.2.2.2.1 HL.out.2.2.2.2 hm7 HL.out.2.1 hma hmb hmg H12.bel.size).mono ?_
  rintro e w12 ⟨rfl, hb⟩
  have HF := Lib.hid (H12.bel.trans hb)
  clear H12 hb
  go_wp2_with fail
  go_ret
  exact ⟨rfl, HF.out⟩
theorem law (A B0 B1 C0 : Option Addr) (n c ma da mb db mg dg : Nat) (Ps : List (List Int)) (a b given : List Int) (w : World) (h : Rows (Value.int .i64) w A n Ps) (ha : Sl (Value.int .i64) w B0 ma a) (hb0 : Sl (Value.int .i64) w B1 mb b) (hg : Sl (Value.int .i64) w C0 mg given) (hc : n ≤ c) (hn : n * 24 ≤ 140737488351232)
    (hb : ∀ i, i < n → (nth Ps i).length * 8 ≤ 140737488351232) (hma : ma ≤ 1048576) (hmb : mb ≤ 1048576) (hmg : mg ≤ 1048576) :
    Calls Try.prog 5 #[.slice A n c, .slice B0 ma da, .slice B1 mb db, .slice C0 mg dg] w fun e w' => e = .returned (.bool true) ∧ Below w.heap.size w w' :=
  law1 A B0 B1 C0 n (min ((n : Nat) : Int) 7).toNat c ma da mb db mg dg (Ps.take (min ((n : Nat) : Int) 7).toNat) a b given w (h.take (by omega)) ha hb0 hg rfl (by omega) hn (fun i hi => by rw [nth_take hi]; exact hb i (by omega)) hma hmb hmg
theorem lawB (A : Option Addr) (n c : Nat) (Ps : List (List Int)) (B0 : Option Addr) (ma da : Nat) (a : List Int) (B1 : Option Addr) (mb db : Nat) (b : List Int) (C0 : Option Addr) (mg dg : Nat) (given : List Int) (w : World) (h : Rows (Value.int .i64) w A n Ps) (hc : n ≤ c) (hn : n * 24 ≤ 140737488351232)
    (hb : (∀ i, i < n → (nth Ps i).length * 8 ≤ 140737488351232) ∧ ∀ l ∈ Ps, ∀ x ∈ l, (Lit.int .i64 x).wf = true) (ha : Sl (Value.int .i64) w B0 ma a) (_ : ∀ x ∈ a, (Lit.int .i64 x).wf = true) (hb0 : Sl (Value.int .i64) w B1 mb b) (_ : ∀ x ∈ b, (Lit.int .i64 x).wf = true) (hg : Sl (Value.int .i64) w C0 mg given) (_ : ∀ x ∈ given, (Lit.int .i64 x).wf = true)
    (_ : n ≤ 1048576) (hma : ma ≤ 1048576) (hmb : mb ≤ 1048576) (hmg : mg ≤ 1048576) :
    Calls Try.prog 5 #[.slice A n c, .slice B0 ma da, .slice B1 mb db, .slice C0 mg dg] w fun e w' => e = .returned (.bool true) ∧ Below w.heap.size w w' :=
  law A B0 B1 C0 n c ma da mb db mg dg Ps a b given w h ha hb0 hg hc hn hb.1 hma hmb hmg
end Go.Proofs.Ytdlnglffimcopaa.SepApart
