/- Joined by program out of: KeptS13, Spo. What each says stands at its own head. -/
import Derived.Test.YtgmchedfgdgenaaJ9
import Derived.Test.YtgmchedfgdgenaaJ18
import Derived.Deep.RegionHeld3
import Derived.Test.YtgmchedfgdgenaaJ2
/- credencelaw13.kept[string], walked where all is as it was: it tells true. Conditions: the lists read, within Go's bound. -/
namespace Go.Proofs.Ytgmchedfgdgenaa
open Go.RowKit

theorem nth_mark_s {α : Type} [Inhabited α] (xs : List α) (m : Nat) (x : α) {t : Nat} (h : t < m) : nth (xs ++ List.replicate m x) (xs.length + t) = x := by
  rw [nth_append_right (Nat.le_add_right _ _), Nat.add_sub_cancel_left, nth_eq (by simpa using h)]; simp
theorem same_self_s (r : Value) (a : ByteArray) (w : World) (hr : r = .agg #[]) : Calls Try.prog 124 #[r, Value.string a, Value.string a] w fun e w' => e = .returned (.bool true) ∧ Below w.heap.size w w' :=
  (same_s r a a w hr).mono fun _ _ h => ⟨by rw [h.1]; simp, h.2⟩
set_option maxRecDepth 100000 in
set_option maxHeartbeats 800000 in
theorem kept_s (base : Nat) (A B C A1 A2 A3 : Option Addr) (n1 c d k c1 n2 c2 n3 c3 : Nat) (S Z : List Int) (L : List ByteArray) (mark : ByteArray) (w : World) (T : Trio (Value.int .i64) (Value.int .i64) (Value.string) w base 3 3 9 A (n1 + 4) c (S ++ List.replicate 4 77) B (n2 + 4) d (Z ++ List.replicate 4 78) C (n3 + 4) k (L ++ List.replicate 4 mark))
    (h1 : Sl (Value.int .i64) w A1 n1 S) (h2 : Sl (Value.int .i64) w A2 n2 Z) (h3 : Sl (Value.string) w A3 n3 L) (b1 : n1 + 4 ≤ 140737488351232) (b2 : n2 + 4 ≤ 140737488351232) (b3 : n3 + 4 ≤ 140737488351232) :
    Calls Try.prog 61 #[.iface 45 (.agg #[]), .agg #[.slice A n1 c, .slice B n2 d, .slice C n3 k], .agg #[.slice A1 n1 c1, .slice A2 n2 c2, .slice A3 n3 c3], Value.string mark] w fun e w' => e = .returned (.bool true) ∧ Below w.heap.size w w' := by
  have k1 := T.o1.cap
  have k2 := T.o2.cap
  have k3 := T.o3.cap
  have u1 : n1 + 4 ≤ c := k1
  have u2 : n2 + 4 ≤ d := k2
  have u3 : n3 + 4 ≤ k := k3
  have p1 := OwnR.pre T.o1 h1.len b1
  have p2 := OwnR.pre T.o2 h2.len b2
  have p3 := OwnR.pre T.o3 h3.len b3
  have HL := Lib.hid (And.intro h1.len (And.intro h2.len h3.len))
  have H0 := (((((((Held.init w).sl h1).sl h2).sl h3).sl p1).sl p2).sl p3)
  obtain ⟨g1, x1, rfl, _, y1, _⟩ := T.o1.row (by omega)
  obtain ⟨g2, x2, rfl, _, y2, _⟩ := T.o2.row (by omega)
  obtain ⟨g3, x3, rfl, _, y3, _⟩ := T.o3.row (by omega)
  have H1 := ((H0.and (Q := fun w => RowAt (Value.int .i64) w g1 3 (S ++ List.replicate 4 77) x1) y1).and (Q := fun w => RowAt (Value.int .i64) w g2 3 (Z ++ List.replicate 4 78) x2) y2).and (Q := fun w => RowAt (Value.string) w g3 9 (L ++ List.replicate 4 mark) x3) y3
  have H2 := (H1.new 33 [.slice (some ⟨g1, 0, none⟩) n1 c, .slice (some ⟨g2, 0, none⟩) n2 d, .slice (some ⟨g3, 0, none⟩) n3 k])
  have H := H2.new 33 [.slice A1 n1 c1, .slice A2 n2 c2, .slice A3 n3 c3]
  rw [show (w.alloc (.cells [.slice (some ⟨g1, 0, none⟩) n1 c, .slice (some ⟨g2, 0, none⟩) n2 d, .slice (some ⟨g3, 0, none⟩) n3 k].toArray 33)).heap.size = w.heap.size + 1 from by simp] at H
  clear H0 H1 H2 h1 h2 h3 p1 p2 p3 y1 y2 y3 k1 k2 k3 T
  have v1 := H.has.2.1.cell 0
  have v2 := H.has.2.1.cell 1
  have v3 := H.has.2.1.cell 2
  have v4 := H.has.1.cell 0
  have v5 := H.has.1.cell 1
  have v6 := H.has.1.cell 2
  go_enter Try.func61, Try.ntmps61
  go_wp2_with fail
  generalize hq : (w.alloc (.cells #[.slice (some ⟨g1, 0, none⟩) n1 c, .slice (some ⟨g2, 0, none⟩) n2 d, .slice (some ⟨g3, 0, none⟩) n3 k] 33)).alloc (.cells #[.slice A1 n1 c1, .slice A2 n2 c2, .slice A3 n3 c3] 33) = wq at *
  clear hq
  have HW := Lib.hid H
  clear v1 v2 v3 v4 v5 v6 H
  go_loopw [12] (fun i wr => ∃ t : Nat, i = .int .i64 (t : Nat) ∧ t ≤ 4 ∧ Below wq.heap.size wq wr) (fun i _ => 4 - (intOf i).toNat)
  case atStart => exact ⟨0, rfl, by omega, Below.refl _ _⟩
  case round =>
    obtain ⟨t, rfl, ht, hbw⟩ := hrel
    have H := HW.out.step hbw
    by_cases hlt : t < 4
    · have hk : ∀ wx : World, Below wq.heap.size wq wx → wx.cell? ⟨w.heap.size + 1, 0, none⟩ = some (.slice A1 n1 c1) ∧ wx.cell? ⟨w.heap.size + 1, 1, none⟩ = some (.slice A2 n2 c2) ∧ wx.cell? ⟨w.heap.size + 1, 2, none⟩ = some (.slice A3 n3 c3) ∧
          wx.cell? ⟨g1, n1 + t, none⟩ = some (.int .i64 77) ∧ wx.cell? ⟨g2, n2 + t, none⟩ = some (.int .i64 78) ∧ wx.cell? ⟨g3, n3 + t, none⟩ = some (Value.string mark) := fun wx hb => by
        have H := HW.out.step hb
        obtain ⟨l1, l2, l3⟩ := HL.out
        have q1 := H.has.2.2.2.2.1.cell (j := n1 + t) (by simp; omega)
        have q2 := H.has.2.2.2.1.cell (j := n2 + t) (by simp; omega)
        have q3 := H.has.2.2.1.cell (j := n3 + t) (by simp; omega)
        have e1 := nth_mark_s S 4 77 hlt
        have e2 := nth_mark_s Z 4 78 hlt
        have e3 := nth_mark_s L 4 mark hlt
        rw [l1] at e1
        rw [l2] at e2
        rw [l3] at e3
        rw [e1] at q1
        rw [e2] at q2
        rw [e3] at q3
        exact ⟨H.has.1.cell 0, H.has.1.cell 1, H.has.1.cell 2, q1, q2, q3⟩
      have HK := Lib.hid hk
      obtain ⟨v4, v5, v6, q1, q2, q3⟩ := hk _ hbw
      clear hk
      have w1 : IntKind.i64.wrap ((n1 : Int) + (t : Int)) = (n1 : Int) + (t : Int) := by simp [IntKind.wrap, IntKind.bits, IntKind.signed]; omega
      have x1 : ((n1 : Int) + (t : Int)).toNat = n1 + t := by omega
      have z1 : (0 : Int) ≤ (n1 : Int) + (t : Int) := by omega
      have y1 : (n1 : Int) + (t : Int) < (n1 : Int) + 4 := by omega
      have w2 : IntKind.i64.wrap ((n2 : Int) + (t : Int)) = (n2 : Int) + (t : Int) := by simp [IntKind.wrap, IntKind.bits, IntKind.signed]; omega
      have x2 : ((n2 : Int) + (t : Int)).toNat = n2 + t := by omega
      have z2 : (0 : Int) ≤ (n2 : Int) + (t : Int) := by omega
      have y2 : (n2 : Int) + (t : Int) < (n2 : Int) + 4 := by omega
      have w3 : IntKind.i64.wrap ((n3 : Int) + (t : Int)) = (n3 : Int) + (t : Int) := by simp [IntKind.wrap, IntKind.bits, IntKind.signed]; omega
      have x3 : ((n3 : Int) + (t : Int)).toNat = n3 + t := by omega
      have z3 : (0 : Int) ≤ (n3 : Int) + (t : Int) := by omega
      have y3 : (n3 : Int) + (t : Int) < (n3 : Int) + 4 := by omega
      have hna := ahead_s
      have hme := method_s
      clear H
      go_upto_region 9 with fail
      go_region_held3 (fun w' => w'.cell? ⟨w.heap.size + 1, 0, none⟩ = some (.slice A1 n1 c1) ∧ w'.cell? ⟨w.heap.size + 1, 1, none⟩ = some (.slice A2 n2 c2) ∧ w'.cell? ⟨w.heap.size + 1, 2, none⟩ = some (.slice A3 n3 c3) ∧
          w'.cell? ⟨g1, n1 + t, none⟩ = some (.int .i64 77) ∧ w'.cell? ⟨g2, n2 + t, none⟩ = some (.int .i64 78) ∧ w'.cell? ⟨g3, n3 + t, none⟩ = some (Value.string mark))
        (first | exact ⟨v4, v5, v6, q1, q2, q3⟩ | assumption | go_keep)
        (first
          | ((go_at_call 124); (with_reducible refine (same_self_s _ _ _ rfl).mono ?_); (rintro e w1 ⟨rfl, hb1⟩); (have HA := hbw.trans (((below_refl_drewN wr.heap.size wr 1).trans hb1).mono hbw.size)); (obtain ⟨v4, v5, v6, q1, q2, q3⟩ := HK.out _ HA)))
      clear v4 v5 v6 q1 q2 q3 hna hme
      have HB := Lib.hid HA
      clear HA hb1 hbw
      go_wp2_with fail
      exact ⟨⟨t + 1, by go_num, by omega, HB.out⟩, by simp [intOf]; omega⟩
    · obtain rfl : t = 4 := by omega
      have v1 := H.has.2.1.cell 0
      have v4 := H.has.1.cell 0
      clear hbw
      go_wp2_with fail
      refine (rints_any _ A1 n1 c n1 c1 S S _ H.has.2.2.2.2.2.2.2.1 H.has.2.2.2.2.2.2.2.2.2.2.1).mono ?_
      rintro e w1 ⟨rfl, j, hw⟩
      have HA := H.drewN j
      rw [← hw] at HA
      clear hw H v1 v4
      have v2 := HA.has.2.1.cell 1
      have v5 := HA.has.1.cell 1
      go_wp2_with fail
      refine (rints_any _ A2 n2 d n2 c2 Z Z _ HA.has.2.2.2.2.2.2.1 HA.has.2.2.2.2.2.2.2.2.2.1).mono ?_
      rintro e w1 ⟨rfl, j, hw⟩
      have HB := HA.drewN j
      rw [← hw] at HB
      clear hw HA v2 v5
      have v3 := HB.has.2.1.cell 2
      have v6 := HB.has.1.cell 2
      go_wp2_with fail
      refine (cells_s _ A3 n3 k n3 c3 L L _ HB.has.2.2.2.2.2.1 HB.has.2.2.2.2.2.2.2.2.1).mono ?_
      rintro e w1 ⟨rfl, hb1⟩
      have HC := Lib.hid (HB.step hb1).bel
      clear HB hb1 v3 v6
      go_wp2_with fail
      go_ret
      exact ⟨by simp, HC.out⟩
end Go.Proofs.Ytgmchedfgdgenaa
/- What turns where three rows of the call's own are written over and gone on with. No condition. -/
namespace Go.Proofs.Ytgmchedfgdgenaa
open Go.RowKit

theorem OwnR.cast {α : Type} {enc : α → Value} {w : World} {base : Nat} {e : TypeId} {A : Option Addr} {n c : Nat} {xs ys : List α} (h : OwnR enc w base e A n c xs) (he : xs = ys) : OwnR enc w base e A n c ys := he ▸ h
/-- the three rows now, and what has turned since: blocks of S, and new ones -/
structure Spo {α β γ : Type} (ea : α → Value) (eb : β → Value) (ec : γ → Value) (w0 w : World) (S : Nat → Prop) (base : Nat) (ta tb tc : TypeId) (A : Option Addr) (n c : Nat) (X : List α) (B : Option Addr) (m d : Nat) (Y : List β) (C : Option Addr) (k e : Nat) (Z : List γ) : Prop where
  tr : Trio ea eb ec w base ta tb tc A n c X B m d Y C k e Z
  tu : Turn w0 w S
  a1 : ∀ g, A = some ⟨g, 0, none⟩ → S g ∨ w0.heap.size ≤ g
  a2 : ∀ g, B = some ⟨g, 0, none⟩ → S g ∨ w0.heap.size ≤ g
  a3 : ∀ g, C = some ⟨g, 0, none⟩ → S g ∨ w0.heap.size ≤ g
section
variable {α β γ : Type} {ea : α → Value} {eb : β → Value} {ec : γ → Value} {w0 w w' : World} {S : Nat → Prop} {base : Nat} {ta tb tc : TypeId} {A : Option Addr} {n c : Nat} {X : List α} {B : Option Addr} {m d : Nat} {Y : List β} {C : Option Addr} {k e : Nat} {Z : List γ}
theorem Spo.start (h : Trio ea eb ec w base ta tb tc A n c X B m d Y C k e Z) : Spo ea eb ec w w (fun x => A = some ⟨x, 0, none⟩ ∨ B = some ⟨x, 0, none⟩ ∨ C = some ⟨x, 0, none⟩) base ta tb tc A n c X B m d Y C k e Z :=
  ⟨h, Turn.refl _ _, fun _ e1 => .inl (.inl e1), fun _ e1 => .inl (.inr (.inl e1)), fun _ e1 => .inl (.inr (.inr e1))⟩
theorem Spo.rot (h : Spo ea eb ec w0 w S base ta tb tc A n c X B m d Y C k e Z) : Spo eb ec ea w0 w S base tb tc ta B m d Y C k e Z A n c X := ⟨h.tr.rot, h.tu, h.a2, h.a3, h.a1⟩
theorem Spo.size (h : Spo ea eb ec w0 w S base ta tb tc A n c X B m d Y C k e Z) : w0.heap.size ≤ w.heap.size := h.tu.size
theorem Spo.alloc (h : Spo ea eb ec w0 w S base ta tb tc A n c X B m d Y C k e Z) (o : Obj) : Spo ea eb ec w0 (w.alloc o) S base ta tb tc A n c X B m d Y C k e Z := ⟨h.tr.alloc o, h.tu.alloc o, h.a1, h.a2, h.a3⟩
theorem Spo.app {A' : Option Addr} {n' c' : Nat} {X' : List α} (h : Spo ea eb ec w0 w S base ta tb tc A n c X B m d Y C k e Z) (ho : OwnR ea w' base ta A' n' c' X') (hg : w.grownBy w' (Value.slice A n c).ownBlock)
    (hd : (Value.slice A' n' c').ownBlock = (Value.slice A n c).ownBlock ∨ (Value.slice A' n' c').ownBlock = some w.heap.size) : Spo ea eb ec w0 w' S base ta tb tc A' n' c' X' B m d Y C k e Z := by
  refine ⟨h.tr.app ho hg hd, h.tu.trans (Turn.of_grown hg) fun x hx e1 => ?_, fun g e1 => ?_, h.a2, h.a3⟩
  · rcases h.a1 x (h.tr.o1.block_eq e1) with h1 | h1
    · exact h1
    · omega
  · have h1 : (Value.slice A' n' c').ownBlock = some g := by rw [e1]; rfl
    rcases hd with hd | hd
    · exact h.a1 g (h.tr.o1.block_eq (by rw [← hd]; exact h1))
    · rw [h1] at hd; injection hd with hd
      have := h.tu.size
      exact .inr (by omega)
/-- a number of the first row is written -/
theorem Spo.set {g : Nat} (h : Spo ea eb ec w0 w S base ta tb tc (some ⟨g, 0, none⟩) n c X B m d Y C k e Z) {j : Nat} (hj : j < n) (v : α) :
    Spo ea eb ec w0 (w.setCell ⟨g, j, none⟩ (ea v)) S base ta tb tc (some ⟨g, 0, none⟩) n c (X.set j v) B m d Y C k e Z :=
  h.app (h.tr.o1.setAt hj v) (grown_setCell (World.grownBy.refl w _) j _) (.inl rfl)
end
end Go.Proofs.Ytgmchedfgdgenaa
