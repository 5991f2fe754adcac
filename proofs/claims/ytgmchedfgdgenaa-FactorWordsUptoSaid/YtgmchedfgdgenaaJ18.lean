/- Joined by program out of: AskAt, CellsS, One, IsS, Eq, EqFS. What each says stands at its own head. -/
import Derived.Test.YtgmchedfgdgenaaJ17
import Derived.Test.YtgmchedfgdgenaaJ13
import Derived.Deep.RegionHeld3
/- What holds in asked from its fourth line on, whatever is written into its own answers. -/
namespace Go.Proofs.Ytgmchedfgdgenaa
open Go.RowKit

theorem apartA {α : Type} [Inhabited α] {enc : α → Value} {ww : World} {A A1 : Option Addr} {n1 u g B : Nat} {xs : List α} (h : Sl enc ww A1 n1 xs) (hg : ww.heap.size ≤ g) (hlt : g < B) (o : (A = A1 ∧ u = n1) ∨ ∀ x o, A = some ⟨x, o, none⟩ → B ≤ x) : 0 < u → ∀ x o, A = some ⟨x, o, none⟩ → ¬ x = g := fun hu x of e e2 => by
  rcases o with ⟨o1, o2⟩ | o
  · obtain ⟨b, off, e3, hl, _⟩ := h.at' (by omega)
    rw [o1, e3] at e; injection e with e; injection e with e; omega
  · have := o x of e; omega
theorem apartL {α : Type} [Inhabited α] {enc : α → Value} {y : World} {A : Option Addr} {u g : Nat} {xs : List α} (h : Sl enc y A u xs) (hg : g = y.heap.size) : 0 < u → ∀ x o, A = some ⟨x, o, none⟩ → ¬ x = g := fun hu x of e e2 => by
  obtain ⟨b, off, e3, hl, _⟩ := h.at' hu
  rw [e3] at e; injection e with e; injection e with e; omega
/-- the tables a and b at three lists each, their boxes ga, gb, the fix's box gf, the copies with room, their boxes gc, gd -/
structure AskAt (w : World) (A1 A2 A3 B1 B2 B3 X : Option Addr) (n1 c1 n2 c2 n3 c3 m1 d1 m2 d2 m3 d3 nx : Nat) (fv fx : Int) (S1 Z1 S2 Z2 XS : List Int) (L1 L2 : List ByteArray) (mark : ByteArray) (ga gb gf gc gd : Nat)
    (bc bd : Nat) (M1 M2 M3 N1 N2 N3 : Option Addr) (p1 p2 p3 q1 q2 q3 : Nat) (wx : World) : Prop where
  bel : Below w.heap.size w wx
  h1 : Sl (Value.int .i64) wx A1 n1 S1
  h2 : Sl (Value.int .i64) wx A2 n2 Z1
  h3 : Sl Value.string wx A3 n3 L1
  k1 : Sl (Value.int .i64) wx B1 m1 S2
  k2 : Sl (Value.int .i64) wx B2 m2 Z2
  k3 : Sl Value.string wx B3 m3 L2
  hx : Sl (Value.int .i64) wx X nx XS
  ra : RowC wx ga 33 [.slice A1 n1 c1, .slice A2 n2 c2, .slice A3 n3 c3]
  rb : RowC wx gb 33 [.slice B1 m1 d1, .slice B2 m2 d2, .slice B3 m3 d3]
  rf : RowC wx gf 64 [.int .i64 fv, .int .i64 fx]
  rc : RowC wx gc 33 [.slice M1 n1 p1, .slice M2 n2 p2, .slice M3 n3 p3]
  rd : RowC wx gd 33 [.slice N1 m1 q1, .slice N2 m2 q2, .slice N3 m3 q3]
  tc : Trio (Value.int .i64) (Value.int .i64) Value.string wx bc 3 3 9 M1 (n1 + 4) p1 (S1 ++ List.replicate 4 77) M2 (n2 + 4) p2 (Z1 ++ List.replicate 4 78) M3 (n3 + 4) p3 (L1 ++ List.replicate 4 mark)
  td : Trio (Value.int .i64) (Value.int .i64) Value.string wx bd 3 3 9 N1 (m1 + 4) q1 (S2 ++ List.replicate 4 77) N2 (m2 + 4) q2 (Z2 ++ List.replicate 4 78) N3 (m3 + 4) q3 (L2 ++ List.replicate 4 mark)
section
variable {w : World} {A1 A2 A3 B1 B2 B3 X : Option Addr} {n1 c1 n2 c2 n3 c3 m1 d1 m2 d2 m3 d3 nx : Nat} {fv fx : Int} {S1 Z1 S2 Z2 XS : List Int} {L1 L2 : List ByteArray} {mark : ByteArray} {ga gb gf gc gd : Nat}
  {bc bd : Nat} {M1 M2 M3 N1 N2 N3 : Option Addr} {p1 p2 p3 q1 q2 q3 : Nat} {wx wy : World}
theorem AskAt.below (h : AskAt w A1 A2 A3 B1 B2 B3 X n1 c1 n2 c2 n3 c3 m1 d1 m2 d2 m3 d3 nx fv fx S1 Z1 S2 Z2 XS L1 L2 mark ga gb gf gc gd bc bd M1 M2 M3 N1 N2 N3 p1 p2 p3 q1 q2 q3 wx) (hb : Below wx.heap.size wx wy) :
    AskAt w A1 A2 A3 B1 B2 B3 X n1 c1 n2 c2 n3 c3 m1 d1 m2 d2 m3 d3 nx fv fx S1 Z1 S2 Z2 XS L1 L2 mark ga gb gf gc gd bc bd M1 M2 M3 N1 N2 N3 p1 p2 p3 q1 q2 q3 wy :=
  ⟨h.bel.trans (hb.mono h.bel.size), h.h1.below (Nat.le_refl _) hb, h.h2.below (Nat.le_refl _) hb, h.h3.below (Nat.le_refl _) hb, h.k1.below (Nat.le_refl _) hb, h.k2.below (Nat.le_refl _) hb, h.k3.below (Nat.le_refl _) hb, h.hx.below (Nat.le_refl _) hb,
    h.ra.below' hb, h.rb.below' hb, h.rf.below' hb, h.rc.below' hb, h.rd.below' hb,
    ⟨h.tc.o1.below (Nat.le_refl _) hb, h.tc.o2.below (Nat.le_refl _) hb, h.tc.o3.below (Nat.le_refl _) hb, h.tc.d12, h.tc.d13, h.tc.d23⟩,
    ⟨h.td.o1.below (Nat.le_refl _) hb, h.td.o2.below (Nat.le_refl _) hb, h.td.o3.below (Nat.le_refl _) hb, h.td.d12, h.td.d13, h.td.d23⟩⟩
/-- the copies read as the tables do -/
theorem AskAt.copy1 (h : AskAt w A1 A2 A3 B1 B2 B3 X n1 c1 n2 c2 n3 c3 m1 d1 m2 d2 m3 d3 nx fv fx S1 Z1 S2 Z2 XS L1 L2 mark ga gb gf gc gd bc bd M1 M2 M3 N1 N2 N3 p1 p2 p3 q1 q2 q3 wx) (b1 : n1 * 8 ≤ 140737488351232) (b2 : n2 * 8 ≤ 140737488351232) (b3 : n3 * 16 ≤ 140737488351232) :
    Sl (Value.int .i64) wx M1 n1 S1 ∧ Sl (Value.int .i64) wx M2 n2 Z1 ∧ Sl Value.string wx M3 n3 L1 ∧ n2 ≤ p2 :=
  ⟨OwnR.pre h.tc.o1 h.h1.len (by omega), OwnR.pre h.tc.o2 h.h2.len (by omega), OwnR.pre h.tc.o3 h.h3.len (by omega), by have := h.tc.o2.cap; omega⟩
theorem AskAt.copy2 (h : AskAt w A1 A2 A3 B1 B2 B3 X n1 c1 n2 c2 n3 c3 m1 d1 m2 d2 m3 d3 nx fv fx S1 Z1 S2 Z2 XS L1 L2 mark ga gb gf gc gd bc bd M1 M2 M3 N1 N2 N3 p1 p2 p3 q1 q2 q3 wx) (b1 : m1 * 8 ≤ 140737488351232) (b2 : m2 * 8 ≤ 140737488351232) (b3 : m3 * 16 ≤ 140737488351232) :
    Sl (Value.int .i64) wx N1 m1 S2 ∧ Sl (Value.int .i64) wx N2 m2 Z2 ∧ Sl Value.string wx N3 m3 L2 ∧ m2 ≤ q2 :=
  ⟨OwnR.pre h.td.o1 h.k1.len (by omega), OwnR.pre h.td.o2 h.k2.len (by omega), OwnR.pre h.td.o3 h.k3.len (by omega), by have := h.td.o2.cap; omega⟩
end
end Go.Proofs.Ytgmchedfgdgenaa
/- Words.Same; cellsAre[string], walked. No condition. -/
namespace Go.Proofs.Ytgmchedfgdgenaa
open Go.RowKit

theorem text_ext {a b : ByteArray} (h : a.toList = b.toList) : a = b := by
  rw [ByteArray.toList_eq, ByteArray.toList_eq] at h
  exact ByteArray.ext (Array.ext' h)
theorem Sl.cellS {w : World} {b off n j : Nat} {xs : List ByteArray} (h : Sl (Value.string) w (some ⟨b, off, none⟩) n xs) (hj : j < n) : w.cell? ⟨b, off + j, none⟩ = some (.string (nth xs j)) := by
  obtain ⟨b', off', e, _, hc⟩ := h.at' (by omega)
  injection e with e
  injection e with e1 e2
  subst e1 e2
  exact hc j hj
theorem ahead_s (w : World) : (nilAhead 280 45 (.agg #[]) "Same").run Try.prog w = .ok (some false) w := by kernel_rfl
theorem method_s (w : World) : (method 280 45 (.agg #[]) "Same").run Try.prog w = .ok (124, .agg #[]) w := by kernel_rfl
set_option maxHeartbeats 400000 in
theorem same_s (r : Value) (a b : ByteArray) (w : World) (hr : r = .agg #[]) : Calls Try.prog 124 #[r, .string a, .string b] w fun e w' => e = .returned (.bool (a.toList == b.toList)) ∧ Below w.heap.size w w' := by
  subst hr
  have H := (Held.init w).new 45 []
  have HB := Lib.hid H.bel
  clear H
  go_enter Try.func124, Try.ntmps124
  go_wp2_with fail
  go_ret
  exact ⟨rfl, HB.out⟩
set_option maxRecDepth 100000 in
set_option maxHeartbeats 400000 in
theorem cells_s (A B : Option Addr) (n c m d : Nat) (xs ys : List ByteArray) (w : World) (hx : Sl (Value.string) w A n xs) (hy : Sl (Value.string) w B m ys) :
    Calls Try.prog 34 #[.iface 45 (.agg #[]), .slice A n c, .slice B m d] w fun e w' => e = .returned (.bool (decide (xs = ys))) ∧ Below w.heap.size w w' := by
  by_cases hnn : n = m
  · subst hnn
    have HL := Lib.hid (And.intro hx.len hy.len)
    have hbig := hx.big
    have H0 := ((Held.init w).sl hx).sl hy
    clear hx hy
    go_enter Try.func34, Try.ntmps34
    go_wp2_with fail
    go_loopw [7] (fun i wr => ∃ k : Nat, k ≤ n ∧ i = .int .i64 k ∧ Held w (fun w' => Sl (Value.string) w' B n ys ∧ Sl (Value.string) w' A n xs ∧ True) wr ∧ ∀ j, j < k → nth xs j = nth ys j) (fun i _ => n - (intOf i).toNat)
    case atStart => exact ⟨0, Nat.zero_le _, rfl, H0, by intro j hj; omega⟩
    case round =>
      obtain ⟨k, hk, rfl, H, heq⟩ := hrel
      have HQ := Lib.hid heq; clear heq H0
      by_cases hlt : k < n
      · obtain ⟨b, off, rfl, hb, hc⟩ := H.has.2.1.at' (by omega)
        obtain ⟨b', off', rfl, hb', hc'⟩ := H.has.1.at' (by omega)
        have g1 := hc k hlt
        have g2 := hc' k hlt
        clear hc hc'
        go_wp2_with fail
        have HD := Lib.hid H.drew
        have hna := ahead_s
        have hme := method_s
        go_region_held3 (fun w' => w'.cell? ⟨b, off + k, none⟩ = some (.string (nth xs k)) ∧ w'.cell? ⟨b', off' + k, none⟩ = some (.string (nth ys k)))
          (first | exact ⟨g1, g2⟩ | assumption | go_keep)
          (first
            | ((go_at_call 124); (with_reducible refine (same_s _ _ _ _ rfl).mono ?_); (rintro e w1 ⟨rfl, hb1⟩); (have H1 := HD.out.step hb1); (have g1 := H1.has.2.1.cellS hlt); (have g2 := H1.has.1.cellS hlt)))
        rcases hbe : ((nth xs k).toList == (nth ys k).toList) with _ | _
        · clear g1 g2
          go_wp2_with fail
          go_ret
          have hne : xs ≠ ys := by rintro rfl; simp at hbe
          exact ⟨ret_bool (by simp [hne]), H1.bel⟩
        · have he : nth xs k = nth ys k := text_ext (by simpa using hbe)
          clear g1 g2
          go_wp2_with fail
          go_roundw
          case rel => exact ⟨k + 1, by omega, by go_num, H1, fun j hj => by
            by_cases h : j < k
            · exact HQ.out j h
            · obtain rfl : j = k := by omega
              exact he⟩
          case measure => simp [intOf]; omega
      · go_wp2_with fail
        go_ret
        have : xs = ys := nth_ext (by rw [HL.out.1, HL.out.2]) (fun j hj => HQ.out j (by have := HL.out.1; omega))
        exact ⟨ret_bool (by simp [this]), H.bel⟩
  · have hne : ((n : Int) != (m : Int)) = true := by rw [bne_iff_ne]; omega
    have lx := hx.len
    have ly := hy.len
    clear hx hy
    go_enter Try.func34, Try.ntmps34
    go_wp2_with fail
    go_ret
    have : xs ≠ ys := by intro h; rw [h] at lx; omega
    exact ⟨ret_bool (by simp [this]), Below.refl _ _⟩
/-- whether two things are the same, as the ring has it -/
def sameF_s (a b : ByteArray) : Bool := (a.toList == b.toList)
theorem sameC_s (a b : ByteArray) (w : World) : Calls Try.prog 124 #[.agg #[], .string a, .string b] w fun e w' => e = .returned (.bool (sameF_s a b)) ∧ Below w.heap.size w w' := same_s _ a b w rfl
end Go.Proofs.Ytgmchedfgdgenaa
/- factor.One[int], walked. No condition. -/
namespace Go.Proofs.Ytgmchedfgdgenaa
open Go.RowKit

theorem OwnR.lit1 (w : World) (x : Int) : OwnR (Value.int .i64) (w.alloc (.cells #[.int .i64 x] 3)) w.heap.size 3 (some ⟨w.heap.size, 0, none⟩) 1 1 [x] := by
  have hr : RowAt (Value.int .i64) (w.alloc (.cells #[.int .i64 x] 3)) w.heap.size 3 [x] [] := RowC.new w 3 [.int .i64 x]
  exact OwnR.of_row' hr (Nat.le_refl _) rfl (by unfold maxLen; simp) rfl
set_option maxHeartbeats 400000 in
theorem one_any (x : Int) (w : World) : Calls Try.prog 15 #[.int .i64 x] w fun e w' => ∃ A c, e = .returned (.agg #[.slice none 0 0, .slice none 0 0, .slice A 1 c]) ∧ OwnR (Value.int .i64) w' w.heap.size 3 A 1 c [x] ∧ Below w.heap.size w w' := by
  have H1 := (Held.init w).new 24 [.slice none 0 0, .slice none 0 0, .slice (some ⟨w.heap.size + 1, 0, none⟩) 1 1]
  have H := H1.new 3 [.int .i64 x]
  have ho := OwnR.lit1 (w.alloc (.cells #[.slice none 0 0, .slice none 0 0, .slice (some ⟨w.heap.size + 1, 0, none⟩) 1 1] 24)) x
  rw [show (w.alloc (.cells #[.slice none 0 0, .slice none 0 0, .slice (some ⟨w.heap.size + 1, 0, none⟩) 1 1] 24)).heap.size = w.heap.size + 1 from by simp] at ho
  have c0 := H.has.2.1.cell 0
  have c1 := H.has.2.1.cell 1
  have c2 := H.has.2.1.cell 2
  have HB := Lib.hid (And.intro ho H.bel)
  clear H H1 ho
  go_enter Try.func15, Try.ntmps15
  go_wp2_with fail
  exact bodyPost_ret (v := .agg #[.slice none 0 0, .slice none 0 0, .slice (some ⟨w.heap.size + 1, 0, none⟩) 1 1]) (by simp [results, Try.results15, go_sem, c0, c1, c2]) rfl ⟨_, _, rfl, HB.out.1.mono (by omega), HB.out.2⟩
end Go.Proofs.Ytgmchedfgdgenaa
/- credencelaw13.is[string], walked. No condition. -/
namespace Go.Proofs.Ytgmchedfgdgenaa
open Go.RowKit

set_option maxRecDepth 100000 in
set_option maxHeartbeats 400000 in
theorem is_s (A1 A2 A3 B1 B2 C : Option Addr) (n1 c1 n2 c2 n3 c3 m1 d1 m2 d2 m3 d3 : Nat) (k : Int) (S Z S' Z' : List Int) (xs ys : List ByteArray) (w : World)
    (h1 : Sl (Value.int .i64) w A1 n1 S) (h2 : Sl (Value.int .i64) w A2 n2 Z) (h3 : Sl Value.string w A3 n3 xs) (k1 : Sl (Value.int .i64) w B1 m1 S') (k2 : Sl (Value.int .i64) w B2 m2 Z') (k3 : Sl Value.string w C m3 ys) :
    Calls Try.prog 17 #[.iface 45 (.agg #[]), .agg #[.slice A1 n1 c1, .slice A2 n2 c2, .slice A3 n3 c3], .agg #[.slice B1 m1 d1, .slice B2 m2 d2, .int .i64 k], .slice C m3 d3] w
      fun e w' => e = .returned (.bool (decide (S = S') && decide (Z = Z') && decide (xs = ys))) ∧ Below w.heap.size w w' := by
  have H1 := (((((((Held.init w).sl h1).sl h2).sl h3).sl k1).sl k2).sl k3).new 33 [.slice A1 n1 c1, .slice A2 n2 c2, .slice A3 n3 c3]
  have H := H1.new 29 [.slice B1 m1 d1, .slice B2 m2 d2, .int .i64 k]
  rw [show (w.alloc (.cells [.slice A1 n1 c1, .slice A2 n2 c2, .slice A3 n3 c3].toArray 33)).heap.size = w.heap.size + 1 from by simp] at H
  clear H1 h1 h2 h3 k1 k2 k3
  have r0 := H.has.2.1.cell 0
  have r1 := H.has.2.1.cell 1
  have r2 := H.has.2.1.cell 2
  have t0 := H.has.1.cell 0
  have t1 := H.has.1.cell 1
  go_enter Try.func17, Try.ntmps17
  go_wp2_with fail
  refine (rints_any A1 B1 n1 c1 m1 d1 S S' _ H.has.2.2.2.2.2.2.2.1 H.has.2.2.2.2.1).mono ?_
  rintro e w1 ⟨rfl, j, hw⟩
  have HA := H.drewN j
  rw [← hw] at HA
  clear hw
  generalize hS : decide (S = S') = b1
  cases b1
  · have HF := Lib.hid HA
    clear HA H
    go_wp2_with fail
    go_ret
    exact ⟨by rw [hS]; rfl, HF.out.bel⟩
  · have r0 := HA.has.2.1.cell 0
    have r1 := HA.has.2.1.cell 1
    have r2 := HA.has.2.1.cell 2
    have t0 := HA.has.1.cell 0
    have t1 := HA.has.1.cell 1
    clear H
    go_wp2_with fail
    refine (rints_any A2 B2 n2 c2 m2 d2 Z Z' _ HA.has.2.2.2.2.2.2.1 HA.has.2.2.2.1).mono ?_
    rintro e w2 ⟨rfl, j', hw⟩
    have HB := HA.drewN j'
    rw [← hw] at HB
    clear hw
    generalize hZ : decide (Z = Z') = b2
    cases b2
    · have HF := Lib.hid HB
      clear HA HB
      go_wp2_with fail
      go_ret
      exact ⟨by rw [hS, hZ]; rfl, HF.out.bel⟩
    · have r2 := HB.has.2.1.cell 2
      clear HA
      go_wp2_with fail
      refine (cells_s A3 C n3 c3 m3 d3 xs ys _ HB.has.2.2.2.2.2.1 HB.has.2.2.1).mono ?_
      rintro e w1 ⟨rfl, hb⟩
      have HF := Lib.hid (HB.step hb)
      clear HB hb
      go_wp2_with fail
      go_ret
      exact ⟨by rw [hS, hZ]; rfl, HF.out.bel⟩
end Go.Proofs.Ytgmchedfgdgenaa
/- slices.Equal at ints, walked. No condition. -/
namespace Go.Proofs.Ytgmchedfgdgenaa
open Go.RowKit

set_option maxRecDepth 100000 in
theorem equal_i (A A' : Option Addr) (n c n' c' : Nat) (xs ys : List Int) (w : World) (hx : Sl (Value.int .i64) w A n xs) (hy : Sl (Value.int .i64) w A' n' ys) :
    Calls Try.prog 73 #[.slice A n c, .slice A' n' c'] w fun e w' => e = .returned (.bool (decide (xs = ys))) ∧ ∃ k, w' = w.drewN k := by
  obtain ⟨lx, bx, ax⟩ := hx
  obtain ⟨ly, bY, ay⟩ := hy
  by_cases hnn : n = n'
  · subst hnn
    have HL := Lib.hid (And.intro lx ly); clear lx ly
    go_enter Try.func73, Try.ntmps73
    go_wp2
    go_loopw [13] (fun i wr => ∃ k m : Nat, k ≤ n ∧ i = .int .i64 k ∧ wr = w.drewN m ∧ ∀ j, j < k → nth xs j = nth ys j) (fun i _ => n - (intOf i).toNat)
    case atStart => exact ⟨0, 0, Nat.zero_le _, rfl, rfl, by intro j hj; omega⟩
    case round =>
      obtain ⟨k, m, hk, rfl, rfl, heq⟩ := hrel
      have HQ := Lib.hid heq; clear heq
      by_cases hlt : k < n
      · obtain ⟨b, off, rfl, hb, hc⟩ := ax (by omega)
        obtain ⟨b', off', rfl, hb', hc'⟩ := ay (by omega)
        have g1 := hc k hlt
        have g2 := hc' k hlt
        clear hc hc' ax ay
        go_wp2
        go_quiet (fail)
        go_wp2
        · go_ret
          refine ⟨ret_bool ?_, ⟨_, World.drewN_drewN _ _ _⟩⟩
          have hne : nth xs k ≠ nth ys k := by
            have h : (nth xs k != nth ys k) = true := by assumption
            simpa using h
          have : xs ≠ ys := by rintro rfl; exact hne rfl
          simp [this]
        · have he : nth xs k = nth ys k := by
            have h : (nth xs k != nth ys k) = false := by assumption
            simpa using h
          go_roundw
          case rel => exact ⟨k + 1, m + nq, by omega, by go_num, rfl, fun j hj => by
            by_cases h : j < k
            · exact HQ.out j h
            · obtain rfl : j = k := by omega
              exact he⟩
          case measure => simp [intOf]; omega
      · clear ax ay
        go_wp2
        go_ret
        refine ⟨ret_bool ?_, ⟨_, rfl⟩⟩
        have : xs = ys := nth_ext (by rw [HL.out.1, HL.out.2]) (fun j hj => HQ.out j (by have := HL.out.1; omega))
        simp [this]
  · have hne : ((n : Int) != (n' : Int)) = true := by rw [bne_iff_ne]; omega
    go_enter Try.func73, Try.ntmps73
    go_wp2
    go_ret
    refine ⟨ret_bool ?_, 0, rfl⟩
    have : xs ≠ ys := by intro h; rw [h] at lx; omega
    simp [this]

end Go.Proofs.Ytgmchedfgdgenaa
/- slices.EqualFunc with a ring's Same at string, walked. No condition. -/
namespace Go.Proofs.Ytgmchedfgdgenaa
open Go.RowKit
attribute [local go_sem] Oper.semAt_some

theorem aheadSame_s (w : World) : (nilAhead 280 45 (.agg #[]) "Same").run Try.prog w = .ok (some false) w := by kernel_rfl
theorem methodSame_s (w : World) : (method 280 45 (.agg #[]) "Same").run Try.prog w = .ok (124, .agg #[]) w := by kernel_rfl
/-- whether two lists are the same, thing by thing -/
def eqB_s (xs ys : List ByteArray) : Bool := (xs.length == ys.length) && (List.range xs.length).all fun j => sameF_s (nth xs j) (nth ys j)
theorem eqB_true_s {xs ys : List ByteArray} (h : xs.length = ys.length) (h2 : ∀ j, j < xs.length → sameF_s (nth xs j) (nth ys j) = true) : eqB_s xs ys = true := by
  unfold eqB_s
  rw [h, beq_self_eq_true, Bool.true_and, List.all_eq_true]
  intro j hj
  exact h2 j (by rw [h]; exact List.mem_range.1 hj)
theorem eqB_false_s {xs ys : List ByteArray} {j : Nat} (hj : j < xs.length) (h : sameF_s (nth xs j) (nth ys j) = false) : eqB_s xs ys = false := by
  unfold eqB_s
  rw [Bool.and_eq_false_iff]
  refine .inr ?_
  rw [List.all_eq_false]
  exact ⟨j, List.mem_range.2 hj, by rw [h]; simp⟩
theorem eqB_len_s {xs ys : List ByteArray} (h : xs.length ≠ ys.length) : eqB_s xs ys = false := by
  unfold eqB_s
  rw [beq_eq_false_iff_ne.2 h, Bool.false_and]
set_option maxRecDepth 100000 in
set_option maxHeartbeats 400000 in
theorem eqf_s (A B : Option Addr) (n c m d : Nat) (xs ys : List ByteArray) (w : World) (hx : Sl (Value.string) w A n xs) (hy : Sl (Value.string) w B m ys) :
    Calls Try.prog 86 #[.slice A n c, .slice B m d, .func (.method "Same") #[.iface 45 (.agg #[])] #[]] w fun e w' => e = .returned (.bool (eqB_s xs ys)) ∧ Below w.heap.size w w' := by
  by_cases hnn : n = m
  · subst hnn
    have HL := Lib.hid (And.intro hx.len hy.len)
    have hbig := hx.big
    have H0 := ((Held.init w).sl hx).sl hy
    clear hx hy
    go_enter Try.func86, Try.ntmps86
    go_wp2_with fail
    go_loopw [17] (fun i wr => ∃ k : Nat, k ≤ n ∧ i = .int .i64 k ∧ Held w (fun w' => Sl (Value.string) w' B n ys ∧ Sl (Value.string) w' A n xs ∧ True) wr ∧ ∀ j, j < k → sameF_s (nth xs j) (nth ys j) = true) (fun i _ => n - (intOf i).toNat)
    case atStart => exact ⟨0, Nat.zero_le _, rfl, H0, by intro j hj; omega⟩
    case round =>
      obtain ⟨k, hk, rfl, H, heq⟩ := hrel
      have HQ := Lib.hid heq; clear heq H0
      by_cases hlt : k < n
      · obtain ⟨b, off, rfl, hb, hc⟩ := H.has.2.1.at' (by omega)
        obtain ⟨b', off', rfl, hb', hc'⟩ := H.has.1.at' (by omega)
        have g1 := hc k hlt
        have g2 := hc' k hlt
        clear hc hc'
        have hna := aheadSame_s
        have hme := methodSame_s
        go_wp2_with fail
        refine (sameC_s _ _ _).mono ?_
        rintro e w1 ⟨rfl, hb1⟩
        have H1 := H.step hb1
        have HB := Lib.hid H1
        clear H H1 hb1 g1 g2 hna hme
        rcases hbe : sameF_s (nth xs k) (nth ys k) with _ | _
        · have HE := Lib.hid (eqB_false_s (by rw [HL.out.1]; exact hlt) hbe)
          clear hbe
          go_wp2_with fail
          go_ret
          exact ⟨ret_bool HE.out.symm, HB.out.bel⟩
        · have HE := Lib.hid hbe
          clear hbe
          go_wp2_with fail
          exact ⟨⟨k + 1, by omega, by go_num, HB.out, fun j hj => by
            by_cases h : j < k
            · exact HQ.out j h
            · obtain rfl : j = k := by omega
              exact HE.out⟩, by simp [intOf]; omega⟩
      · have HB := Lib.hid H
        clear H
        go_wp2_with fail
        go_ret
        exact ⟨ret_bool (eqB_true_s (by rw [HL.out.1, HL.out.2]) (fun j hj => HQ.out j (by have := HL.out.1; omega))).symm, HB.out.bel⟩
  · have hne : ((n : Int) != (m : Int)) = true := by rw [bne_iff_ne]; omega
    have HE := Lib.hid (eqB_len_s (xs := xs) (ys := ys) (by rw [hx.len, hy.len]; exact hnn))
    clear hx hy
    go_enter Try.func86, Try.ntmps86
    go_wp2_with fail
    go_ret
    exact ⟨ret_bool HE.out.symm, Below.refl _ _⟩
end Go.Proofs.Ytgmchedfgdgenaa
