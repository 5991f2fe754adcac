/- credencelaw11.SetGrows, walked: it returns true. Condition: the slices read as lists. -/
import Derived.Test.YtpacnpiiahchiaaRef2
import Derived.Test.YtpacnpiiahchiaaInsI
import Derived.Deep.RegionHeld3
import Derived.Deep.RegionLaw
import Derived.Deep.DeepCutAuto
import Derived.StillTailTactics
import Derived.IntWalk
import Derived.Deep.DrawnRows
namespace Go.Proofs.Ytpacnpiiahchiaa.Grows
open Go.RowKit
attribute [local go_sem ↓] Go.wp_at_zero Go.wp_at_succ

/-- things put in, in turn -/
def put1 (L ys : List Int) (k : Nat) : List Int := (ys.take k).foldl (fun acc x => ins cmpI x acc) L
/-- one taken out, its next put in -/
def turn1 (acc : List Int) (y : Int) : List Int := ins cmpI (IntKind.i64.wrap (y + 1)) (rem cmpI y acc)
def put2 (L zs : List Int) (k : Nat) : List Int := (zs.take k).foldl turn1 L
theorem put1_zero (L ys : List Int) : put1 L ys 0 = L := by simp [put1]
theorem put2_zero (L zs : List Int) : put2 L zs 0 = L := by simp [put2]
theorem put1_succ {L ys : List Int} {k : Nat} (h : k < ys.length) : put1 L ys (k + 1) = ins cmpI (nth ys k) (put1 L ys k) := by
  unfold put1; rw [take_snoc h, List.foldl_append]; rfl
theorem put2_succ {L zs : List Int} {k : Nat} (h : k < zs.length) : put2 L zs (k + 1) = ins cmpI (IntKind.i64.wrap (nth zs k + 1)) (rem cmpI (nth zs k) (put2 L zs k)) := by
  unfold put2; rw [take_snoc h, List.foldl_append]; rfl
theorem put1_past {L ys : List Int} {k : Nat} (h : ys.length ≤ k) : put1 L ys (k + 1) = put1 L ys k := by
  unfold put1; rw [List.take_of_length_le h, List.take_of_length_le (by omega)]
theorem put2_past {L ys : List Int} {k : Nat} (h : ys.length ≤ k) : put2 L ys (k + 1) = put2 L ys k := by
  unfold put2; rw [List.take_of_length_le h, List.take_of_length_le (by omega)]
theorem rem_length (y : Int) (l : List Int) : (rem cmpI y l).length ≤ l.length := List.length_filter_le _ _
theorem put1_ok {L ys : List Int} (hL : Asc cmpI L) : ∀ k, k ≤ ys.length → Asc cmpI (put1 L ys k) ∧ (put1 L ys k).length ≤ L.length + k
  | 0, _ => by rw [put1_zero]; exact ⟨hL, by omega⟩
  | k + 1, h => by
    obtain ⟨h1, h2⟩ := put1_ok (ys := ys) hL k (by omega)
    rw [put1_succ (show k < ys.length by omega)]
    have := ins_length_le (c := cmpI) (nth ys k) (put1 L ys k)
    exact ⟨asc_ins cmpokI h1, by omega⟩
theorem put2_ok {L zs : List Int} (hL : Asc cmpI L) : ∀ k, k ≤ zs.length → Asc cmpI (put2 L zs k) ∧ (put2 L zs k).length ≤ L.length + k
  | 0, _ => by rw [put2_zero]; exact ⟨hL, by omega⟩
  | k + 1, h => by
    obtain ⟨h1, h2⟩ := put2_ok (zs := zs) hL k (by omega)
    rw [put2_succ (show k < zs.length by omega)]
    have h3 := ins_length_le (c := cmpI) (IntKind.i64.wrap (nth zs k + 1)) (rem cmpI (nth zs k) (put2 L zs k))
    have h4 := rem_length (nth zs k) (put2 L zs k)
    exact ⟨asc_ins cmpokI (asc_rem h1), by omega⟩
theorem put1_all {L ys : List Int} (hL : Asc cmpI L) (k : Nat) : Asc cmpI (put1 L ys k) ∧ (put1 L ys k).length ≤ L.length + ys.length := by
  rcases Nat.le_total k ys.length with h | h
  · obtain ⟨h1, h2⟩ := put1_ok (ys := ys) hL k h
    exact ⟨h1, by omega⟩
  · have e : put1 L ys k = put1 L ys ys.length := by unfold put1; rw [List.take_of_length_le h, List.take_length]
    rw [e]; exact put1_ok hL _ (Nat.le_refl _)
theorem put2_all {L ys : List Int} (hL : Asc cmpI L) (k : Nat) : Asc cmpI (put2 L ys k) ∧ (put2 L ys k).length ≤ L.length + ys.length := by
  rcases Nat.le_total k ys.length with h | h
  · obtain ⟨h1, h2⟩ := put2_ok (zs := ys) hL k h
    exact ⟨h1, by omega⟩
  · have e : put2 L ys k = put2 L ys ys.length := by unfold put2; rw [List.take_of_length_le h, List.take_length]
    rw [e]; exact put2_ok hL _ (Nat.le_refl _)
theorem some_rem (y : Int) (l : List Int) : someOf (ins cmpI y []) false l = rem cmpI y l := by
  unfold someOf rem
  congr 1
  funext z
  have e : ins cmpI y [] = [y] := rfl
  rw [e]
  have h := cmpI_zero z y
  by_cases hz : z = y
  · subst hz
    have h0 : cmpI z z = 0 := by rw [h]
    simp [h0]
  · have h0 : ¬ cmpI z y = 0 := by rw [h]; exact hz
    simp [h0, hz]

/-- a list of ints does not lie in a box, so it stays when the box is filled anew -/
theorem Sl.box {w : World} {A A' : Option Addr} {n n' c' g : Nat} {e : TypeId} {xs : List Int} (h : Sl (Value.int .i64) w A n xs) (hr : RowC w g e [.slice A' n' c']) (u : Value) : Sl (Value.int .i64) (w.setCell ⟨g, 0, none⟩ u) A n xs := by
  refine ⟨h.len, h.big, fun hn => ?_⟩
  obtain ⟨b, off, e1, hb, hc⟩ := h.at' hn
  refine ⟨b, off, e1, by simpa [World.setCell] using hb, fun j hj => ?_⟩
  have hne : b ≠ g := by
    rintro rfl
    have h1 := hc 0 hn
    rw [Nat.add_zero, hr.cell off] at h1
    rcases off with _ | off <;> simp at h1
  rw [World.cell?_setCell_far _ _ _ _ (by rintro h; exact hne h.symm)]
  exact hc j hj

theorem rwith_sl (A : Option Addr) (n c : Nat) (xs : List Int) (x : Int) (w : World) (hx : Sl (Value.int .i64) w A n xs) (hb : n ≤ 100000) :
    Calls Try.prog 23 #[.slice A n c, .int .i64 x] w fun e w' => ∃ A' k c', e = .returned (.slice A' k c') ∧ Sl (Value.int .i64) w' A' k (ins cmpI x xs) ∧ Below w.heap.size w w' := by
  refine (rwith_any A n c xs x w hx hb).mono ?_
  rintro e w' ⟨A', c', rfl, how, hbe⟩
  have hl := ins_length_le (c := cmpI) x xs
  exact ⟨A', _, c', rfl, how.sl (by have := hx.len; omega), hbe⟩
theorem ints_same (A A' : Option Addr) (n c n' c' : Nat) (xs : List Int) (w : World) (hx : Sl (Value.int .i64) w A n xs) (hy : Sl (Value.int .i64) w A' n' xs) :
    Calls Try.prog 15 #[.slice A n c, .slice A' n' c'] w fun e w' => e = .returned (.bool true) ∧ ∃ k, w' = w.drewN k := by
  refine (ints_any A A' n c n' c' xs xs w hx hy).mono ?_
  rintro e w' ⟨he, hk⟩
  exact ⟨by rw [he, decide_eq_true (rfl : xs = xs)], hk⟩
theorem Sl.cellAt {w : World} {b off n j : Nat} {xs : List Int} (h : Sl (Value.int .i64) w (some ⟨b, off, none⟩) n xs) (hj : j < n) : w.cell? ⟨b, off + j, none⟩ = some (.int .i64 (nth xs j)) := by
  obtain ⟨b', off', e, _, hc⟩ := h.at' (by omega)
  injection e with e
  injection e with e1 e2
  subst e1 e2
  exact hc j hj
/-- what stands at the head of each round -/
structure St (w wr : World) (p1 p9 p10 : Nat) (B1 : Option Addr) (k1 d1 : Nat) (R1 : Option Addr) (m1 : Nat) (A2 A3 : Option Addr) (n2 n3 : Nat) (L ys zs : List Int)
    (B9 : Option Addr) (n9 d9 : Nat) (M9 : List Int) (R9 : Option Addr) (m9 : Nat) (N9 : List Int) (B10 : Option Addr) (n10 d10 : Nat) (M10 : List Int) (R10 : Option Addr) (m10 : Nat) (N10 : List Int) : Prop where
  q1 : RowC wr p1 25 [.slice B1 k1 d1]
  q9 : RowC wr p9 25 [.slice B9 n9 d9]
  q10 : RowC wr p10 25 [.slice B10 n10 d10]
  s1 : Sl (Value.int .i64) wr B1 k1 L
  r1 : Sl (Value.int .i64) wr R1 m1 L
  a2 : Sl (Value.int .i64) wr A2 n2 ys
  a3 : Sl (Value.int .i64) wr A3 n3 zs
  s9 : Sl (Value.int .i64) wr B9 n9 M9
  r9 : Sl (Value.int .i64) wr R9 m9 N9
  s10 : Sl (Value.int .i64) wr B10 n10 M10
  r10 : Sl (Value.int .i64) wr R10 m10 N10
  bel : Below w.heap.size w wr
  ne19 : p1 ≠ p9
  ne110 : p1 ≠ p10
  ne : p9 ≠ p10
  le9 : w.heap.size ≤ p9
  le10 : w.heap.size ≤ p10

section
variable {w wr wr' : World} {p1 p9 p10 : Nat} {B1 : Option Addr} {k1 d1 : Nat} {R1 : Option Addr} {m1 : Nat} {A2 A3 : Option Addr} {n2 n3 : Nat} {L ys zs : List Int}
    {B9 : Option Addr} {n9 d9 : Nat} {M9 : List Int} {R9 : Option Addr} {m9 : Nat} {N9 : List Int} {B10 : Option Addr} {n10 d10 : Nat} {M10 : List Int} {R10 : Option Addr} {m10 : Nat} {N10 : List Int}
theorem St.below (h : St w wr p1 p9 p10 B1 k1 d1 R1 m1 A2 A3 n2 n3 L ys zs B9 n9 d9 M9 R9 m9 N9 B10 n10 d10 M10 R10 m10 N10) (hb : Below wr.heap.size wr wr') :
    St w wr' p1 p9 p10 B1 k1 d1 R1 m1 A2 A3 n2 n3 L ys zs B9 n9 d9 M9 R9 m9 N9 B10 n10 d10 M10 R10 m10 N10 where
  q1 := h.q1.below' hb
  q9 := h.q9.below' hb
  q10 := h.q10.below' hb
  s1 := h.s1.below (Nat.le_refl _) hb
  r1 := h.r1.below (Nat.le_refl _) hb
  a2 := h.a2.below (Nat.le_refl _) hb
  a3 := h.a3.below (Nat.le_refl _) hb
  s9 := h.s9.below (Nat.le_refl _) hb
  r9 := h.r9.below (Nat.le_refl _) hb
  s10 := h.s10.below (Nat.le_refl _) hb
  r10 := h.r10.below (Nat.le_refl _) hb
  bel := h.bel.trans (hb.mono h.bel.size)
  ne19 := h.ne19
  ne110 := h.ne110
  ne := h.ne
  le9 := h.le9
  le10 := h.le10
theorem St.drew (h : St w wr p1 p9 p10 B1 k1 d1 R1 m1 A2 A3 n2 n3 L ys zs B9 n9 d9 M9 R9 m9 N9 B10 n10 d10 M10 R10 m10 N10) :
    St w wr.drew p1 p9 p10 B1 k1 d1 R1 m1 A2 A3 n2 n3 L ys zs B9 n9 d9 M9 R9 m9 N9 B10 n10 d10 M10 R10 m10 N10 :=
  h.below (below_drewN (Below.refl _ _) 1)
theorem St.drewN (h : St w wr p1 p9 p10 B1 k1 d1 R1 m1 A2 A3 n2 n3 L ys zs B9 n9 d9 M9 R9 m9 N9 B10 n10 d10 M10 R10 m10 N10) (k : Nat) :
    St w (wr.drewN k) p1 p9 p10 B1 k1 d1 R1 m1 A2 A3 n2 n3 L ys zs B9 n9 d9 M9 R9 m9 N9 B10 n10 d10 M10 R10 m10 N10 :=
  h.below (below_drewN (Below.refl _ _) k)
/-- box 9 filled anew -/
theorem St.put9 (h : St w wr p1 p9 p10 B1 k1 d1 R1 m1 A2 A3 n2 n3 L ys zs B9 n9 d9 M9 R9 m9 N9 B10 n10 d10 M10 R10 m10 N10) {B : Option Addr} {n d : Nat} {M : List Int} (hs : Sl (Value.int .i64) wr B n M) :
    St w (wr.setCell ⟨p9, 0, none⟩ (.slice B n d)) p1 p9 p10 B1 k1 d1 R1 m1 A2 A3 n2 n3 L ys zs B n d M R9 m9 N9 B10 n10 d10 M10 R10 m10 N10 where
  q1 := h.q1.far h.ne19 _
  q9 := h.q9.put 0 _
  q10 := h.q10.far (Ne.symm h.ne) _
  s1 := Sl.box h.s1 h.q9 _
  r1 := Sl.box h.r1 h.q9 _
  a2 := Sl.box h.a2 h.q9 _
  a3 := Sl.box h.a3 h.q9 _
  s9 := Sl.box hs h.q9 _
  r9 := Sl.box h.r9 h.q9 _
  s10 := Sl.box h.s10 h.q9 _
  r10 := Sl.box h.r10 h.q9 _
  bel := h.bel.setCell h.le9 _
  ne19 := h.ne19
  ne110 := h.ne110
  ne := h.ne
  le9 := h.le9
  le10 := h.le10
/-- box 10 filled anew -/
theorem St.put10 (h : St w wr p1 p9 p10 B1 k1 d1 R1 m1 A2 A3 n2 n3 L ys zs B9 n9 d9 M9 R9 m9 N9 B10 n10 d10 M10 R10 m10 N10) {B : Option Addr} {n d : Nat} {M : List Int} (hs : Sl (Value.int .i64) wr B n M) :
    St w (wr.setCell ⟨p10, 0, none⟩ (.slice B n d)) p1 p9 p10 B1 k1 d1 R1 m1 A2 A3 n2 n3 L ys zs B9 n9 d9 M9 R9 m9 N9 B n d M R10 m10 N10 where
  q1 := h.q1.far h.ne110 _
  q9 := h.q9.far h.ne _
  q10 := h.q10.put 0 _
  s1 := Sl.box h.s1 h.q10 _
  r1 := Sl.box h.r1 h.q10 _
  a2 := Sl.box h.a2 h.q10 _
  a3 := Sl.box h.a3 h.q10 _
  s9 := Sl.box h.s9 h.q10 _
  r9 := Sl.box h.r9 h.q10 _
  s10 := Sl.box hs h.q10 _
  r10 := Sl.box h.r10 h.q10 _
  bel := h.bel.setCell h.le10 _
  ne19 := h.ne19
  ne110 := h.ne110
  ne := h.ne
  le9 := h.le9
  le10 := h.le10
theorem St.ref9 (h : St w wr p1 p9 p10 B1 k1 d1 R1 m1 A2 A3 n2 n3 L ys zs B9 n9 d9 M9 R9 m9 N9 B10 n10 d10 M10 R10 m10 N10) {R : Option Addr} {m : Nat} {N : List Int} (hs : Sl (Value.int .i64) wr R m N) :
    St w wr p1 p9 p10 B1 k1 d1 R1 m1 A2 A3 n2 n3 L ys zs B9 n9 d9 M9 R m N B10 n10 d10 M10 R10 m10 N10 := { h with r9 := hs }
theorem St.ref10 (h : St w wr p1 p9 p10 B1 k1 d1 R1 m1 A2 A3 n2 n3 L ys zs B9 n9 d9 M9 R9 m9 N9 B10 n10 d10 M10 R10 m10 N10) {R : Option Addr} {m : Nat} {N : List Int} (hs : Sl (Value.int .i64) wr R m N) :
    St w wr p1 p9 p10 B1 k1 d1 R1 m1 A2 A3 n2 n3 L ys zs B9 n9 d9 M9 R9 m9 N9 B10 n10 d10 M10 R m N := { h with r10 := hs }
end

set_option maxRecDepth 100000 in
set_option maxHeartbeats 16000000 in
theorem law (A1 A2 A3 : Option Addr) (n1 n2 n3 c1 c2 c3 : Nat) (xs ys zs : List Int) (w : World) (h1 : Sl (Value.int .i64) w A1 n1 xs) (h2 : Sl (Value.int .i64) w A2 n2 ys) (h3 : Sl (Value.int .i64) w A3 n3 zs) :
    Calls Try.prog 5 #[.slice A1 n1 c1, .slice A2 n2 c2, .slice A3 n3 c3] w fun e w' => e = .returned (.bool true) ∧ Below w.heap.size w w' := by
  obtain ⟨L, hL⟩ : ∃ L, L = setOf cmpI xs := ⟨_, rfl⟩
  have hLl : L.length ≤ xs.length := by rw [hL]; exact setOf_length_le (c := cmpI) xs
  have hasc : Asc cmpI L := by rw [hL]; exact asc_setOf cmpokI xs
  have HL := Lib.hid (And.intro hL (And.intro hLl (And.intro hasc (And.intro h1.len (And.intro h2.len h3.len))))); clear hL hLl hasc
  go_enter Try.func5, Try.ntmps5
  by_cases hn1 : 100 < n1
  · go_wp2_with fail
    go_ret
    exact ⟨rfl, Below.refl _ _⟩
  have hn1' : decide (100 < n1) = false := by simpa using hn1
  by_cases hn2 : 100 < n2
  · go_wp2_with fail
    go_ret
    exact ⟨rfl, Below.refl _ _⟩
  have hn2' : decide (100 < n2) = false := by simpa using hn2
  by_cases hn3 : 100 < n3
  · go_wp2_with fail
    go_ret
    exact ⟨rfl, Below.refl _ _⟩
  have hn3' : decide (100 < n3) = false := by simpa using hn3
  go_wp2_with fail
  clear hn1' hn2' hn3'
  refine (SoI.of_any A1 n1 c1 xs _ h1 (by omega)).mono ?_
  rintro e w2 ⟨B1, k1, d1, rfl, how, hb⟩
  rw [← HL.out.1] at how
  have hk1 : k1 ≤ 100 := by have := how.length; have := HL.out; omega
  have hs := how.sl (by omega)
  have hs1 := hs.alloc (.cells #[.slice B1 k1 d1] 25)
  have q1 := RowC.new w2 25 [.slice B1 k1 d1]
  have hB := hb.alloc hb.size (.cells #[.slice B1 k1 d1] 25)
  have t1 := h1.below (Nat.le_refl _) hB
  clear how hs hb
  go_wp2_with fail
  refine (rof_any A1 n1 c1 xs _ t1 (by omega)).mono ?_
  rintro e w3 ⟨R1, m1, e1, rfl, hr, hb⟩
  rw [← HL.out.1] at hr
  have hm1 : m1 ≤ 100 := by have := hr.len; have := HL.out; omega
  have hs2 := hs1.below (Nat.le_refl _) hb
  have q2 := q1.below' hb
  generalize w2.heap.size = p1 at q2 ⊢
  have hB2 := hB.trans (hb.mono hB.size)
  have hz2 := hB2.size
  clear hs1 q1 hB t1 hb
  have r1 := q2.cell 0
  go_wp2_with fail
  go_upto_region 5 with fail
  go_cut [9, 10] (fun s9 s10 wx => ∃ p9 p10 : Nat, s9 = .pointer (some ⟨p9, 0, none⟩) ∧ s10 = .pointer (some ⟨p10, 0, none⟩) ∧
      St w wx p1 p9 p10 B1 k1 d1 R1 m1 A2 A3 n2 n3 L ys zs B1 k1 d1 (put1 L ys 0) R1 m1 (put1 L ys 0) B1 k1 d1 (put2 L zs 0) R1 m1 (put2 L zs 0))
  case first => as_aux_lemma =>
    have u9 := (RowC.new w3 25 [.slice B1 k1 d1]).alloc (.cells #[.slice B1 k1 d1] 25)
    have u10 := RowC.new (w3.alloc (.cells #[.slice B1 k1 d1] 25)) 25 [.slice B1 k1 d1]
    rw [show (w3.alloc (.cells #[.slice B1 k1 d1] 25)).heap.size = w3.heap.size + 1 from by simp] at u10
    have v1 : RowC ((w3.alloc (.cells #[.slice B1 k1 d1] 25)).alloc (.cells #[.slice B1 k1 d1] 25)).drew p1 25 [.slice B1 k1 d1] := ((q2.alloc _).alloc _).drew
    have vs : Sl (Value.int .i64) ((w3.alloc (.cells #[.slice B1 k1 d1] 25)).alloc (.cells #[.slice B1 k1 d1] 25)).drew B1 k1 L := ((hs2.alloc _).alloc _).drewN 1
    have vr : Sl (Value.int .i64) ((w3.alloc (.cells #[.slice B1 k1 d1] 25)).alloc (.cells #[.slice B1 k1 d1] 25)).drew R1 m1 L := ((hr.alloc _).alloc _).drewN 1
    have vB : Below w.heap.size w ((w3.alloc (.cells #[.slice B1 k1 d1] 25)).alloc (.cells #[.slice B1 k1 d1] 25)).drew := below_drewN ((hB2.alloc hz2 _).alloc (by simp; omega) _) 1
    have va2 : Sl (Value.int .i64) ((w3.alloc (.cells #[.slice B1 k1 d1] 25)).alloc (.cells #[.slice B1 k1 d1] 25)).drew A2 n2 ys := h2.below (Nat.le_refl _) vB
    have va3 : Sl (Value.int .i64) ((w3.alloc (.cells #[.slice B1 k1 d1] 25)).alloc (.cells #[.slice B1 k1 d1] 25)).drew A3 n3 zs := h3.below (Nat.le_refl _) vB
    have hl1 := q2.lt
    have Sa : St w ((w3.alloc (.cells #[.slice B1 k1 d1] 25)).alloc (.cells #[.slice B1 k1 d1] 25)).drew p1 w3.heap.size (w3.heap.size + 1) B1 k1 d1 R1 m1 A2 A3 n2 n3 L ys zs B1 k1 d1 (put1 L ys 0) R1 m1 (put1 L ys 0) B1 k1 d1 (put2 L zs 0) R1 m1 (put2 L zs 0) := by
      rw [put1_zero, put2_zero]
      exact ⟨v1, u9.drew, u10.drew, vs, vr, va2, va3, vs, vr, vs, vr, vB, by omega, by omega, by omega, by omega, by omega⟩
    have Sb : St w ((w3.alloc (.cells #[.slice B1 k1 d1] 25)).alloc (.cells #[.slice B1 k1 d1] 25)).drew p1 (w3.heap.size + 1) w3.heap.size B1 k1 d1 R1 m1 A2 A3 n2 n3 L ys zs B1 k1 d1 (put1 L ys 0) R1 m1 (put1 L ys 0) B1 k1 d1 (put2 L zs 0) R1 m1 (put2 L zs 0) := by
      rw [put1_zero, put2_zero]
      exact ⟨v1, u10.drew, u9.drew, vs, vr, va2, va3, vs, vr, vs, vr, vB, by omega, by omega, by omega, by omega, by omega⟩
    have HS := Lib.hid (And.intro Sa Sb)
    clear Sa Sb v1 u9 u10 vs vr va2 va3 vB hl1 h1 h2 h3 hr hs2 q2 hB2
    go_region_held3 (fun w' => w'.cell? ⟨p1, 0, none⟩ = some (.slice B1 k1 d1)) (go_keep) (fail)
    · go_wp2_with fail
      go_meet
      exact ⟨_, _, rfl, rfl, HS.out.1⟩
    · go_wp2_with fail
      go_meet
      exact ⟨_, _, rfl, rfl, HS.out.2⟩
  case rest => as_aux_lemma =>
    obtain ⟨p9, p10, rfl, rfl, hst0⟩ := hcut
    have HS := Lib.hid hst0
    clear hst0 h1 h2 h3 hr hs2 q2 hB2 r1
    obtain ⟨wq, hwq⟩ : ∃ wq : World, wq = wc := ⟨_, rfl⟩
    subst hwq
    go_wp2_with fail
    go_loopw [11, 12, 13] (fun r9 r10 i wr => ∃ (k : Nat) (B9 : Option Addr) (n9 d9 : Nat) (R9 : Option Addr) (m9 e9 : Nat) (B10 : Option Addr) (n10 d10 : Nat) (R10 : Option Addr) (m10 e10 : Nat), r9 = .slice R9 m9 e9 ∧ r10 = .slice R10 m10 e10 ∧
        i = .int .i64 (k : Nat) ∧ (k ≤ n2 ∨ k ≤ n3) ∧ St w wr p1 p9 p10 B1 k1 d1 R1 m1 A2 A3 n2 n3 L ys zs B9 n9 d9 (put1 L ys k) R9 m9 (put1 L ys k) B10 n10 d10 (put2 L zs k) R10 m10 (put2 L zs k)) (fun _ _ i _ => n2 + n3 - (intOf i).toNat)
    case atStart => exact ⟨0, B1, k1, d1, R1, m1, e1, B1, k1, d1, R1, m1, e1, rfl, rfl, rfl, by omega, HS.out⟩
    case round =>
      obtain ⟨k, B9, n9, d9, R9, m9, e9, B10, n10, d10, R10, m10, e10, rfl, rfl, rfl, hk, hst⟩ := hrel
      clear HS
      obtain ⟨wa, hwa⟩ : ∃ wa : World, wa = wr := ⟨_, rfl⟩
      subst hwa
      have hA1 := (put1_all (ys := ys) HL.out.2.2.1 k).1
      have hA2 := (put2_all (ys := zs) HL.out.2.2.1 k).1
      have hN1 : (put1 L ys k).length ≤ 200 := by have := (put1_all (ys := ys) HL.out.2.2.1 k).2; have := HL.out; omega
      have hN2 : (put2 L zs k).length ≤ 200 := by have := (put2_all (ys := zs) HL.out.2.2.1 k).2; have := HL.out; omega
      have hM1 : (put1 L ys (k + 1)).length ≤ 200 := by have := (put1_all (ys := ys) HL.out.2.2.1 (k + 1)).2; have := HL.out; omega
      have hM2 : (put2 L zs (k + 1)).length ≤ 200 := by have := (put2_all (ys := zs) HL.out.2.2.1 (k + 1)).2; have := HL.out; omega
      have HM := Lib.hid (And.intro hM1 hM2); clear hM1 hM2
      have HN := Lib.hid (And.intro hA1 (And.intro hA2 (And.intro hN1 hN2))); clear hA1 hA2 hN1 hN2
      by_cases hkk : k < n2 ∨ k < n3
      · have HT := Lib.hid hst; clear hst
        go_upto_region 8 with fail
        go_cut [45] (fun t wx => t = .bool true ∧ wa = wx)
        case first => as_aux_lemma =>
          rcases Nat.lt_or_ge k n2 with h2 | h2
          · go_wp2_with fail
            go_meet
            exact ⟨rfl, rfl⟩
          · have h2' : ¬ k < n2 := by omega
            have h3 : k < n3 := by omega
            go_wp2_with fail
            go_meet
            exact ⟨rfl, rfl⟩
        case rest => as_aux_lemma =>
          obtain ⟨rfl, rfl⟩ := hcut
          go_upto_if 51 with fail
          go_cut [11] (fun r9 wx => ∃ (R : Option Addr) (m e : Nat) (B : Option Addr) (n d : Nat), r9 = .slice R m e ∧
              St w wx p1 p9 p10 B1 k1 d1 R1 m1 A2 A3 n2 n3 L ys zs B n d (put1 L ys (k + 1)) R m (put1 L ys (k + 1)) B10 n10 d10 (put2 L zs k) R10 m10 (put2 L zs k))
          case first => as_aux_lemma =>
            by_cases h2 : k < n2
            · obtain ⟨bb, off, rfl, hbb, hc⟩ := HT.out.a2.at' (by omega)
              have g1 := hc k h2
              clear hc
              have c9 := HT.out.q9.cell 0
              have HT1 := Lib.hid HT.out.drew; clear HT
              go_wp2_with fail
              go_still_tail 5, (by kernel_rfl)
              change wpList _ _ _ _ _ wa.drew
              clear g1 c9
              generalize wa.drew = wb at *
              go_wp2_with fail
              refine (SoI.with_any B9 n9 d9 (put1 L ys k) (nth ys k) _ HT1.out.s9 HN.out.1 (by have := HT1.out.s9.len; have := HN.out; omega)).mono ?_
              rintro e w4 ⟨B9', n9', d9', rfl, hs9, hb4⟩
              rw [← put1_succ (show k < ys.length by have := HL.out; omega)] at hs9
              have hst2 := (HT1.out.below hb4)
              have c9 := hst2.q9.cell 0
              have f9 := hst2.q9.frozen 0
              have hst3 := hst2.put9 (d := d9') hs9
              have g1 : (w4.setCell ⟨p9, 0, none⟩ (.slice B9' n9' d9')).cell? ⟨bb, off + k, none⟩ = some (.int .i64 (nth ys k)) := Sl.cellAt hst3.a2 h2
              have HT2 := Lib.hid hst3
              clear HT1 hst2 hst3 hs9 hb4
              go_wp2_with fail
              refine (rwith_any R9 m9 e9 (put1 L ys k) (nth ys k) _ HT2.out.r9 (by have := HT2.out.r9.len; have := HN.out; omega)).mono ?_
              rintro e w5 ⟨R9', e9', rfl, how9, hb5⟩
              have hl := ins_length_le (c := cmpI) (nth ys k) (put1 L ys k)
              have hs9 := how9.sl (by have := HN.out; omega)
              rw [← put1_succ (show k < ys.length by have := HL.out; omega)] at hs9 ⊢
              have hst4 := (HT2.out.below hb5).ref9 hs9
              clear HT2 hs9 how9 hb5 hl g1 c9 f9
              generalize (put1 L ys (k + 1)).length = m9' at *
              have HT3 := Lib.hid hst4; clear hst4
              go_wp2_with fail
              go_meet
              exact ⟨_, _, _, _, _, _, rfl, HT3.out⟩
            · have hp : put1 L ys (k + 1) = put1 L ys k := put1_past (by have := HL.out; omega)
              have hst := HT.out
              have hst : St w wa p1 p9 p10 B1 k1 d1 R1 m1 A2 A3 n2 n3 L ys zs B9 n9 d9 (put1 L ys (k + 1)) R9 m9 (put1 L ys (k + 1)) B10 n10 d10 (put2 L zs k) R10 m10 (put2 L zs k) := by rw [hp]; exact hst
              have HT1 := Lib.hid hst; clear hst HT hp
              go_wp2_with fail
              go_meet
              exact ⟨_, _, _, _, _, _, rfl, HT1.out⟩
          case rest => as_aux_lemma =>
            obtain ⟨R9', m9', e9', B9', n9', d9', rfl, hst⟩ := hcut
            clear HT
            have HT := Lib.hid hst; clear hst
            go_upto_if 67 with fail
            go_cut [12, 14] (fun r10 _r14 wx => ∃ (R : Option Addr) (m e : Nat) (B : Option Addr) (n d : Nat), r10 = .slice R m e ∧
                St w wx p1 p9 p10 B1 k1 d1 R1 m1 A2 A3 n2 n3 L ys zs B9' n9' d9' (put1 L ys (k + 1)) R9' m9' (put1 L ys (k + 1)) B n d (put2 L zs (k + 1)) R m (put2 L zs (k + 1)))
            case first => as_aux_lemma =>
              by_cases h3 : k < n3
              · obtain ⟨bb, off, rfl, hbb, hc⟩ := HT.out.a3.at' (by omega)
                have g1 := hc k h3
                clear hc hbb
                have c10 := HT.out.q10.cell 0
                have hb1 : n10 * 8 ≤ 140737488355328 := by have := HT.out.s10.len; have := HN.out; omega
                have hrl := rem_length (nth zs k) (put2 L zs k)
                have HB1 := Lib.hid (And.intro hb1 hrl); clear hb1 hrl
                have hi1 : ((k : Nat) : Int) < n3 := by omega
                have hi0 : (0 : Int) ≤ (k : Nat) := by omega
                go_upto_region 15 with fail
                go_cut [] (fun wx => ∃ (B : Option Addr) (n d : Nat), St w wx p1 p9 p10 B1 k1 d1 R1 m1 A2 (some ⟨bb, off, none⟩) n2 n3 L ys zs B9' n9' d9' (put1 L ys (k + 1)) R9' m9' (put1 L ys (k + 1)) B n d (put2 L zs (k + 1)) R10 m10 (put2 L zs k))
                case first => as_aux_lemma =>
                  have HT1 := Lib.hid HT.out.drew; clear HT
                  go_region_with (first
                    | ((go_at_call 24); (refine (SoI.without_any B10 n10 d10 (put2 L zs k) (nth zs k) _ HT1.out.s10 HN.out.2.1 HB1.out.1).mono ?_); (rintro e w4 ⟨B10', n10', d10', rfl, hs10, hb4⟩); (have hst2 := HT1.out.below hb4); (have g4 := Sl.cellAt hst2.a3 h3))
                    | ((go_at_call 22); (refine (SoI.with_any B10' n10' d10' (rem cmpI (nth zs k) (put2 L zs k)) (IntKind.i64.wrap (nth zs k + 1)) _ hs10 (asc_rem HN.out.2.1) (by have := hs10.len; have := HB1.out; have := HN.out; omega)).mono ?_); (rintro e w5 ⟨B10'', n10'', d10'', rfl, hs11, hb5⟩); (have hst5 := hst2.below hb5); (have c11 := hst5.q10.cell 0); (have f11 := hst5.q10.frozen 0); (have g5 := Sl.cellAt hst5.a3 h3); (have g6 := Sl.cellAt (hst5.put10 (d := d10'') hs11).a3 h3)))
                  all_goals
                    rw [← put2_succ (show k < zs.length by have := HL.out; omega)] at hs11
                    have hst6 := hst5.put10 (d := d10'') hs11
                    have HT6 := Lib.hid hst6
                    clear hst6 hst5 hst2 c11 f11 g5 g6 hs11
                    go_wp2_with fail
                    go_meet
                    exact ⟨_, _, _, HT6.out⟩
                case rest => as_aux_lemma =>
                  obtain ⟨B10', n10', d10', hst⟩ := hcut
                  clear g1 c10
                  have g1 := Sl.cellAt hst.a3 h3
                  clear HT
                  have HT := Lib.hid hst; clear hst
                  go_upto_region 16 with fail
                  have HT1 := Lib.hid HT.out.drew; clear HT
                  go_region_held3 (fun w' => w'.cell? ⟨bb, off + k, none⟩ = some (.int .i64 (nth zs k))) (first | assumption | go_keep) (first
                    | ((go_at_call 23); (with_reducible refine (rwith_sl none 0 0 [] (nth zs k) _ (Sl.nil _ _ _) (by omega)).mono ?_); (rintro e w4 ⟨Q1, q1, f1, rfl, hq1, hb4⟩); (have hst2 := HT1.out.below hb4); (have g4 := Sl.cellAt hst2.a3 h3))
                    | ((go_at_call 25); (refine (rsome_any R10 Q1 m10 e10 q1 f1 (put2 L zs k) (ins cmpI (nth zs k) []) false _ hst2.r10 hq1 (by have := hst2.r10.len; have := HN.out; omega)).mono ?_); (rintro e w5 ⟨Q2, q2, f2, rfl, hq2, hb5⟩); (have hst3 := hst2.below hb5); (have g5 := Sl.cellAt hst3.a3 h3); (rw [some_rem] at hq2))
                    | ((go_at_call 23); (refine (rwith_sl Q2 q2 f2 (rem cmpI (nth zs k) (put2 L zs k)) (IntKind.i64.wrap (nth zs k + 1)) _ hq2 (by have := hq2.len; have := HB1.out; have := HN.out; omega)).mono ?_); (rintro e w6 ⟨Q3, q3, f3, rfl, hq3, hb6⟩); (have hst4 := (hst3.below hb6).ref10 hq3); (have g6 := Sl.cellAt hst4.a3 h3)))
                  all_goals
                    rw [← put2_succ (show k < zs.length by have := HL.out; omega)] at hst4
                    have HT6 := Lib.hid hst4
                    clear hst4 hst3 hst2 g4 g5 g6 hq1 hq2 hq3
                    go_wp2_with fail
                    go_meet
                    exact ⟨_, _, _, _, _, _, rfl, HT6.out⟩
              · have hp : put2 L zs (k + 1) = put2 L zs k := put2_past (by have := HL.out; omega)
                have hst := HT.out
                have hst : St w wc p1 p9 p10 B1 k1 d1 R1 m1 A2 A3 n2 n3 L ys zs B9' n9' d9' (put1 L ys (k + 1)) R9' m9' (put1 L ys (k + 1)) B10 n10 d10 (put2 L zs (k + 1)) R10 m10 (put2 L zs (k + 1)) := by rw [hp]; exact hst
                have HT1 := Lib.hid hst; clear hst HT hp
                go_wp2_with fail
                go_meet
                exact ⟨_, _, _, _, _, _, rfl, HT1.out⟩
            case rest => as_aux_lemma =>
              obtain ⟨R10', m10', e10', B10', n10', d10', rfl, hst⟩ := hcut
              clear HT
              have HT := Lib.hid hst; clear hst
              have c9 := HT.out.q9.cell 0
              go_wp2_with fail
              refine (SoI.list_any B9' n9' d9' (put1 L ys (k + 1)) _ HT.out.s9 (by have := HT.out.s9.len; have := HM.out; omega)).mono ?_
              rintro e w7 ⟨X, xc, rfl, how, hb⟩
              have hx := how.sl (by have := HT.out.s9.len; have := HM.out; omega)
              have hst2 := HT.out.below hb
              clear how hb c9 HT
              have HT := Lib.hid hst2; clear hst2
              go_wp2_with fail
              refine (ints_same X R9' n9' xc m9' e9' (put1 L ys (k + 1)) _ hx HT.out.r9).mono ?_
              rintro e w8 ⟨rfl, k8, rfl⟩
              have hst2 := HT.out.drewN k8
              clear hx HT
              have c10 := hst2.q10.cell 0
              have HT := Lib.hid hst2; clear hst2
              go_wp2_with fail
              refine (SoI.list_any B10' n10' d10' (put2 L zs (k + 1)) _ HT.out.s10 (by have := HT.out.s10.len; have := HM.out; omega)).mono ?_
              rintro e w9 ⟨Y, yc, rfl, how, hb⟩
              have hx := how.sl (by have := HT.out.s10.len; have := HM.out; omega)
              have hst2 := HT.out.below hb
              clear how hb c10 HT
              have HT := Lib.hid hst2; clear hst2
              go_wp2_with fail
              refine (ints_same Y R10' n10' yc m10' e10' (put2 L zs (k + 1)) _ hx HT.out.r10).mono ?_
              rintro e w10 ⟨rfl, k10, rfl⟩
              have hst2 := HT.out.drewN k10
              clear hx HT
              have HT := Lib.hid hst2; clear hst2
              go_wp2_with fail
              exact ⟨⟨k + 1, _, _, _, _, _, _, _, _, _, _, _, _, rfl, rfl, by go_num, by omega, HT.out⟩, by simp [intOf]; omega⟩
      · have c1 := hst.q1.cell 0
        have HT := Lib.hid hst; clear hst
        have z1 : ¬ k < n2 := by omega
        have z2 : ¬ k < n3 := by omega
        go_wp2_with fail
        refine (SoI.list_any B1 k1 d1 L _ HT.out.s1 (by omega)).mono ?_
        rintro e w7 ⟨X, xc, rfl, how, hb⟩
        have hx := how.sl (by omega)
        have hst2 := HT.out.below hb
        clear how hb c1 HT
        have HT := Lib.hid hst2; clear hst2
        go_wp2_with fail
        refine (ints_same X R1 k1 xc m1 e1 L _ hx HT.out.r1).mono ?_
        rintro e w8 ⟨rfl, k8, rfl⟩
        have hst2 := HT.out.drewN k8
        clear hx HT
        go_wp2_with fail
        go_ret
        exact ⟨rfl, hst2.bel⟩
end Go.Proofs.Ytpacnpiiahchiaa.Grows
