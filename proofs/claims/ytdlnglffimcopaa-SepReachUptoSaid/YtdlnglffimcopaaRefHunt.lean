/- credenceref16's Hunt: joined, open, less, walked. Conditions: the hunt's cell is the call's own; what it holds lies below. -/
import Derived.Test.YtdlnglffimcopaaHunt
import Derived.Test.YtdlnglffimcopaaRefAbove
import Derived.Test.YtdlnglffimcopaaFlow
namespace Go.Proofs.Ytdlnglffimcopaa
open Go.RowKit

/-- a hunt, as it lies in memory: it was begun in w0 -/
structure HuntM (w0 : World) (n : Nat) (PA GA UA : Option Addr) (pc mg gd mu ud : Nat) (tg : Int) (hb cb : Nat) (L : List Bool) (BA : Option Addr) (bn bc : Nat) (b : Option (List Nat)) (w : World) : Prop where
  row : RowC w hb 56 [.slice PA n pc, .slice GA mg gd, .slice UA mu ud, .int .i64 tg, .slice BA bn bc, .slice (some ⟨cb, 0, none⟩) n n]
  came : RowAt eB w cb 4 L []
  best : (b = none ∧ BA = none ∧ bn = 0 ∧ bc = 0) ∨ ∃ t, b = some t ∧ t ≠ [] ∧ OwnR eN w (hb + 1) 3 BA bn bc t
  lt : cb < hb
  bel : Below cb w0 w
  sz : w0.heap.size ≤ cb
section
variable {w0 w w' : World} {n pc mg gd mu ud hb cb bn bc : Nat} {PA GA UA BA : Option Addr} {tg : Int} {L : List Bool} {b : Option (List Nat)}
theorem HuntM.step (h : HuntM w0 n PA GA UA pc mg gd mu ud tg hb cb L BA bn bc b w) (hb' : Below w.heap.size w w') : HuntM w0 n PA GA UA pc mg gd mu ud tg hb cb L BA bn bc b w' := by
  refine ⟨h.row.below' hb', h.came.below hb' h.came.lt, ?_, h.lt, h.bel.trans (hb'.mono (Nat.le_of_lt h.came.lt)), h.sz⟩
  rcases h.best with h1 | ⟨t, h1, h2, h3⟩
  · exact .inl h1
  · exact .inr ⟨t, h1, h2, h3.below (Nat.le_refl _) hb'⟩
end
/-- what the hunt goes by -/
structure HuntS (w0 : World) (G : List (List Nat)) (given : List Int) (n : Nat) (PA GA UA : Option Addr) (mg mu : Nat) : Prop where
  par : Rows eN w0 PA n G
  giv : Sl (Value.int .i64) w0 GA mg given
  abv : Sl eN w0 UA mu (upList G (given.map Int.toNat))
  len : G.length = n
  good : GoodG G
section
variable {w0 w w' : World} {G : List (List Nat)} {given : List Int} {n pc mg gd mu ud hb cb bn bc : Nat} {PA GA UA BA : Option Addr} {tg : Int} {L : List Bool} {b : Option (List Nat)}
set_option maxRecDepth 100000 in
set_option maxHeartbeats 800000 in
theorem joined_ref (hS : HuntS w0 G given n PA GA UA mg mu) (hM : HuntM w0 n PA GA UA pc mg gd mu ud tg hb cb L BA bn bc b w) (p c : Nat) (hc : c < n) :
    Calls Try.prog 99 #[.pointer (some ⟨hb, 0, none⟩), .int .i64 (p : Int), .int .i64 (c : Int)] w fun e w' => e = .returned (.bool (decide (p ∈ nth G c))) ∧ w' = w := by
  obtain ⟨wa, hwa⟩ : ∃ wa : World, wa = w := ⟨_, rfl⟩
  subst hwa
  have r0 := hM.row.cell 0
  obtain ⟨b1, off, R, m1, d1, rfl, hlt, hcell, hsl⟩ := hS.par.row (i := c) hc
  have hbig := hS.par.big
  have a0 := ((keeps hM.bel).1 b1 (off + c) (Nat.lt_of_lt_of_le hlt hM.sz)).trans hcell
  have hsw := hsl.below hM.sz hM.bel
  have q1 : (0 : Int) ≤ (c : Nat) := by omega
  have q2 : ((c : Nat) : Int) < (n : Nat) := by omega
  clear hM hS hcell hsl hlt
  simp only [List.getElem?_cons_zero] at r0
  go_enter Try.func99, Try.ntmps99
  go_wp2_with fail
  refine (has_refN R m1 d1 _ p _ hsw).mono ?_
  rintro e w1 ⟨rfl, rfl⟩
  clear hsw
  generalize hz : decide (p ∈ nth G c) = z at *
  have HZ := Lib.hid hz; clear hz
  go_wp2_with fail
  go_ret
  exact ⟨by rw [HZ.out]; rfl, rfl⟩
open Classical in
/-- may a trail go through a point, between two others? -/
noncomputable def opB (G : List (List Nat)) (given : List Int) (q p m : Nat) : Bool := decide (Opn G (Zp given) (Ap G given) q p m)
open Classical in
theorem opB_iff {q p m : Nat} : opB G given q p m = true ↔ Opn G (Zp given) (Ap G given) q p m := by unfold opB; exact decide_eq_true_iff
theorem opB_in {q p m : Nat} (h1 : q ∈ nth G p) (h2 : m ∈ nth G p) : opB G given q p m = decide (p ∈ upList G (given.map Int.toNat)) := by
  rw [Bool.eq_iff_iff, opB_iff, decide_eq_true_iff]
  unfold Opn
  rw [if_pos ⟨h1, h2⟩]
  unfold Ap aB
  rw [decide_eq_true_iff]; exact mem_castL
theorem opB_out {q p m : Nat} (h : ¬ (q ∈ nth G p ∧ m ∈ nth G p)) : opB G given q p m = ! decide ((p : Int) ∈ given) := by
  rw [Bool.eq_iff_iff, opB_iff]
  unfold Opn
  rw [if_neg h]
  unfold Zp zB
  simp
set_option maxRecDepth 100000 in
set_option maxHeartbeats 800000 in
theorem open_ref (hS : HuntS w0 G given n PA GA UA mg mu) (hM : HuntM w0 n PA GA UA pc mg gd mu ud tg hb cb L BA bn bc b w) (q p m : Nat) (hp : p < n) :
    Calls Try.prog 100 #[.pointer (some ⟨hb, 0, none⟩), .int .i64 (q : Int), .int .i64 (p : Int), .int .i64 (m : Int)] w fun e w' => e = .returned (.bool (opB G given q p m)) ∧ w' = w := by
  obtain ⟨wa, hwa⟩ : ∃ wa : World, wa = w := ⟨_, rfl⟩
  subst hwa
  have r1 := hM.row.cell 1
  have r2 := hM.row.cell 2
  simp only [List.getElem?_cons_zero, List.getElem?_cons_succ] at r1 r2
  have hg := hS.giv.below hM.sz hM.bel
  have hu := hS.abv.below hM.sz hM.bel
  have HM := Lib.hid (And.intro hS hM); clear hM hS
  go_enter Try.func100, Try.ntmps100
  go_wp2_with fail
  refine (joined_ref HM.out.1 HM.out.2 q p hp).mono ?_
  rintro e w1 ⟨rfl, rfl⟩
  by_cases h1 : q ∈ nth G p
  · rw [decide_eq_true h1]
    go_wp2_with fail
    refine (joined_ref HM.out.1 HM.out.2 m p hp).mono ?_
    rintro e w1 ⟨rfl, rfl⟩
    by_cases h2 : m ∈ nth G p
    · rw [decide_eq_true h2]
      have HO := Lib.hid (opB_in (given := given) h1 h2)
      clear h1 h2
      go_wp2_with fail
      refine (has_refN UA mu ud _ p _ hu).mono ?_
      rintro e w1 ⟨rfl, rfl⟩
      generalize hz : decide (p ∈ upList G (given.map Int.toNat)) = z at *
      have HZ := Lib.hid hz; clear hz
      go_wp2_with fail
      go_ret
      exact ⟨by rw [HO.out]; rfl, rfl⟩
    · rw [decide_eq_false h2]
      have HO := Lib.hid (opB_out (G := G) (given := given) (q := q) (p := p) (m := m) (fun h => h2 h.2))
      clear h1 h2
      go_wp2_with fail
      refine (has_ref GA mg gd _ _ _ hg).mono ?_
      rintro e w1 ⟨rfl, rfl⟩
      generalize hz : decide ((p : Int) ∈ given) = z at *
      have HZ := Lib.hid hz; clear hz
      go_wp2_with fail
      go_ret
      exact ⟨by rw [HO.out]; rfl, rfl⟩
  · rw [decide_eq_false h1]
    have HO := Lib.hid (opB_out (G := G) (given := given) (q := q) (p := p) (m := m) (fun h => h1 h.1))
    go_wp2_with fail
    refine (joined_ref HM.out.1 HM.out.2 m p hp).mono ?_
    rintro e w1 ⟨rfl, rfl⟩
    clear h1
    generalize decide (m ∈ nth G p) = y at *
    go_wp2_with fail
    refine (has_ref GA mg gd _ _ _ hg).mono ?_
    rintro e w1 ⟨rfl, rfl⟩
    generalize hz : decide ((p : Int) ∈ given) = z at *
    have HZ := Lib.hid hz; clear hz
    go_wp2_with fail
    go_ret
    exact ⟨by rw [HO.out]; rfl, rfl⟩
end
theorem lexL_at {xs ys : List Nat} {k : Nat} (h1 : k < xs.length) (h2 : k < ys.length) : lexL (xs.drop k) (ys.drop k) = if nth xs k = nth ys k then lexL (xs.drop (k + 1)) (ys.drop (k + 1)) else decide (nth xs k < nth ys k) := by
  rw [List.drop_eq_getElem_cons h1, List.drop_eq_getElem_cons h2, nth_eq h1, nth_eq h2]; rfl
set_option maxRecDepth 100000 in
set_option maxHeartbeats 800000 in
theorem less_ref (A B : Option Addr) (n c m d : Nat) (xs ys : List Nat) (w : World) (hx : Sl eN w A n xs) (hy : Sl eN w B m ys) :
    Calls Try.prog 98 #[.slice A n c, .slice B m d] w fun e w' => e = .returned (.bool (lessL xs ys)) ∧ ∃ t, w' = w.drewN t := by
  obtain ⟨wa, hwa⟩ : ∃ wa : World, wa = w := ⟨_, rfl⟩
  subst hwa
  have hbx := hx.big
  have hby := hy.big
  have HL := Lib.hid (And.intro hx.len hy.len)
  go_enter Try.func98, Try.ntmps98
  by_cases hnm : n = m
  · subst hnm
    go_wp2_with fail
    go_loopw [5] (fun i wr => ∃ k t : Nat, i = .int .i64 (k : Nat) ∧ k ≤ n ∧ wr = wa.drewN t ∧ lessL xs ys = lexL (xs.drop k) (ys.drop k)) (fun i _ => n - (intOf i).toNat)
    case atStart => exact ⟨0, 0, rfl, Nat.zero_le _, rfl, by unfold lessL; rw [if_pos (by rw [HL.out.1, HL.out.2])]; simp⟩
    case round =>
      obtain ⟨k, t, rfl, hk, hwr, hle⟩ := hrel
      by_cases hlt : k < n
      · obtain ⟨b1, o1, rfl, _, hc1⟩ := (hx.drewN t).at' (by omega)
        obtain ⟨b2, o2, rfl, _, hc2⟩ := (hy.drewN t).at' (by omega)
        have g1 := hc1 k hlt
        have g2 := hc2 k hlt
        rw [lexL_at (by rw [HL.out.1]; exact hlt) (by rw [HL.out.2]; exact hlt)] at hle
        generalize nth xs k = x at *
        generalize nth ys k = y at *
        obtain ⟨wb, hwb⟩ : ∃ wb : World, wb = wr := ⟨_, rfl⟩
        subst hwb
        rw [← hwr] at g1 g2
        have q1 : (0 : Int) ≤ (k : Nat) := by omega
        have q2 : ((k : Nat) : Int) < (n : Nat) := by omega
        have HW := Lib.hid hwr
        clear hc1 hc2 hwr
        by_cases hxy : x = y
        · subst hxy
          rw [if_pos rfl] at hle
          have HE := Lib.hid hle; clear hle
          go_wp2_with fail
          go_quiet (fail)
          go_wp2_with fail
          exact ⟨⟨k + 1, t + _, by go_num, by omega, by rw [HW.out, World.drewN_drewN], HE.out⟩, by simp [intOf]; omega⟩
        · rw [if_neg hxy] at hle
          have HE := Lib.hid hle; clear hle
          have q3 : decide ((x : Int) = (y : Int)) = false := by simp; omega
          have q4 : ¬ ((x : Int) = (y : Int)) := by omega
          generalize hz : decide (x < y) = z at *
          have q5 : decide ((x : Int) < (y : Int)) = z := by rw [← hz, decide_eq_decide]; omega
          have HZ := Lib.hid hz; clear hz
          go_wp2_with fail
          go_quiet (fail)
          go_wp2_with fail
          go_quiet (fail)
          go_wp2_with fail
          go_ret
          exact ⟨by rw [HE.out, ← HZ.out]; rfl, t + _, by rw [HW.out, World.drewN_drewN, World.drewN_drewN]⟩
      · obtain rfl : k = n := by omega
        have hlast : lessL xs ys = false := by
          rw [hle, List.drop_of_length_le (by rw [HL.out.1]; exact Nat.le_refl _)]; rfl
        have HE := Lib.hid hlast
        have HW := Lib.hid hwr
        clear hle hlast hwr
        go_wp2_with fail
        go_ret
        exact ⟨by rw [HE.out]; rfl, t, HW.out⟩
  · have hr : lessL xs ys = decide (n < m) := by unfold lessL; rw [if_neg (by rw [HL.out.1, HL.out.2]; exact hnm), HL.out.1, HL.out.2]
    have HE := Lib.hid hr
    clear hr
    go_wp2_with fail
    go_ret
    exact ⟨by rw [HE.out]; simp, 0, rfl⟩
end Go.Proofs.Ytdlnglffimcopaa
