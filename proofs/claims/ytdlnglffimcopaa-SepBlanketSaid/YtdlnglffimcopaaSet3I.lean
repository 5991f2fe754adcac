/- slices.Delete of one element, Without at int, walked. Conditions: the list rises; its length is within Go's bound. -/
import Derived.Test.YtdlnglffimcopaaSet2I
import Derived.StillTailTactics
import Derived.Outline
namespace Go.Proofs.Ytdlnglffimcopaa
open Go.RowKit
namespace SoI

set_option maxHeartbeats 800000 in
set_option maxRecDepth 100000 in
theorem del_row (g n c i : Nat) (ii jj : Int) (xs : List Int) (rest : List Value) (w : World) (ei : ii = (i : Int)) (ej : jj = (i : Int) + 1) (hr : RowAt (Value.int .i64) w g 3 xs rest) (hn : xs.length = n) (hbig : n ≤ 140737488351232) (hnc : n ≤ c) (hc : c ≤ maxLen) (hi : i < n) :
    Calls Try.prog 88 #[.slice (some ⟨g, 0, none⟩) n c, .int .i64 ii, .int .i64 jj] w fun e w' => e = .returned (.slice (some ⟨g, 0, none⟩) (n - 1) c) ∧
      (∃ rest', RowAt (Value.int .i64) w' g 3 (xs.take i ++ xs.drop (i + 1)) rest' ∧ n - 1 + rest'.length = n + rest.length) ∧ w.grownBy w' (some g) := by
  subst ei ej
  unfold maxLen at hc
  obtain ⟨i0, hi0, hz0, hz1, hz2⟩ := info_parts info
  have hij : ((i : Int) == (i : Int) + 1) = false := beq_eq_false_iff_ne.2 (by omega)
  have hp := hr.piece (k := i + 1) (by omega) (by omega)
  have HN := Lib.hid hn; clear hn
  have b1 : (i : Int) ≤ (c : Int) := by omega
  have b2 : (0 : Int) ≤ (i : Int) := by omega
  have b3 : (i : Int) + 1 ≤ (n : Int) := by omega
  have b4 : (n : Int) ≤ (c : Int) := by omega
  have b5 : i ≤ c := by omega
  have b6 : i + 1 ≤ n := by omega
  have b7 : (0 : Int) ≤ (i : Int) + 1 := by omega
  have b8 : ((i : Int) + 1).toNat = i + 1 := by omega
  have hp' : Sl (Value.int .i64) w.drew (if c = i + 1 then some ⟨g, 0, none⟩ else some ⟨g, i + 1, none⟩) (n - (i + 1)) (xs.drop (i + 1)) := by
    rw [HN.out] at hp
    by_cases hci : c = i + 1
    · rw [if_pos hci]
      have h0 : n - (i + 1) = 0 := by omega
      have h1 := hp.len
      rw [h0] at h1 ⊢
      rw [List.eq_nil_of_length_eq_zero h1]
      exact Sl.nil _ _ _
    · rw [if_neg hci]
      exact hp.drewN 1
  generalize hAA : (if c = i + 1 then some (⟨g, 0, none⟩ : Addr) else some ⟨g, i + 1, none⟩) = AA at hp'
  have HA := Lib.hid hAA; clear hAA
  go_enter Try.func88, Try.ntmps88
  go_wp2_with fail
  go_still_tail 6, (by kernel_rfl)
  change wpList _ _ _ _ _ w.drew
  rw [HA.out]
  generalize hww : w.drew = w2 at hp' ⊢
  have hr2 : RowAt (Value.int .i64) w2 g 3 xs rest := by rw [← hww]; exact hr.drew
  have hg2 : w.grownBy w2 (some g) := by rw [← hww]; exact grown_drew (grown_refl _ _)
  clear hww hr hp
  go_wp2_with (first
    | (refine wpList_append_in _ (Value.int .i64) one rfl _ _ _ rfl 3 i0 Try.underlying23 hi0 hz1 g i c rfl xs rest hr2 AA (n - (i + 1)) _ _ rfl hp' ?c1 ?c2 ?_)
    | fail)
  case c1 => rw [HN.out]; omega
  case c2 => omega
  intro w3 hr3 hg3
  have e1 : i + (n - (i + 1)) = n - 1 := by omega
  rw [e1] at hr3 ⊢
  obtain ⟨ys, hys⟩ : ∃ ys, ys = xs.take i ++ xs.drop (i + 1) ++ xs.drop (n - 1) := ⟨_, rfl⟩
  have hl3 : ys.length = n := by rw [hys]; have := HN.out; simp; omega
  replace hr3 : RowAt (Value.int .i64) w3 g 3 ys rest := by rw [hys]; simpa using hr3
  have HY := Lib.hid (And.intro hys hl3); clear hys hl3
  have b9 : n - 1 < c := by omega
  have b10 : n - 1 ≤ n := by omega
  have b11 : n - (n - 1) = 1 := by omega
  go_wp2_with (first
    | (refine wpList_clear_row _ (Value.int .i64) rfl _ _ rfl 3 (.int .i64 0) Try.underlying23 zero rfl rfl g (n - 1) _ _ rfl ys rest hr3 ?c3 ?_)
    | fail)
  case c3 => have := HY.out.2; omega
  intro w4 hr4 hg4
  go_wp2_with fail
  go_ret
  rw [HY.out.1, List.take_append_of_le_length (by have := HN.out; simp; omega), List.take_of_length_le (by have := HN.out; simp; omega)] at hr4
  exact ⟨rfl, ⟨_, hr4, by simp; omega⟩, grown_trans hg2 (grown_trans hg3 hg4)⟩

/-- slices.Delete of one element, of a slice that the call owns -/
theorem del_any (base : Nat) (A : Option Addr) (n c i : Nat) (ii jj : Int) (xs : List Int) (w : World) (ei : ii = (i : Int)) (ej : jj = (i : Int) + 1) (h : OwnR (Value.int .i64) w base 3 A n c xs) (hbig : n ≤ 140737488351232) (hB : base ≤ w.heap.size) (hi : i < n) :
    Calls Try.prog 88 #[.slice A n c, .int .i64 ii, .int .i64 jj] w fun e w' => e = .returned (.slice A (n - 1) c) ∧ OwnR (Value.int .i64) w' base 3 A (n - 1) c (xs.take i ++ xs.drop (i + 1)) ∧ Below base w w' := by
  obtain ⟨g, rest, rfl, hbg, hr, hcap⟩ := h.row (by omega)
  refine (del_row g n c i ii jj xs rest w ei ej hr h.length hbig h.cap h.capmax hi).mono ?_
  rintro e w' ⟨rfl, ⟨rest', h1, h2⟩, hg⟩
  have hl := h.length
  exact ⟨rfl, OwnR.of_row' h1 hbg (by simp; omega) h.capmax (by simp; omega), grown_below hg hbg hB⟩

set_option maxHeartbeats 800000 in
/-- Without: the set without a thing; the set itself if it isn't in -/
theorem without_any (A : Option Addr) (n c : Nat) (xs : List Int) (x : Int) (w : World) (hx : Sl (Value.int .i64) w A n xs) (ha : Asc cmpI xs) (hb : n * 8 ≤ 140737488355328) :
    Calls Try.prog 61 #[.agg #[.slice A n c], Value.int .i64 x] w fun e w' => ∃ A' k c', e = .returned (.agg #[.slice A' k c']) ∧ Sl (Value.int .i64) w' A' k (rem cmpI x xs) ∧ Below w.heap.size w w' := by
  have hbig := hx.big
  have hn := hx.len
  have hbox := RowC.new w 58 [.slice A n c]
  have hW : Below w.heap.size w ((w.alloc (.cells #[.slice A n c] 58)).alloc (.cells #[.slice none 0 0] 58)) := ((Below.refl _ _).alloc (Nat.le_refl _) _).alloc (by simp) _
  have hb1 := hbox.alloc (.cells #[.slice none 0 0] 58)
  have hb2 := RowC.new (w.alloc (.cells #[.slice A n c] 58)) 58 [.slice none 0 0]
  rw [show (w.alloc (.cells #[.slice A n c] 58)).heap.size = w.heap.size + 1 from by simp] at hb2
  have hx1 : Sl (Value.int .i64) ((w.alloc (.cells #[.slice A n c] 58)).alloc (.cells #[.slice none 0 0] 58)) A n xs := (hx.alloc _).alloc _
  have r1 := hb1.cell 0
  clear hbox
  have hsz : ((w.alloc (.cells #[.slice A n c] 58)).alloc (.cells #[.slice none 0 0] 58)).heap.size = w.heap.size + 1 + 1 := by simp
  rcases hin : isIn cmpI x xs
  · have hrem : rem cmpI x xs = xs := by
      unfold rem
      rw [List.filter_eq_self]
      intro y hy
      have h : ¬ cmpI y x = 0 := fun h0 => by
        have := isIn_iff.2 ⟨y, hy, h0⟩
        rw [hin] at this; cases this
      simpa using h
    have HR := Lib.hid (And.intro hrem (And.intro hin (And.intro hn (And.intro hx1 (And.intro hW (And.intro hb1 (And.intro hb2 hsz))))))); clear hrem hin hn hx1 hW hb1 hb2 hsz
    go_enter Try.func61, Try.ntmps61
    go_wp2_with fail
    refine (find_any A n c xs x _ HR.out.2.2.2.1 ha).mono ?_
    rintro e w1 ⟨i, rfl, hp, hbel⟩
    rw [HR.out.2.1]
    rw [HR.out.2.2.2.2.2.2.2] at hbel
    have q1 := HR.out.2.2.2.2.2.1.below hbel (by omega)
    have q2 := HR.out.2.2.2.2.2.2.1.below hbel (by omega)
    have s1 := q1.cell 0
    have s2 := q2.cell 0
    have s3 := q2.frozen 0
    have s4 : (w1.setCell ⟨w.heap.size + 1, 0, none⟩ (.slice A n c)).cell? ⟨w.heap.size + 1, 0, none⟩ = some (.slice A n c) := (q2.put 0 _).cell 0
    go_wp2_with fail
    have hfin := (HR.out.2.2.2.2.1.trans (hbel.mono (by omega))).setCell (p := ⟨w.heap.size + 1, 0, none⟩) (Nat.le_succ _) (.slice A n c)
    exact bodyPost_ret (v := .agg #[.slice A n c]) (by simp [results, Try.results61, go_sem, s4]) rfl ⟨A, n, c, rfl, by rw [HR.out.1]; exact hx.below (Nat.le_refl _) hfin, hfin⟩
  · have HR := Lib.hid (And.intro hin (And.intro hin (And.intro hn (And.intro hx1 (And.intro hW (And.intro hb1 (And.intro hb2 hsz))))))); clear hin hn hx1 hW hb1 hb2 hsz
    go_enter Try.func61, Try.ntmps61
    go_wp2_with fail
    refine (find_any A n c xs x _ HR.out.2.2.2.1 ha).mono ?_
    rintro e w1 ⟨i, rfl, hp, hbel⟩
    rw [HR.out.2.1]
    rw [HR.out.2.2.2.2.2.2.2] at hbel
    have hrem := hp.rem cmpokI HR.out.1 ha
    have q1 := HR.out.2.2.2.2.2.1.below hbel (by omega)
    have q2 := HR.out.2.2.2.2.2.2.1.below hbel (by omega)
    have s1 := q1.cell 0
    have hin' : i < n := by have := hrem.1; have := HR.out.2.2.1; omega
    have HM := Lib.hid hrem.2; clear hrem
    go_wp2_with fail
    have hsz1 : w.heap.size + 1 + 1 ≤ w1.heap.size := by have := hbel.size; rw [HR.out.2.2.2.2.2.2.2] at this; exact this
    refine (clone_any A n c xs _ (HR.out.2.2.2.1.below (by rw [HR.out.2.2.2.2.2.2.2]; exact Nat.le_refl _) hbel) hb).mono ?_
    rintro e w2 ⟨A1, c1, rfl, how1, hbel2⟩
    go_wp2_with fail
    refine (del_any w1.heap.size A1 n c1 i _ _ xs _ rfl (by omega) how1 hbig hbel2.size hin').mono ?_
    rintro e w3 ⟨rfl, how2, hbel3⟩
    have hbel13 := (hbel2.trans hbel3)
    have q3 := q2.below hbel13 (by omega)
    have s2 := q3.cell 0
    have s3 := q3.frozen 0
    have s4 : (w3.setCell ⟨w.heap.size + 1, 0, none⟩ (.slice A1 (n - 1) c1)).cell? ⟨w.heap.size + 1, 0, none⟩ = some (.slice A1 (n - 1) c1) := (q3.put 0 _).cell 0
    have hfin := (((HR.out.2.2.2.2.1.trans (hbel.mono (by omega))).trans (hbel13.mono (by omega)))).setCell (p := ⟨w.heap.size + 1, 0, none⟩) (Nat.le_succ _) (.slice A1 (n - 1) c1)
    have hsl : Sl (Value.int .i64) (w3.setCell ⟨w.heap.size + 1, 0, none⟩ (.slice A1 (n - 1) c1)) A1 (n - 1) (rem cmpI x xs) := by
      rw [HM.out]
      exact OwnR.sl (ownsRow_setCell_below how2 (show w.heap.size + 1 < w1.heap.size by omega) _) (by omega)
    go_wp2_with fail
    exact bodyPost_ret (v := .agg #[.slice A1 (n - 1) c1]) (by simp [results, Try.results61, go_sem, s4]) rfl ⟨A1, n - 1, c1, rfl, hsl, hfin⟩
end SoI
end Go.Proofs.Ytdlnglffimcopaa
