/- slices.Insert of one element into a slice of the call's own; With at int, walked. Conditions: the list rises; its length is within Go's bound. -/
import Derived.Test.YtdlnglffimcopaaSet3I
import Derived.Test.YtdlnglffimcopaaInsLayI
namespace Go.Proofs.Ytdlnglffimcopaa
open Go.RowKit
namespace SoI

theorem RowAt_of {w : World} {g : Nat} {xs : List Int} {cs rest : List Value} (h : RowC w g 3 cs) (e : cs = xs.map (Value.int .i64) ++ rest) : RowAt (Value.int .i64) w g 3 xs rest := by
  subst e; exact h
set_option maxHeartbeats 800000 in
set_option maxRecDepth 100000 in
theorem insert_any (base : Nat) (A : Option Addr) (n c i vb : Nat) (ii : Int) (xs : List Int) (x : Int) (w : World) (ei : ii = (i : Int)) (h : OwnR (Value.int .i64) w base 3 A n c xs) (hbig : (n + 1) * 8 ≤ 140737488355328) (hB : base ≤ w.heap.size) (hi : i ≤ n)
    (hv : RowC w vb 3 [Value.int .i64 x]) (hne : ∀ g, A = some ⟨g, 0, none⟩ → vb ≠ g) :
    Calls Try.prog 87 #[.slice A n c, .int .i64 ii, .slice (some ⟨vb, 0, none⟩) 1 1] w fun e w' => ∃ A' c', e = .returned (.slice A' (n + 1) c') ∧ OwnR (Value.int .i64) w' base 3 A' (n + 1) c' (xs.take i ++ x :: xs.drop i) ∧ Below base w w' := by
  subst ei
  have hl := h.length
  have hcap := h.cap
  have hmax := h.capmax
  have hmx := hmax
  unfold maxLen at hmax
  rcases Nat.lt_or_ge i n with hlt | hge
  · obtain ⟨g, rest, rfl, hbg, hr, hc⟩ := h.row (by omega)
    have hne := hne g rfl
    have hcell : ∀ j u, (xs.map (Value.int .i64))[j]? = some u → w.cell? ⟨g, 0 + j, none⟩ = some u := by
      intro j u hu
      rw [List.getElem?_map] at hu
      have hj : j < xs.length := by
        rcases Nat.lt_or_ge j xs.length with h1 | h1
        · exact h1
        · rw [List.getElem?_eq_none h1] at hu; cases hu
      rw [Nat.zero_add, hr.cell hj, ← hu, nth_get? hj]; rfl
    have hone : ∀ u ∈ xs.map (Value.int .i64), u.oneCell' = true := by
      intro u hu
      obtain ⟨y, _, rfl⟩ := List.mem_map.1 hu
      exact one y
    have hml : (xs.map (Value.int .i64)).length = n := by simpa using hl
    have hfin : (xs.map (Value.int .i64)).take i ++ Value.int .i64 x :: (xs.map (Value.int .i64)).drop i = (xs.take i ++ x :: xs.drop i).map (Value.int .i64) := by simp
    have hlen : (xs.take i ++ x :: xs.drop i).length = n + 1 := by simp; omega
    rcases Nat.lt_or_ge n c with hroom | hfull
    · have hsp : ∀ j, j < n + 1 → (w.cell? ⟨g, 0 + j, none⟩).isSome = true := by
        intro j hj
        rw [cell_of_row w g (0 + j) _ 3 (0, 0) hr]
        simp; omega
      have hsh : w.shape? g = some (3, (xs.map (Value.int .i64) ++ rest).length) := by
        have hr' := hr
        unfold RowAt at hr'
        simp [World.shape?, hr']
      have hsv : w.shape? vb = some (3, 1) := by
        have hv' := hv
        unfold RowC at hv'
        simp [World.shape?, hv']
      refine (ins_shift g n c i vb (xs.map (Value.int .i64)) (Value.int .i64 x) w hlt hroom (by omega) hne hml hcell hsp (fun j _ => hr.frozen _) (hv.cell 0) hone (one x) 3 3 1 _ hsv hsh (by rw [List.length_append, hml]; omega) (hv.frozen 0) (hv.frozen 1)).mono ?_
      rintro e w' ⟨rfl, rfl⟩
      have h2 : RowC w.drew g 3 (xs.map (Value.int .i64) ++ rest) := hr
      have h3 := RowC.lay [Value.int .i64 x] (0 + i) _ _ (RowC.lay ((xs.map (Value.int .i64)).drop i) (0 + (i + 1)) _ _ h2)
      rw [lay_shift hml hlt (by omega), hfin] at h3
      exact ⟨_, _, rfl, OwnR.of_row' (RowAt_of h3 rfl) hbg (by rw [hlen, List.length_drop]; omega) hmx hlen, grown_below (grown_setCells _ _ _ (grown_setCells _ _ _ (grown_drew (grown_refl _ _)))) hbg hB⟩
    · refine (ins_grow g n c i vb (xs.map (Value.int .i64)) (Value.int .i64 x) w hlt hcap (by omega) hbig hml hcell (hv.cell 0) hone (one x)).mono ?_
      rintro e w' ⟨Z, Y, cap, hZ, hY, hc1, hc2, rfl, rfl⟩
      have h2 := RowC.new w 3 ((xs.map (Value.int .i64)).take i ++ Z ++ Y)
      have h3 := RowC.lay [Value.int .i64 x] i _ _ (RowC.drew h2)
      have h4 := RowC.lay ((xs.map (Value.int .i64)).drop i) (i + 1) _ _ (RowC.drew h3)
      rw [lay_grow hml hlt hZ, hfin] at h4
      refine ⟨_, _, rfl, OwnR.of_row' (RowAt_of h4 rfl) hB (by rw [hlen]; omega) hc2 hlen, ?_⟩
      have g1 : w.grownBy (w.alloc (.cells ((xs.map (Value.int .i64)).take i ++ Z ++ Y).toArray 3)) (some w.heap.size) := grown_alloc (grown_refl _ _) _
      exact grown_below (grown_setCells _ _ _ (grown_drew (grown_setCells _ _ _ (grown_drew g1)))) hB hB
  · obtain rfl : i = n := by omega
    obtain ⟨i0, hi0, hz0, hz1, hz2⟩ := info_parts info
    have e1 : xs.take i ++ x :: xs.drop i = xs ++ [x] := by rw [List.take_of_length_le (by omega), List.drop_eq_nil_of_le (by omega)]
    have hx : Sl (Value.int .i64) w (some ⟨vb, 0, none⟩) 1 [x] := ⟨rfl, by omega, fun _ => ⟨vb, 0, rfl, hv.lt, fun j hj => by
      obtain rfl : j = 0 := by omega
      exact hv.cell 0⟩⟩
    rw [e1]
    have b1 : (i : Int) ≤ (c : Int) := by omega
    have b2 : (0 : Int) ≤ (i : Int) := by omega
    have b3 : ((i : Int) == (i : Int)) = true := by simp
    have k1 : i + 1 ≤ maxLen := by unfold maxLen; omega
    go_enter Try.func87, Try.ntmps87
    go_wp2_with (first
      | (at_builtin; refine wpList_append_sl _ (Value.int .i64) one rfl _ _ 23 rfl base 3 i0 (.int .i64 0) 8 Try.underlying23 hi0 hz0 hz1 hz2 rfl _ _ _ _ rfl h _ _ _ _ rfl hx k1 hbig hB ?_)
      | fail)
    all_goals
      intro A' c' w1 how _ hb' _
      go_wp2_with fail
      go_ret
      exact ⟨_, _, rfl, how, hb'⟩
set_option maxHeartbeats 800000 in
/-- With: the set with a thing put in, unless an equal one is in -/
theorem with_any (A : Option Addr) (n c : Nat) (xs : List Int) (x : Int) (w : World) (hx : Sl (Value.int .i64) w A n xs) (ha : Asc cmpI xs) (hb : (n + 1) * 8 ≤ 140737488355328) :
    Calls Try.prog 59 #[.agg #[.slice A n c], Value.int .i64 x] w fun e w' => ∃ A' k c', e = .returned (.agg #[.slice A' k c']) ∧ Sl (Value.int .i64) w' A' k (ins cmpI x xs) ∧ Below w.heap.size w w' := by
  have hbig := hx.big
  have hn := hx.len
  have hbox := RowC.new w 58 [.slice A n c]
  have hW : Below w.heap.size w ((w.alloc (.cells #[.slice A n c] 58)).alloc (.cells #[.slice none 0 0] 58)) := ((Below.refl _ _).alloc (Nat.le_refl _) _).alloc (by simp) _
  have hb1 := hbox.alloc (.cells #[.slice none 0 0] 58)
  have hb2 := RowC.new (w.alloc (.cells #[.slice A n c] 58)) 58 [.slice none 0 0]
  rw [show (w.alloc (.cells #[.slice A n c] 58)).heap.size = w.heap.size + 1 from by simp] at hb2
  have hx1 : Sl (Value.int .i64) ((w.alloc (.cells #[.slice A n c] 58)).alloc (.cells #[.slice none 0 0] 58)) A n xs := (hx.alloc _).alloc _
  have r1 := hb1.cell 0
  clear hbox
  have hsz : ((w.alloc (.cells #[.slice A n c] 58)).alloc (.cells #[.slice none 0 0] 58)).heap.size = w.heap.size + 1 + 1 := by simp
  rcases hin : isIn cmpI x xs
  · have HR := Lib.hid (And.intro hin (And.intro hin (And.intro hn (And.intro hx1 (And.intro hW (And.intro hb1 (And.intro hb2 hsz))))))); clear hin hn hx1 hW hb1 hb2 hsz
    go_enter Try.func59, Try.ntmps59
    go_wp2_with fail
    refine (find_any A n c xs x _ HR.out.2.2.2.1 ha).mono ?_
    rintro e w1 ⟨i, rfl, hp, hbel⟩
    rw [HR.out.2.1]
    rw [HR.out.2.2.2.2.2.2.2] at hbel
    have hins := hp.ins cmpokI HR.out.1 ha
    have q1 := HR.out.2.2.2.2.2.1.below hbel (by omega)
    have q2 := HR.out.2.2.2.2.2.2.1.below hbel (by omega)
    have s1 := q1.cell 0
    have hin' : i ≤ n := by have := hp.le; have := HR.out.2.2.1; omega
    have HM := Lib.hid hins; clear hins
    go_wp2_with fail
    have hsz1 : w.heap.size + 1 + 1 ≤ w1.heap.size := by have := hbel.size; rw [HR.out.2.2.2.2.2.2.2] at this; exact this
    refine (clone_any A n c xs _ (HR.out.2.2.2.1.below (by rw [HR.out.2.2.2.2.2.2.2]; exact Nat.le_refl _) hbel) (by omega)).mono ?_
    rintro e w2 ⟨A1, c1, rfl, how1, hbel2⟩
    go_wp2_with fail
    have hbel2' : Below w1.heap.size w1 (w2.alloc (.cells #[Value.int .i64 x] 3)) := hbel2.alloc hbel2.size _
    have how1' := how1.alloc (.cells #[Value.int .i64 x] 3)
    have hv := RowC.new w2 3 [Value.int .i64 x]
    refine (insert_any w1.heap.size A1 n c1 i w2.heap.size _ xs x _ rfl how1' hb hbel2'.size hin' hv (by
      rintro g rfl he
      rcases Nat.eq_zero_or_pos n with h0 | h0
      · have h1 := how1.2
        rcases h1 with ⟨h2, _⟩ | ⟨g', _, _, h2, _, h3, _⟩
        · injection h2 with h2; cases h2
        · injection h2 with h2 _ _
          injection h2 with h2
          injection h2 with h2
          have := (Array.getElem?_eq_some_iff.1 h3).1
          omega
      · obtain ⟨g', rest, h2, _, h3, _⟩ := how1.row h0
        injection h2 with h2
        injection h2 with h2
        have := h3.lt
        omega)).mono ?_
    rintro e w3 ⟨A3, c3, rfl, how2, hbel3⟩
    have hbel13 := (hbel2'.trans hbel3)
    have q3 := q2.below hbel13 (by omega)
    have s2 := q3.cell 0
    have s3 := q3.frozen 0
    have s4 : (w3.setCell ⟨w.heap.size + 1, 0, none⟩ (.slice A3 (n + 1) c3)).cell? ⟨w.heap.size + 1, 0, none⟩ = some (.slice A3 (n + 1) c3) := (q3.put 0 _).cell 0
    have hfin := (((HR.out.2.2.2.2.1.trans (hbel.mono (by omega))).trans (hbel13.mono (by omega)))).setCell (p := ⟨w.heap.size + 1, 0, none⟩) (Nat.le_succ _) (.slice A3 (n + 1) c3)
    have hsl : Sl (Value.int .i64) (w3.setCell ⟨w.heap.size + 1, 0, none⟩ (.slice A3 (n + 1) c3)) A3 (n + 1) (ins cmpI x xs) := by
      rw [HM.out]
      exact OwnR.sl (ownsRow_setCell_below how2 (show w.heap.size + 1 < w1.heap.size by omega) _) (by omega)
    go_wp2_with fail
    exact bodyPost_ret (v := .agg #[.slice A3 (n + 1) c3]) (by simp [results, Try.results59, go_sem, s4]) rfl ⟨A3, n + 1, c3, rfl, hsl, hfin⟩
  · have hins : ins cmpI x xs = xs := ins_in cmpokI ha hin
    have HR := Lib.hid (And.intro hins (And.intro hin (And.intro hn (And.intro hx1 (And.intro hW (And.intro hb1 (And.intro hb2 hsz))))))); clear hins hin hn hx1 hW hb1 hb2 hsz
    go_enter Try.func59, Try.ntmps59
    go_wp2_with fail
    refine (find_any A n c xs x _ HR.out.2.2.2.1 ha).mono ?_
    rintro e w1 ⟨i, rfl, hp, hbel⟩
    rw [HR.out.2.1]
    rw [HR.out.2.2.2.2.2.2.2] at hbel
    have q1 := HR.out.2.2.2.2.2.1.below hbel (by omega)
    have q2 := HR.out.2.2.2.2.2.2.1.below hbel (by omega)
    have s1 := q1.cell 0
    have s2 := q2.cell 0
    have s3 := q2.frozen 0
    have s4 : (w1.setCell ⟨w.heap.size + 1, 0, none⟩ (.slice A n c)).cell? ⟨w.heap.size + 1, 0, none⟩ = some (.slice A n c) := (q2.put 0 _).cell 0
    go_wp2_with fail
    have hfin := (HR.out.2.2.2.2.1.trans (hbel.mono (by omega))).setCell (p := ⟨w.heap.size + 1, 0, none⟩) (Nat.le_succ _) (.slice A n c)
    exact bodyPost_ret (v := .agg #[.slice A n c]) (by simp [results, Try.results59, go_sem, s4]) rfl ⟨A, n, c, rfl, by rw [HR.out.1]; exact hx.below (Nat.le_refl _) hfin, hfin⟩
end SoI
end Go.Proofs.Ytdlnglffimcopaa
