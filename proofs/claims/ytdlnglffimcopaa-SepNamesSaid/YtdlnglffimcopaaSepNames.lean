/- credencelaw16.SepNames, walked: it returns true. No condition. -/
import Derived.Test.YtdlnglffimcopaaAlive
namespace Go.Proofs.Ytdlnglffimcopaa.SepNames
open Go.RowKit

theorem look_loop (given named : List Int) : lookE [[0]] given named = 42 := by
  have h : checkP [[0]] = 42 := by
    unfold checkP
    rw [if_neg (by decide), if_neg (by decide), if_neg]
    rintro ⟨r, hr⟩
    have := hr 0 (by decide) 0 (by decide)
    omega
  unfold lookE
  rw [h, if_pos (by decide)]
theorem look_5 : lookE smallP [5] [] = 3 := lookE_bad1 small_check (by decide)
theorem look_nil : lookE [] [] [] = 0 := lookE_ok (checkP_0 (by decide) (by decide) ⟨id, by decide⟩) (by decide) (by decide)
theorem told_nil : castL (toldL (toG []) [] (([] : List Int).map Int.toNat)) = [] := rfl

set_option maxRecDepth 100000 in
set_option maxHeartbeats 1600000 in
theorem law (w : World) : Calls Try.prog 11 #[] w fun e w' => e = .returned (.bool true) ∧ Below w.heap.size w w' := by
  obtain ⟨wa, hwa⟩ : ∃ wa : World, wa = w := ⟨_, rfl⟩
  subst hwa
  have r1 : Rows (Value.int .i64) (((wa.alloc (.cells #[.int .i64 0] 3)).alloc (.cells #[.slice (some ⟨wa.heap.size, 0, none⟩) 1 1] 23)).alloc (.cells #[.int .i64 9] 3)) (some ⟨wa.heap.size + 1, 0, none⟩) 1 [[0]] := by
    have h1 : Sl (Value.int .i64) (wa.alloc (.cells #[.int .i64 0] 3)) (some ⟨wa.heap.size, 0, none⟩) 1 [0] := sl_lit wa [0] (by simp)
    have hr : RowAt eS ((wa.alloc (.cells #[.int .i64 0] 3)).alloc (.cells #[.slice (some ⟨wa.heap.size, 0, none⟩) 1 1] 23)) (wa.alloc (.cells #[.int .i64 0] 3)).heap.size 23 [(some ⟨wa.heap.size, 0, none⟩, 1, 1)] [] := RowC.new _ 23 _
    rw [alloc_size] at hr
    refine Rows.below (w := (wa.alloc (.cells #[.int .i64 0] 3)).alloc (.cells #[.slice (some ⟨wa.heap.size, 0, none⟩) 1 1] 23)) ⟨⟨_, hr.sl (by simp), fun i hi => ?_⟩, rfl⟩ (Nat.le_refl _) ((Below.refl _ _).alloc (Nat.le_refl _) _)
    obtain rfl : i = 0 := by omega
    exact ⟨h1.alloc _, Nat.le_refl _⟩
  have x1 : Sl (Value.int .i64) (((wa.alloc (.cells #[.int .i64 0] 3)).alloc (.cells #[.slice (some ⟨wa.heap.size, 0, none⟩) 1 1] 23)).alloc (.cells #[.int .i64 9] 3)) (some ⟨wa.heap.size + 1 + 1, 0, none⟩) 1 [9] := by
    have := sl_lit ((wa.alloc (.cells #[.int .i64 0] 3)).alloc (.cells #[.slice (some ⟨wa.heap.size, 0, none⟩) 1 1] 23)) [9] (by simp)
    rw [alloc_size, alloc_size] at this; exact this
  have hbw : Below wa.heap.size wa (((wa.alloc (.cells #[.int .i64 0] 3)).alloc (.cells #[.slice (some ⟨wa.heap.size, 0, none⟩) 1 1] 23)).alloc (.cells #[.int .i64 9] 3)) := (((Below.refl wa.heap.size wa).alloc (Nat.le_refl _) _).alloc (by simp) _).alloc (by simp; omega) _
  have HB := Lib.hid hbw
  clear hbw
  go_enter Try.func11, Try.ntmps11
  go_wp2_with fail
  refine (apart_any _ _ none none 1 1 1 1 0 0 0 0 [[0]] [9] [] [] _ r1 x1 (Sl.nil _ _ _) (Sl.nil _ _ _) (by omega) (by omega) (by omega) (by omega) (by omega) (by omega)).mono ?_
  rintro e w2 ⟨rfl, hb2⟩
  rw [look_loop]
  generalize apartB [[0]] [9] [] [] = z at *
  have HB := Lib.hid (HB.out.trans (hb2.mono HB.out.size))
  clear hb2 r1 x1
  go_wp2_with fail
  refine (small_any _).mono ?_
  rintro e w3 ⟨A1, rfl, hR1, hb1⟩
  have hbw := HB.out.trans (hb1.mono HB.out.size)
  have hr1 := hR1.below (Nat.le_refl _) ((Below.refl w3.heap.size w3).alloc (Nat.le_refl _) (.cells #[.int .i64 5] 3))
  have x1 : Sl (Value.int .i64) (w3.alloc (.cells #[.int .i64 5] 3)) (some ⟨w3.heap.size, 0, none⟩) 1 [5] := sl_lit w3 [5] (by simp)
  have HB := Lib.hid (hbw.alloc hbw.size (.cells #[.int .i64 5] 3))
  clear hb1 hR1 hbw
  go_wp2_with fail
  refine (tells_any A1 none _ 5 5 0 0 1 1 smallP [] [5] _ hr1 (Sl.nil _ _ _) x1 (by omega) (by omega)).mono ?_
  rintro e w4 ⟨hb2, C, k, d, rfl, _, _⟩
  rw [look_5]
  have HB := Lib.hid (HB.out.trans (hb2.mono HB.out.size))
  clear hb2 hr1 x1
  go_wp2_with fail
  refine (tells_any none none none 0 0 0 0 0 0 [] [] [] _ ⟨⟨[], Sl.nil _ _ _, fun i hi => by omega⟩, rfl⟩ (Sl.nil _ _ _) (Sl.nil _ _ _) (by omega) (by omega)).mono ?_
  rintro e w5 ⟨hb2, C2, k2, d2, rfl, _, h5⟩
  have h5 := (h5 look_nil).length
  rw [told_nil] at h5
  rw [look_nil]
  obtain rfl : k2 = 0 := by simpa using h5.symm
  have HB := Lib.hid (HB.out.trans (hb2.mono HB.out.size))
  clear hb2 h5
  go_wp2_with fail
  refine (alive_any _).mono ?_
  rintro e w6 ⟨rfl, hb6⟩
  have HB := Lib.hid (HB.out.trans (hb6.mono HB.out.size))
  clear hb6
  go_wp2_with fail
  go_ret
  exact ⟨rfl, HB.out⟩
end Go.Proofs.Ytdlnglffimcopaa.SepNames
