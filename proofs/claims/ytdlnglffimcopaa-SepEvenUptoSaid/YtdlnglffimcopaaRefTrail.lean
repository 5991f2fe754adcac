/- credenceref16.Trail, walked: the least of the shortest trails, by all trails. Conditions: the parents and the points within Go's bound. -/
import Derived.Test.YtdlnglffimcopaaHuntAll
import Derived.Test.YtdlnglffimcopaaDist
namespace Go.Proofs.Ytdlnglffimcopaa
open Go.RowKit

open Classical in
/-- the best trail, if there is one -/
noncomputable def bestO (G : List (List Nat)) (given : List Int) (a b : Nat) : Option (List Nat) := if h : ∃ o, BestT G (Zp given) (Ap G given) a b o then Classical.choose h else none
theorem bestO_eq {G : List (List Nat)} {given : List Int} {a b : Nat} {o : Option (List Nat)} (h : BestT G (Zp given) (Ap G given) a b o) : bestO G given a b = o := by
  have hx : ∃ o, BestT G (Zp given) (Ap G given) a b o := ⟨o, h⟩
  unfold bestO
  rw [dif_pos hx]
  exact (Classical.choose_spec hx).uniq h
/-- what Trail tells -/
noncomputable def trailW (Ps : List (List Int)) (a b : Int) (given : List Int) : List Int := if lookE Ps given [a, b] = 0 then castL ((bestO (toG Ps) given a.toNat b.toNat).getD []) else []
theorem look_two {Ps : List (List Int)} {a b : Int} {given : List Int} (h : lookE Ps given [a, b] = 0) : (0 ≤ a ∧ a < (Ps.length : Int)) ∧ (0 ≤ b ∧ b < (Ps.length : Int)) := by
  obtain ⟨_, _, h3⟩ := lookE_inv h
  rw [inRow_iff] at h3
  exact ⟨h3 a (by simp), h3 b (by simp)⟩

set_option maxRecDepth 100000 in
set_option maxHeartbeats 800000 in
theorem trail_ref (A C0 : Option Addr) (n c m3 d3 : Nat) (Ps : List (List Int)) (a b : Int) (given : List Int) (w : World) (h : Rows (Value.int .i64) w A n Ps) (hg : Sl (Value.int .i64) w C0 m3 given)
    (hn : n * 24 ≤ 140737488351232) (hm3 : (2 + m3) * 8 ≤ 140737488355328) :
    Calls Try.prog 22 #[.slice A n c, .int .i64 a, .int .i64 b, .slice C0 m3 d3] w fun e w' => ∃ X q r, e = .returned (.tuple #[.slice X q r, .int .i64 (lookE Ps given [a, b])]) ∧ Sl (Value.int .i64) w' X q (trailW Ps a b given) ∧ Below w.heap.size w w' := by
  obtain ⟨wa, hwa⟩ : ∃ wa : World, wa = w := ⟨_, rfl⟩
  subst hwa
  have hlen := h.len
  have HL := Lib.hid (And.intro h (And.intro hg hlen))
  have hown : OwnR (Value.int .i64) (wa.alloc (.cells #[.int .i64 a, .int .i64 b] 3)) wa.heap.size 3 (some ⟨wa.heap.size, 0, none⟩) 2 2 [a, b] := by
    have hr : RowAt (Value.int .i64) (wa.alloc (.cells #[.int .i64 a, .int .i64 b] 3)) wa.heap.size 3 [a, b] [] := RowC.new wa 3 [.int .i64 a, .int .i64 b]
    exact OwnR.of_row' hr (Nat.le_refl _) rfl (by unfold maxLen; omega) rfl
  have hb0 : Below wa.heap.size wa (wa.alloc (.cells #[.int .i64 a, .int .i64 b] 3)) := (Below.refl wa.heap.size wa).alloc (Nat.le_refl _) _
  have hg0 := hg.below (Nat.le_refl _) hb0
  have hz0 := hb0.size
  clear h hg
  go_enter Try.func22, Try.ntmps22
  go_wp2_with (first
    | (at_builtin; (with_reducible refine wpList_app _ eiInt (Value.int .i64) (fun _ => rfl) rfl _ _ rfl wa.heap.size _ _ _ _ rfl hown _ _ _ _ rfl hg0 hm3 hz0 ?_))
    | fail)
  intro A8 c8 w8 ho8 _ hb8 _
  have hb8' : Below wa.heap.size wa w8 := hb0.trans hb8
  have hz8 := hb8'.size
  have hs8 := ho8.sl (by omega)
  have hr8 := HL.out.1.below (Nat.le_refl _) hb8'
  have HB8 := Lib.hid hb8'
  clear hb8 hb8' hb0 hz0 hown hg0 ho8
  go_wp2_with fail
  refine (bad_ref A A8 n c (2 + m3) c8 Ps ([a, b] ++ given) _ hr8 hs8 hn).mono ?_
  rintro e w6 ⟨rfl, hb6⟩
  rw [lookE_app]
  have hbw : Below wa.heap.size wa w6 := HB8.out.trans (hb6.mono hz8)
  have h6r := HL.out.1.below (Nat.le_refl _) hbw
  have h6g := HL.out.2.1.below (Nat.le_refl _) hbw
  have HB6 := Lib.hid hbw
  clear hb6 hbw hr8 hs8 hz8
  by_cases hE : lookE Ps given [a, b] = 0
  · have HE := Lib.hid hE
    obtain ⟨⟨ha1, ha2⟩, hb1, hb2⟩ := look_two hE
    obtain ⟨hck, hin1, _⟩ := lookE_inv hE
    rw [hE]
    obtain ⟨x, rfl⟩ : ∃ x : Nat, a = (x : Int) := ⟨a.toNat, by omega⟩
    obtain ⟨y, rfl⟩ : ∃ y : Nat, b = (y : Int) := ⟨b.toNat, by omega⟩
    rw [hlen] at hin1
    have hxn : x < n := by omega
    clear hE
    go_wp2_with fail
    refine (start_ref A C0 n c m3 d3 Ps given x (y : Int) _ h6r h6g hck hin1 hxn hn).mono ?_
    rintro e w5 ⟨wz, UA, mu, ud, hb, cb, L1, BA, bn, bc, bo, rfl, hb5, _, hM5, _, hH5⟩
    have hbest := bestO_eq (hH5.best rfl)
    have hbw : Below wa.heap.size wa w5 := HB6.out.trans (hb5.mono HB6.out.size)
    have r4 := hM5.row.cell 4
    simp only [List.getElem?_cons_zero, List.getElem?_cons_succ] at r4
    have hsl : Sl (Value.int .i64) w5 BA bn (castL (bo.getD [])) := by
      rcases hM5.best with ⟨rfl, rfl, rfl, rfl⟩ | ⟨t, rfl, _, ho⟩
      · exact Sl.nil _ _ _
      · have h1 := ho.sl (by
          have h2 := ho.length
          obtain ⟨⟨z, l, ⟨_, h4⟩, _, _, h5⟩, _⟩ := hH5.bsome t rfl
          have h6 := h4.length_le (by rw [toG_length, hlen]; exact hxn)
          rw [toG_length, hlen] at h6
          rw [h5, List.length_reverse] at h2
          omega)
        exact h1.toInt
    have HF := Lib.hid (And.intro hbw (And.intro hsl hbest))
    clear hbw hsl hbest hb5 hM5 hH5
    go_wp2_with fail
    go_ret2
    refine ⟨BA, bn, bc, by rw [HE.out]; rfl, ?_, HF.out.1⟩
    unfold trailW
    rw [if_pos HE.out, Int.toNat_natCast, Int.toNat_natCast, HF.out.2.2]
    exact HF.out.2.1
  · have HE := Lib.hid hE
    clear h6r h6g
    go_wp2_with fail
    go_ret2
    refine ⟨none, 0, 0, rfl, ?_, HB6.out⟩
    unfold trailW
    rw [if_neg HE.out]
    exact Sl.nil _ _ _
end Go.Proofs.Ytdlnglffimcopaa
