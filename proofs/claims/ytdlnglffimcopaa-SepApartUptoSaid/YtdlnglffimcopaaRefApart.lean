/- credenceref16.Apart, walked. Conditions: the parents and the points within Go's bound. -/
import Derived.Test.YtdlnglffimcopaaHuntAll
import Derived.Test.YtdlnglffimcopaaApart
namespace Go.Proofs.Ytdlnglffimcopaa
open Go.RowKit

theorem apart_no {Ps : List (List Int)} {a b given : List Int} (h : lookE Ps given (a ++ b) = 0) {j : Nat} (hj : j < b.length) (hy : nth b j ∈ toldC Ps a given) : apartB Ps a b given = false := by
  unfold apartB
  rw [if_pos h, decide_eq_false_iff_not]
  exact fun h1 => h1 _ (nth_mem hj) hy
theorem apart_yes {Ps : List (List Int)} {a b given : List Int} (h : lookE Ps given (a ++ b) = 0) (hy : ∀ j, j < b.length → nth b j ∉ toldC Ps a given) : apartB Ps a b given = true := by
  unfold apartB
  rw [if_pos h, decide_eq_true_iff]
  intro y hy1
  obtain ⟨j, hj, rfl⟩ := mem_nth hy1
  exact hy j hj

set_option maxRecDepth 100000 in
set_option maxHeartbeats 800000 in
theorem apart_ref (A B0 B1 C0 : Option Addr) (n c m1 d1 m2 d2 m3 d3 : Nat) (Ps : List (List Int)) (a b given : List Int) (w : World) (h : Rows (Value.int .i64) w A n Ps) (ha : Sl (Value.int .i64) w B0 m1 a) (hb : Sl (Value.int .i64) w B1 m2 b) (hg : Sl (Value.int .i64) w C0 m3 given)
    (hn : n * 24 ≤ 140737488351232) (hsum : (m1 + m2 + m3) * 8 ≤ 140737488355328) :
    Calls Try.prog 24 #[.slice A n c, .slice B0 m1 d1, .slice B1 m2 d2, .slice C0 m3 d3] w (ApartPost w Ps a b given) := by
  obtain ⟨wa, hwa⟩ : ∃ wa : World, wa = w := ⟨_, rfl⟩
  subst hwa
  have HL := Lib.hid (And.intro h.len (And.intro ha.len (And.intro hb.len (And.intro hg.len (And.intro h (And.intro ha (And.intro hb hg)))))))
  have hemp : OwnR (Value.int .i64) (wa.alloc (.cells #[] 3)) wa.heap.size 3 (some ⟨wa.heap.size, 0, none⟩) 0 0 [] := by
    have hr : RowAt (Value.int .i64) (wa.alloc (.cells #[] 3)) wa.heap.size 3 ([] : List Int) [] := RowC.new wa 3 []
    exact OwnR.of_row' hr (Nat.le_refl _) rfl (by unfold maxLen; omega) rfl
  have hb0 : Below wa.heap.size wa (wa.alloc (.cells #[] 3)) := (Below.refl wa.heap.size wa).alloc (Nat.le_refl _) (.cells #[] 3)
  have ha0 := ha.below (Nat.le_refl _) hb0
  have hz0 := hb0.size
  clear h ha hb hg
  go_enter Try.func24, Try.ntmps24
  go_wp2_with (first
    | (at_builtin; (with_reducible refine wpList_app _ eiInt (Value.int .i64) (fun _ => rfl) rfl _ _ rfl wa.heap.size _ _ _ _ rfl hemp _ _ _ _ rfl ha0 (by omega) hz0 ?_))
    | fail)
  intro A8 c8 w8 ho8 _ hb8 _
  have ho8 : OwnR (Value.int .i64) w8 wa.heap.size 3 A8 m1 c8 a := by first | exact ho8 | simpa using ho8
  try simp only [Nat.zero_add]
  have hb8' : Below wa.heap.size wa w8 := hb0.trans hb8
  have hz8 := hb8'.size
  have h8b := HL.out.2.2.2.2.2.2.1.below (Nat.le_refl _) hb8'
  have HB8 := Lib.hid hb8'
  clear hb8 hb8' hb0 ha0 hz0 hemp
  go_wp2_with (first
    | (at_builtin; (with_reducible refine wpList_app _ eiInt (Value.int .i64) (fun _ => rfl) rfl _ _ rfl wa.heap.size _ _ _ _ rfl ho8 _ _ _ _ rfl h8b (by omega) hz8 ?_))
    | fail)
  intro A9 c9 w9 ho9 _ hb9 _
  have hb9' : Below wa.heap.size wa w9 := HB8.out.trans hb9
  have hz9 := hb9'.size
  have h9g := HL.out.2.2.2.2.2.2.2.below (Nat.le_refl _) hb9'
  have HB9 := Lib.hid hb9'
  clear hb9 hb9' ho8 hz8 h8b
  go_wp2_with (first
    | (at_builtin; (with_reducible refine wpList_app _ eiInt (Value.int .i64) (fun _ => rfl) rfl _ _ rfl wa.heap.size _ _ _ _ rfl ho9 _ _ _ _ rfl h9g hsum hz9 ?_))
    | fail)
  intro A7 c7 w7 ho7 _ hb7 _
  have hb7' : Below wa.heap.size wa w7 := HB9.out.trans hb7
  have hz7 := hb7'.size
  have h7s := ho7.sl (by omega)
  try rw [← List.append_assoc] at h7s
  have h7r := HL.out.2.2.2.2.1.below (Nat.le_refl _) hb7'
  have HB7 := Lib.hid hb7'
  clear hb7 hb7' ho9 hz9 h9g ho7
  go_wp2_with fail
  refine (bad_ref A A7 n c (m1 + m2 + m3) c7 Ps (a ++ b ++ given) _ h7r h7s hn).mono ?_
  rintro e w6 ⟨rfl, hb6⟩
  rw [lookE_app]
  have hbw : Below wa.heap.size wa w6 := HB7.out.trans (hb6.mono hz7)
  have h6r := HL.out.2.2.2.2.1.below (Nat.le_refl _) hbw
  have h6a := HL.out.2.2.2.2.2.1.below (Nat.le_refl _) hbw
  have h6g := HL.out.2.2.2.2.2.2.2.below (Nat.le_refl _) hbw
  have hz6 := hbw.size
  have HB6 := Lib.hid hbw
  clear hb6 hbw h7r h7s hz7
  by_cases hE : lookE Ps given (a ++ b) = 0
  · have HE := Lib.hid hE
    rw [hE]
    clear hE
    go_wp2_with fail
    refine (rreach_ref A B0 C0 n c m1 d1 m3 d3 Ps a given _ h6r h6a h6g hn (by omega)).mono ?_
    rintro e w5 ⟨hb5, C, q, dq, rfl, _, hT⟩
    have hT := hT (lookE_left HE.out)
    rw [lookE_left HE.out]
    have hbw : Below wa.heap.size wa w5 := HB6.out.trans (hb5.mono hz6)
    have h5b := HL.out.2.2.2.2.2.2.1.below (Nat.le_refl _) hbw
    have hb2 := h5b.big
    have HB5 := Lib.hid (And.intro hbw (And.intro h5b hT))
    clear hb5 hbw h5b hT h6r h6a h6g hz6
    go_wp2_with fail
    go_loopw [13] (fun i wr => ∃ j : Nat, i = .int .i64 (j : Nat) ∧ j ≤ m2 ∧ (∀ x, x < j → nth b x ∉ toldC Ps a given) ∧ wr = w5) (fun i _ => m2 - (intOf i).toNat)
    case atStart => exact ⟨0, rfl, Nat.zero_le _, fun x hx => by omega, rfl⟩
    case round =>
      obtain ⟨j, rfl, hj, hno, hwr⟩ := hrel
      have hwr := hwr.symm
      subst hwr
      have hno := Lib.hid hno
      by_cases hlt : j < m2
      · obtain ⟨bb, off, rfl, _, hc⟩ := HB5.out.2.1.at' (by omega)
        have g1 := hc j hlt
        have hjb : j < b.length := by rw [HL.out.2.2.1]; exact hlt
        have hin := fun hy => apart_no (a := a) HE.out hjb hy
        have hout : nth b j ∉ toldC Ps a given → ∀ x, x < j + 1 → nth b x ∉ toldC Ps a given := fun h x hx => by
          rcases Nat.lt_or_ge x j with h1 | h1
          · exact hno.out x h1
          · obtain rfl : x = j := by omega
            exact h
        have HS := Lib.hid (And.intro hin hout)
        clear hin hout hc hjb
        generalize nth b j = y at *
        go_wp2_with fail
        refine (has_ref C q dq _ y _ HB5.out.2.2).mono ?_
        rintro e w4 ⟨rfl, rfl⟩
        by_cases hy : y ∈ toldC Ps a given
        · have hd := HS.out.1 hy
          have HD := Lib.hid hd
          rw [show decide (y ∈ castL (toldL (toG Ps) given (a.map Int.toNat))) = true from decide_eq_true hy]
          clear hd hy
          go_wp2_with fail
          go_ret2
          exact ⟨by rw [HD.out, HE.out]; rfl, HB5.out.1⟩
        · have hd := HS.out.2 hy
          have HD := Lib.hid hd
          rw [show decide (y ∈ castL (toldL (toG Ps) given (a.map Int.toNat))) = false from decide_eq_false hy]
          clear hd hy
          go_wp2_with fail
          exact ⟨⟨j + 1, by go_num, by omega, HD.out, trivial⟩, by simp [intOf]; omega⟩
      · obtain rfl : j = m2 := by omega
        have hd := apart_yes (Ps := Ps) (a := a) (b := b) (given := given) HE.out (by rw [HL.out.2.2.1]; exact hno.out)
        have HD := Lib.hid hd
        clear hd
        go_wp2_with fail
        go_ret2
        exact ⟨by rw [HD.out, HE.out]; rfl, HB5.out.1⟩
  · have HE := Lib.hid (apartB_bad hE)
    clear h6r h6a h6g hz6
    go_wp2_with fail
    go_ret2
    exact ⟨by rw [HE.out]; rfl, HB6.out⟩
end Go.Proofs.Ytdlnglffimcopaa
