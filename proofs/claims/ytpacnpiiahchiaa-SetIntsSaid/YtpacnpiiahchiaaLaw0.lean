/- credencelaw11.ints and alive, walked: what the statements of layer 11 ask of. Conditions: the slices read as lists. -/
import Derived.Test.YtpacnpiiahchiaaSet1I
import Derived.Test.YtpacnpiiahchiaaSet3I
import Derived.Outline
namespace Go.Proofs.Ytpacnpiiahchiaa
open Go.RowKit

/-- a slice literal -/
theorem Sl.lit {α : Type} [Inhabited α] (enc : α → Value) (w : World) (e : TypeId) (xs : List α) (h : xs.length ≤ 140737488351232) : Sl enc (w.alloc (.cells (xs.map enc).toArray e)) (some ⟨w.heap.size, 0, none⟩) xs.length xs :=
  ⟨rfl, h, fun _ => ⟨w.heap.size, 0, rfl, by simp, fun j hj => by
    rw [cell_of_row _ _ _ _ _ _ (heap_alloc_new w _), Nat.zero_add]
    simp only [List.getElem?_toArray, List.getElem?_map, nth_get? hj]
    rfl⟩⟩

theorem ints_any (A A' : Option Addr) (n c n' c' : Nat) (xs ys : List Int) (w : World) (hx : Sl (Value.int .i64) w A n xs) (hy : Sl (Value.int .i64) w A' n' ys) :
    Calls Try.prog 15 #[.slice A n c, .slice A' n' c'] w fun e w' => e = .returned (.bool (decide (xs = ys))) ∧ ∃ k, w' = w.drewN k := by
  obtain ⟨lx, bx, ax⟩ := hx
  obtain ⟨ly, bY, ay⟩ := hy
  by_cases hnn : n = n'
  · subst hnn
    have HL := Lib.hid (And.intro lx ly); clear lx ly
    go_enter Try.func15, Try.ntmps15
    go_wp2
    go_loopw [5] (fun i wr => ∃ k m : Nat, k ≤ n ∧ i = .int .i64 k ∧ wr = w.drewN m ∧ ∀ j, j < k → nth xs j = nth ys j) (fun i _ => n - (intOf i).toNat)
    case atStart => exact ⟨0, 0, Nat.zero_le _, rfl, rfl, by intro j hj; omega⟩
    case round =>
      obtain ⟨k, m, hk, rfl, rfl, heq⟩ := hrel
      have HQ := Lib.hid heq; clear heq
      by_cases hlt : k < n
      · obtain ⟨b, off, rfl, hb, hc⟩ := ax (by omega)
        obtain ⟨b', off', rfl, hb', hc'⟩ := ay (by omega)
        have g1 := hc k hlt
        have g2 := hc' k hlt
        clear hc hc' ax ay
        go_wp2
        go_quiet (fail)
        go_wp2
        · go_ret
          refine ⟨ret_bool ?_, ⟨_, World.drewN_drewN _ _ _⟩⟩
          have hne : nth xs k ≠ nth ys k := by
            have h : (nth xs k != nth ys k) = true := by assumption
            simpa using h
          have : xs ≠ ys := by rintro rfl; exact hne rfl
          simp [this]
        · have he : nth xs k = nth ys k := by
            have h : (nth xs k != nth ys k) = false := by assumption
            simpa using h
          go_roundw
          case rel => exact ⟨k + 1, m + nq, by omega, by go_num, rfl, fun j hj => by
            by_cases h : j < k
            · exact HQ.out j h
            · obtain rfl : j = k := by omega
              exact he⟩
          case measure => simp [intOf]; omega
      · clear ax ay
        go_wp2
        go_ret
        refine ⟨ret_bool ?_, ⟨_, rfl⟩⟩
        have : xs = ys := nth_ext (by rw [HL.out.1, HL.out.2]) (fun j hj => HQ.out j (by have := HL.out.1; omega))
        simp [this]
  · have hne : ((n : Int) != (n' : Int)) = true := by rw [bne_iff_ne]; omega
    go_enter Try.func15, Try.ntmps15
    go_wp2
    go_ret
    refine ⟨ret_bool ?_, 0, rfl⟩
    have : xs ≠ ys := by intro h; rw [h] at lx; omega
    simp [this]

theorem sl_of_own {w : World} {base : Nat} {A : Option Addr} {n c : Nat} {xs : List Int} (h : OwnR (Value.int .i64) w base 3 A n c xs) (hb : xs.length ≤ 140737488351232) : Sl (Value.int .i64) w A n xs := h.sl (by rw [← h.length]; exact hb)

set_option maxRecDepth 100000 in
set_option maxHeartbeats 1600000 in
theorem alive_any (w : World) : Calls Try.prog 10 #[] w fun e w' => e = .returned (.bool true) ∧ Below w.heap.size w w' := by
  have l0 : Sl (Value.int .i64) (w.alloc (.cells #[.int .i64 3, .int .i64 1, .int .i64 3, .int .i64 2] 3)) (some ⟨w.heap.size, 0, none⟩) 4 [3, 1, 3, 2] := Sl.lit (Value.int .i64) w 3 [3, 1, 3, 2] (by simp)
  have z1 : setOf cmpI [3, 1, 3, 2] = [1, 2, 3] := by decide
  go_enter Try.func10, Try.ntmps10
  go_wp2_with fail
  refine (SoI.of_any _ 4 _ [3, 1, 3, 2] _ l0 (by omega)).mono ?_
  rintro e w1 ⟨A1, n1, c1, rfl, how1, hb1⟩
  rw [z1] at how1
  have e1 : n1 = 3 := by have := how1.length; simpa using this.symm
  subst e1
  have hsl1 := sl_of_own how1 (by simp)
  have hB1 : Below w.heap.size w w1 := ((Below.refl _ _).alloc (Nat.le_refl _) _).trans (hb1.mono (by simp))
  clear hb1 how1 l0 z1
  have bx := RowC.new w1 25 [.slice A1 3 c1]
  have hB1' : Below w.heap.size w (w1.alloc (.cells #[.slice A1 3 c1] 25)) := hB1.alloc hB1.size _
  have hs1 := hsl1.alloc (.cells #[.slice A1 3 c1] 25)
  have hsz : w.heap.size ≤ (w1.alloc (.cells #[.slice A1 3 c1] 25)).heap.size := hB1'.size
  have asc1 : Asc cmpI [1, 2, 3] := asc_setOf cmpokI [3, 1, 3, 2]
  go_wp2_with fail
  -- List
  refine (SoI.list_any A1 3 c1 [1, 2, 3] _ hs1 (by omega)).mono ?_
  rintro e w2 ⟨A2, c2, rfl, how2, hb2⟩
  have hsl2 := sl_of_own how2 (by simp)
  have bx2 := bx.below' hb2
  have hs2 := hs1.below (Nat.le_refl _) hb2
  have hB2 := hB1'.trans (hb2.mono hsz)
  clear how2 hb2 bx hs1 hB1' hB1
  generalize hq : w1.heap.size = q at bx2 ⊢
  clear hq
  have r2 := bx2.cell 0
  go_wp2_with fail
  -- ints
  have l1 : Sl (Value.int .i64) (w2.alloc (.cells #[.int .i64 1, .int .i64 2, .int .i64 3] 3)) (some ⟨w2.heap.size, 0, none⟩) 3 [1, 2, 3] := Sl.lit (Value.int .i64) w2 3 [1, 2, 3] (by simp)
  refine (ints_any A2 _ 3 c2 3 _ [1, 2, 3] [1, 2, 3] _ (hsl2.alloc _) l1).mono ?_
  rintro e w3 ⟨rfl, k3, rfl⟩
  have bx3 := (bx2.alloc (.cells #[.int .i64 1, .int .i64 2, .int .i64 3] 3)).drewN k3
  have hs3 := (hs2.alloc (.cells #[.int .i64 1, .int .i64 2, .int .i64 3] 3)).drewN k3
  have hB3 := below_drewN (hB2.alloc hB2.size (.cells #[.int .i64 1, .int .i64 2, .int .i64 3] 3)) k3
  generalize hw3 : (w2.alloc (.cells #[.int .i64 1, .int .i64 2, .int .i64 3] 3)).drewN k3 = w3 at *
  clear hw3 hB2 hs2 bx2 hsl2 l1 r2
  have r3 := bx3.cell 0
  go_wp2_with fail
  -- Has(3), Has(4)
  have v3 : isIn cmpI 3 [1, 2, 3] = true := by decide
  have v4 : isIn cmpI 4 [1, 2, 3] = false := by decide
  have hz3 : w.heap.size ≤ w3.heap.size := hB3.size
  refine (SoI.has_any A1 3 c1 [1, 2, 3] 3 _ hs3 asc1).mono ?_
  rintro e w4 ⟨rfl, hb4⟩
  rw [v3]
  have bx4 := bx3.below' hb4
  have hs4 := hs3.below (Nat.le_refl _) hb4
  have hB4 := hB3.trans (hb4.mono hz3)
  have r4 := bx4.cell 0
  have hz4 : w.heap.size ≤ w4.heap.size := hB4.size
  clear hb4 bx3 hs3 hB3 r3 hz3 v3
  go_wp2_with fail
  refine (SoI.has_any A1 3 c1 [1, 2, 3] 4 _ hs4 asc1).mono ?_
  rintro e w5 ⟨rfl, hb5⟩
  rw [v4]
  have bx5 := bx4.below' hb5
  have hs5 := hs4.below (Nat.le_refl _) hb5
  have hB5 := hB4.trans (hb5.mono hz4)
  have r5 := bx5.cell 0
  have hz5 : w.heap.size ≤ w5.heap.size := hB5.size
  clear hb5 bx4 hs4 hB4 r4 hz4 v4
  go_wp2_with fail
  -- Without(2), List, ints
  have v6 : rem cmpI 2 [1, 2, 3] = [1, 3] := by decide
  refine (SoI.without_any A1 3 c1 [1, 2, 3] 2 _ hs5 asc1 (by omega)).mono ?_
  rintro e w6 ⟨A6, n6, c6, rfl, hs6, hb6⟩
  rw [v6] at hs6
  have e6 : n6 = 2 := by have := hs6.len; simpa using this.symm
  subst e6
  have hB6 := hB5.trans (hb6.mono hz5)
  have hz6 : w.heap.size ≤ w6.heap.size := hB6.size
  clear hb6 bx5 hs5 hB5 r5 hz5 v6
  go_wp2_with fail
  refine (SoI.list_any A6 2 c6 [1, 3] _ hs6 (by omega)).mono ?_
  rintro e w7 ⟨A7, c7, rfl, how7, hb7⟩
  have hs7 := sl_of_own how7 (by simp)
  have hB7 := hB6.trans (hb7.mono hz6)
  clear how7 hb7 hs6 hB6 hz6
  go_wp2_with fail
  have l7 : Sl (Value.int .i64) (w7.alloc (.cells #[.int .i64 1, .int .i64 3] 3)) (some ⟨w7.heap.size, 0, none⟩) 2 [1, 3] := Sl.lit (Value.int .i64) w7 3 [1, 3] (by simp)
  refine (ints_any A7 _ 2 c7 2 _ [1, 3] [1, 3] _ (hs7.alloc _) l7).mono ?_
  rintro e w8 ⟨rfl, k8, rfl⟩
  have hB8 := below_drewN (hB7.alloc hB7.size (.cells #[.int .i64 1, .int .i64 3] 3)) k8
  go_wp2_with fail
  go_ret
  exact ⟨rfl, hB8⟩
end Go.Proofs.Ytpacnpiiahchiaa
