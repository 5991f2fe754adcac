/- credencelaw11.SetLaws, walked: it returns true. Condition: the slices read as lists. -/
import Derived.Test.YtpacnpiiahchiaaBag
import Derived.Test.YtpacnpiiahchiaaRises
import Derived.Deep.RegionHeld3
import Derived.Deep.DeepCutAuto
import Derived.IntWalk
namespace Go.Proofs.Ytpacnpiiahchiaa.SetLaws
open Go.RowKit

/-- of a list its set -/
def inB (xs : List Int) (z : Int) : Bool := decide (z ∈ xs)
theorem of_set (w w' : World) (A : Option Addr) (k c : Nat) (xs : List Int) (hx : xs.length ≤ 1000) (how : OwnR (Value.int .i64) w' (w.heap.size + 1) 3 A k c (setOf cmpI xs)) :
    IsSet w' (.agg #[.slice A k c]) (inB xs) 1000 := by
  have h1 := setOf_length_le (c := cmpI) xs
  have h2 := how.length
  refine ⟨A, k, c, setOf cmpI xs, rfl, how.sl (by omega), asc_setOf cmpokI xs, fun z => ?_, by omega⟩
  rw [Rises.mem_setOf_int]; simp [inB]

theorem card_set (xs : List Int) : Card (inB xs) (setOf cmpI xs).length := ⟨setOf cmpI xs, asc_setOf cmpokI xs, fun z => by rw [Rises.mem_setOf_int]; simp [inB], rfl⟩
theorem counts (xs ys : List Int) (hx : xs.length ≤ 1000) (hy : ys.length ≤ 1000) : ∃ nj nm nx ny : Nat, Card (fun z => inB xs z || inB ys z) nj ∧ Card (fun z => inB xs z && inB ys z) nm ∧ Card (inB xs) nx ∧ Card (inB ys) ny ∧
    IntKind.i64.wrap ((nj : Int) + (nm : Int)) = ((nx + ny : Nat) : Int) ∧ IntKind.i64.wrap ((nx : Int) + (ny : Int)) = ((nx + ny : Nat) : Int) := by
  have hj : Card (fun z => inB xs z || inB ys z) (setOf cmpI (xs ++ ys)).length := (card_set (xs ++ ys)).congr fun z => by simp [inB]
  have hm := Card.filter (inB ys) (asc_setOf cmpokI xs) (P := inB xs) (fun z => by rw [Rises.mem_setOf_int]; simp [inB])
  have e := card_law hj hm (card_set xs) (card_set ys)
  have e1 := setOf_length_le (c := cmpI) xs
  have e2 := setOf_length_le (c := cmpI) ys
  refine ⟨_, _, _, _, hj, hm, card_set xs, card_set ys, ?_, ?_⟩
  · rw [IntWalk.i64_in _ (by omega)]; omega
  · rw [IntWalk.i64_in _ (by omega)]; omega


set_option maxRecDepth 100000 in
set_option maxHeartbeats 16000000 in
theorem law (A1 A2 A3 : Option Addr) (n1 n2 n3 c1 c2 c3 : Nat) (xs ys zs : List Int) (w : World) (h1 : Sl (Value.int .i64) w A1 n1 xs) (h2 : Sl (Value.int .i64) w A2 n2 ys) (h3 : Sl (Value.int .i64) w A3 n3 zs) :
    Calls Try.prog 4 #[.slice A1 n1 c1, .slice A2 n2 c2, .slice A3 n3 c3] w fun e w' => e = .returned (.bool true) ∧ Below w.heap.size w w' := by
  go_enter Try.func4, Try.ntmps4
  go_wp2_with fail
  refine (alive_any _).mono ?_
  rintro e w1 ⟨rfl, hB1⟩
  by_cases hn1 : 1000 < n1
  · go_wp2_with fail
    go_ret
    exact ⟨rfl, hB1⟩
  have hn1' : decide (1000 < n1) = false := by simpa using hn1
  by_cases hn2 : 1000 < n2
  · go_wp2_with fail
    go_ret
    exact ⟨rfl, hB1⟩
  have hn2' : decide (1000 < n2) = false := by simpa using hn2
  by_cases hn3 : 1000 < n3
  · go_wp2_with fail
    go_ret
    exact ⟨rfl, hB1⟩
  have hn3' : decide (1000 < n3) = false := by simpa using hn3
  have l1 : xs.length ≤ 1000 := by have := h1.len; omega
  have l2 : ys.length ≤ 1000 := by have := h2.len; omega
  have l3 : zs.length ≤ 1000 := by have := h3.len; omega
  have s1 := h1.below (Nat.le_refl _) hB1
  have s2 := h2.below (Nat.le_refl _) hB1
  have s3 := h3.below (Nat.le_refl _) hB1
  have HB : Bag w w1 [] := ⟨hB1, fun v P k h => by cases h⟩
  clear h1 h2 h3 hB1
  go_wp2_with fail
  clear hn1' hn2' hn3'
  -- x
  refine (SoI.of_any A1 n1 c1 xs _ s1 (by omega)).mono ?_
  rintro e w2 ⟨B1, k1, d1, rfl, how, hb⟩
  have HB2 := (HB.below hb).add (of_set _ _ _ _ _ _ l1 how)
  have t2 := s2.below (Nat.le_refl _) hb
  have t3 := s3.below (Nat.le_refl _) hb
  clear HB s1 s2 s3 how hb
  have HB3 := HB2.alloc (.cells #[.slice B1 k1 d1] 25)
  have q1 := RowC.new w2 25 [.slice B1 k1 d1]
  have u2 := t2.alloc (.cells #[.slice B1 k1 d1] 25)
  have u3 := t3.alloc (.cells #[.slice B1 k1 d1] 25)
  clear HB2 t2 t3
  go_wp2_with fail
  -- y
  refine (SoI.of_any A2 n2 c2 ys _ u2 (by omega)).mono ?_
  rintro e w3 ⟨B2, k2, d2, rfl, how, hb⟩
  have HB4 := (HB3.below hb).add (of_set _ _ _ _ _ _ l2 how)
  have t3 := u3.below (Nat.le_refl _) hb
  have r1 := q1.below' hb
  generalize w2.heap.size = p1 at r1 ⊢
  clear HB3 u2 u3 how hb q1
  have HB5 := HB4.alloc (.cells #[.slice B2 k2 d2] 25)
  have q1 := r1.alloc (.cells #[.slice B2 k2 d2] 25)
  have q2 := RowC.new w3 25 [.slice B2 k2 d2]
  have u3 := t3.alloc (.cells #[.slice B2 k2 d2] 25)
  clear HB4 t3 r1
  go_wp2_with fail
  -- z
  refine (SoI.of_any A3 n3 c3 zs _ u3 (by omega)).mono ?_
  rintro e w4 ⟨B3, k3, d3, rfl, how, hb⟩
  have HB6 := (HB5.below hb).add (of_set _ _ _ _ _ _ l3 how)
  have r1 := q1.below' hb
  have r2 := q2.below' hb
  generalize w3.heap.size = p2 at r2 ⊢
  clear HB5 u3 how hb q1 q2
  have HB7 := (HB6.alloc (.cells #[.slice B3 k3 d3] 25)).alloc (.cells #[.slice none 0 0] 25)
  have q1 := (r1.alloc (.cells #[.slice B3 k3 d3] 25)).alloc (.cells #[.slice none 0 0] 25)
  have q2 := (r2.alloc (.cells #[.slice B3 k3 d3] 25)).alloc (.cells #[.slice none 0 0] 25)
  have q3 := (RowC.new w4 25 [.slice B3 k3 d3]).alloc (.cells #[.slice none 0 0] 25)
  have q4 := RowC.new (w4.alloc (.cells #[.slice B3 k3 d3] 25)) 25 [.slice none 0 0]
  clear HB6 r1 r2
  have q4' : RowC ((w4.alloc (.cells #[.slice B3 k3 d3] 25)).alloc (.cells #[.slice none 0 0] 25)) (w4.heap.size + 1) 25 [.slice none 0 0] := by simpa using q4
  clear q4
  obtain ⟨wq, hwq⟩ : ∃ wq : World, wq = (w4.alloc (.cells #[.slice B3 k3 d3] 25)).alloc (.cells #[.slice none 0 0] 25) := ⟨_, rfl⟩
  have HB : Bag w wq [(.agg #[.slice none 0 0], (fun _ => false), 0), (.agg #[.slice B1 k1 d1], inB xs, 1000), (.agg #[.slice B2 k2 d2], inB ys, 1000), (.agg #[.slice B3 k3 d3], inB zs, 1000)] := by
    rw [hwq]
    refine (HB7.add (v := .agg #[.slice none 0 0]) (P := fun _ => false) (k := 0) ⟨none, 0, 0, [], rfl, Sl.nil _ _ _, List.Pairwise.nil, fun z => by simp, by simp⟩).sub ?_
    intro p hp
    simp only [List.mem_cons, List.not_mem_nil, or_false] at hp ⊢
    rcases hp with rfl | rfl | rfl | rfl <;> simp
  have k0 : wq.cell? ⟨p1, 0, none⟩ = some (.slice B1 k1 d1) ∧ wq.cell? ⟨p2, 0, none⟩ = some (.slice B2 k2 d2) ∧ wq.cell? ⟨w4.heap.size, 0, none⟩ = some (.slice B3 k3 d3) ∧ wq.cell? ⟨w4.heap.size + 1, 0, none⟩ = some (.slice none 0 0) := by
    rw [hwq]; exact ⟨q1.cell 0, q2.cell 0, q3.cell 0, q4'.cell 0⟩
  clear HB7 q1 q2 q3 q4'
  obtain ⟨k01, k02, k03, k04⟩ := k0
  go_wp2_with fail
  rw [← hwq]
  clear hwq
  obtain ⟨nj, nm, nx, ny, hcj, hcm, hcx, hcy, w1h, w2h⟩ := counts xs ys l1 l2
  have hc0 : Card (fun z => (inB xs z && inB ys z) && (inB xs z && !inB ys z)) 0 := Card.zero fun z => by cases inB xs z <;> cases inB ys z <;> rfl
  have HB := HB.drewN 1
  have k7 := And.intro k01 (And.intro k02 (And.intro k03 k04))
  go_region_held3 (fun w' => w'.cell? ⟨p1, 0, none⟩ = some (.slice B1 k1 d1) ∧ w'.cell? ⟨p2, 0, none⟩ = some (.slice B2 k2 d2) ∧ w'.cell? ⟨w4.heap.size, 0, none⟩ = some (.slice B3 k3 d3) ∧ w'.cell? ⟨w4.heap.size + 1, 0, none⟩ = some (.slice none 0 0))
    (exact k7)
      (first
        | ((go_at_call 16); (refine' (join_bag HB ?_ ?_ ?_).mono ?_); (rotate_left 4); (repeat (first | exact List.Mem.head _ | apply List.Mem.tail)); decide; (rintro e w' ⟨v, rfl, HBn, hbel⟩); (clear HB); (have HB := HBn); (clear HBn); (have k7 := keep4 hbel (by assumption)); (clear hbel))
        | ((go_at_call 18); (refine' (meet_bag HB ?_ ?_ ?_).mono ?_); (rotate_left 4); (repeat (first | exact List.Mem.head _ | apply List.Mem.tail)); decide; (rintro e w' ⟨v, rfl, HBn, hbel⟩); (clear HB); (have HB := HBn); (clear HBn); (have k7 := keep4 hbel (by assumption)); (clear hbel))
        | ((go_at_call 19); (refine' (minus_bag HB ?_ ?_ ?_).mono ?_); (rotate_left 4); (repeat (first | exact List.Mem.head _ | apply List.Mem.tail)); decide; (rintro e w' ⟨v, rfl, HBn, hbel⟩); (clear HB); (have HB := HBn); (clear HBn); (have k7 := keep4 hbel (by assumption)); (clear hbel))
        | ((go_at_call 17); (refine' (same_bag HB ?_ ?_ ?_ ?_).mono ?_); (rotate_left 4); (repeat (first | exact List.Mem.head _ | apply List.Mem.tail)); decide; ((intro z); (try dsimp only); (generalize inB xs z = p); (generalize inB ys z = q); (generalize inB zs z = r); (revert p q r); decide); (rintro e w' ⟨rfl, HBn, hbel⟩); (clear HB); (have HB := HBn); (clear HBn); (have k7 := keep4 hbel (by assumption)); (clear hbel))
        | ((go_at_call 20); (refine' (within_bag HB ?_ ?_ ?_ ?_).mono ?_); (rotate_left 4); (repeat (first | exact List.Mem.head _ | apply List.Mem.tail)); decide; ((intro z); (try dsimp only); (generalize inB xs z = p); (generalize inB ys z = q); (generalize inB zs z = r); (revert p q r); decide); (rintro e w' ⟨rfl, HBn, hbel⟩); (clear HB); (have HB := HBn); (clear HBn); (have k7 := keep4 hbel (by assumption)); (clear hbel))
        | ((go_at_call 14); (refine' (len_bag HB ?_ ?_).mono ?_); (rotate_left 2); (repeat (first | exact List.Mem.head _ | apply List.Mem.tail)); (rotate_left 1); assumption; (rintro e w' ⟨rfl, HBn, hbel⟩); (clear HB); (have HB := HBn); (clear HBn); (have k7 := keep4 hbel (by assumption)); (clear hbel)))
  go_wp2_with fail
  have HB := HB.drewN 1
  go_region_held3 (fun w' => w'.cell? ⟨p1, 0, none⟩ = some (.slice B1 k1 d1) ∧ w'.cell? ⟨p2, 0, none⟩ = some (.slice B2 k2 d2) ∧ w'.cell? ⟨w4.heap.size, 0, none⟩ = some (.slice B3 k3 d3) ∧ w'.cell? ⟨w4.heap.size + 1, 0, none⟩ = some (.slice none 0 0))
    (exact k7)
      (first
        | ((go_at_call 16); (refine' (join_bag HB ?_ ?_ ?_).mono ?_); (rotate_left 4); (repeat (first | exact List.Mem.head _ | apply List.Mem.tail)); decide; (rintro e w' ⟨v, rfl, HBn, hbel⟩); (clear HB); (have HB := HBn); (clear HBn); (have k7 := keep4 hbel (by assumption)); (clear hbel))
        | ((go_at_call 18); (refine' (meet_bag HB ?_ ?_ ?_).mono ?_); (rotate_left 4); (repeat (first | exact List.Mem.head _ | apply List.Mem.tail)); decide; (rintro e w' ⟨v, rfl, HBn, hbel⟩); (clear HB); (have HB := HBn); (clear HBn); (have k7 := keep4 hbel (by assumption)); (clear hbel))
        | ((go_at_call 19); (refine' (minus_bag HB ?_ ?_ ?_).mono ?_); (rotate_left 4); (repeat (first | exact List.Mem.head _ | apply List.Mem.tail)); decide; (rintro e w' ⟨v, rfl, HBn, hbel⟩); (clear HB); (have HB := HBn); (clear HBn); (have k7 := keep4 hbel (by assumption)); (clear hbel))
        | ((go_at_call 17); (refine' (same_bag HB ?_ ?_ ?_ ?_).mono ?_); (rotate_left 4); (repeat (first | exact List.Mem.head _ | apply List.Mem.tail)); decide; ((intro z); (try dsimp only); (generalize inB xs z = p); (generalize inB ys z = q); (generalize inB zs z = r); (revert p q r); decide); (rintro e w' ⟨rfl, HBn, hbel⟩); (clear HB); (have HB := HBn); (clear HBn); (have k7 := keep4 hbel (by assumption)); (clear hbel))
        | ((go_at_call 20); (refine' (within_bag HB ?_ ?_ ?_ ?_).mono ?_); (rotate_left 4); (repeat (first | exact List.Mem.head _ | apply List.Mem.tail)); decide; ((intro z); (try dsimp only); (generalize inB xs z = p); (generalize inB ys z = q); (generalize inB zs z = r); (revert p q r); decide); (rintro e w' ⟨rfl, HBn, hbel⟩); (clear HB); (have HB := HBn); (clear HBn); (have k7 := keep4 hbel (by assumption)); (clear hbel))
        | ((go_at_call 14); (refine' (len_bag HB ?_ ?_).mono ?_); (rotate_left 2); (repeat (first | exact List.Mem.head _ | apply List.Mem.tail)); (rotate_left 1); assumption; (rintro e w' ⟨rfl, HBn, hbel⟩); (clear HB); (have HB := HBn); (clear HBn); (have k7 := keep4 hbel (by assumption)); (clear hbel)))
  go_wp2_with fail
  have HB := HB.drewN 1
  go_region_held3 (fun w' => w'.cell? ⟨p1, 0, none⟩ = some (.slice B1 k1 d1) ∧ w'.cell? ⟨p2, 0, none⟩ = some (.slice B2 k2 d2) ∧ w'.cell? ⟨w4.heap.size, 0, none⟩ = some (.slice B3 k3 d3) ∧ w'.cell? ⟨w4.heap.size + 1, 0, none⟩ = some (.slice none 0 0))
    (exact k7)
      (first
        | ((go_at_call 16); (refine' (join_bag HB ?_ ?_ ?_).mono ?_); (rotate_left 4); (repeat (first | exact List.Mem.head _ | apply List.Mem.tail)); decide; (rintro e w' ⟨v, rfl, HBn, hbel⟩); (clear HB); (have HB := HBn); (clear HBn); (have k7 := keep4 hbel (by assumption)); (clear hbel))
        | ((go_at_call 18); (refine' (meet_bag HB ?_ ?_ ?_).mono ?_); (rotate_left 4); (repeat (first | exact List.Mem.head _ | apply List.Mem.tail)); decide; (rintro e w' ⟨v, rfl, HBn, hbel⟩); (clear HB); (have HB := HBn); (clear HBn); (have k7 := keep4 hbel (by assumption)); (clear hbel))
        | ((go_at_call 19); (refine' (minus_bag HB ?_ ?_ ?_).mono ?_); (rotate_left 4); (repeat (first | exact List.Mem.head _ | apply List.Mem.tail)); decide; (rintro e w' ⟨v, rfl, HBn, hbel⟩); (clear HB); (have HB := HBn); (clear HBn); (have k7 := keep4 hbel (by assumption)); (clear hbel))
        | ((go_at_call 17); (refine' (same_bag HB ?_ ?_ ?_ ?_).mono ?_); (rotate_left 4); (repeat (first | exact List.Mem.head _ | apply List.Mem.tail)); decide; ((intro z); (try dsimp only); (generalize inB xs z = p); (generalize inB ys z = q); (generalize inB zs z = r); (revert p q r); decide); (rintro e w' ⟨rfl, HBn, hbel⟩); (clear HB); (have HB := HBn); (clear HBn); (have k7 := keep4 hbel (by assumption)); (clear hbel))
        | ((go_at_call 20); (refine' (within_bag HB ?_ ?_ ?_ ?_).mono ?_); (rotate_left 4); (repeat (first | exact List.Mem.head _ | apply List.Mem.tail)); decide; ((intro z); (try dsimp only); (generalize inB xs z = p); (generalize inB ys z = q); (generalize inB zs z = r); (revert p q r); decide); (rintro e w' ⟨rfl, HBn, hbel⟩); (clear HB); (have HB := HBn); (clear HBn); (have k7 := keep4 hbel (by assumption)); (clear hbel))
        | ((go_at_call 14); (refine' (len_bag HB ?_ ?_).mono ?_); (rotate_left 2); (repeat (first | exact List.Mem.head _ | apply List.Mem.tail)); (rotate_left 1); assumption; (rintro e w' ⟨rfl, HBn, hbel⟩); (clear HB); (have HB := HBn); (clear HBn); (have k7 := keep4 hbel (by assumption)); (clear hbel)))
  go_wp2_with fail
  have HB := HB.drewN 1
  go_region_held3 (fun w' => w'.cell? ⟨p1, 0, none⟩ = some (.slice B1 k1 d1) ∧ w'.cell? ⟨p2, 0, none⟩ = some (.slice B2 k2 d2) ∧ w'.cell? ⟨w4.heap.size, 0, none⟩ = some (.slice B3 k3 d3) ∧ w'.cell? ⟨w4.heap.size + 1, 0, none⟩ = some (.slice none 0 0))
    (exact k7)
      (first
        | ((go_at_call 16); (refine' (join_bag HB ?_ ?_ ?_).mono ?_); (rotate_left 4); (repeat (first | exact List.Mem.head _ | apply List.Mem.tail)); decide; (rintro e w' ⟨v, rfl, HBn, hbel⟩); (clear HB); (have HB := HBn); (clear HBn); (have k7 := keep4 hbel (by assumption)); (clear hbel))
        | ((go_at_call 18); (refine' (meet_bag HB ?_ ?_ ?_).mono ?_); (rotate_left 4); (repeat (first | exact List.Mem.head _ | apply List.Mem.tail)); decide; (rintro e w' ⟨v, rfl, HBn, hbel⟩); (clear HB); (have HB := HBn); (clear HBn); (have k7 := keep4 hbel (by assumption)); (clear hbel))
        | ((go_at_call 19); (refine' (minus_bag HB ?_ ?_ ?_).mono ?_); (rotate_left 4); (repeat (first | exact List.Mem.head _ | apply List.Mem.tail)); decide; (rintro e w' ⟨v, rfl, HBn, hbel⟩); (clear HB); (have HB := HBn); (clear HBn); (have k7 := keep4 hbel (by assumption)); (clear hbel))
        | ((go_at_call 17); (refine' (same_bag HB ?_ ?_ ?_ ?_).mono ?_); (rotate_left 4); (repeat (first | exact List.Mem.head _ | apply List.Mem.tail)); decide; ((intro z); (try dsimp only); (generalize inB xs z = p); (generalize inB ys z = q); (generalize inB zs z = r); (revert p q r); decide); (rintro e w' ⟨rfl, HBn, hbel⟩); (clear HB); (have HB := HBn); (clear HBn); (have k7 := keep4 hbel (by assumption)); (clear hbel))
        | ((go_at_call 20); (refine' (within_bag HB ?_ ?_ ?_ ?_).mono ?_); (rotate_left 4); (repeat (first | exact List.Mem.head _ | apply List.Mem.tail)); decide; ((intro z); (try dsimp only); (generalize inB xs z = p); (generalize inB ys z = q); (generalize inB zs z = r); (revert p q r); decide); (rintro e w' ⟨rfl, HBn, hbel⟩); (clear HB); (have HB := HBn); (clear HBn); (have k7 := keep4 hbel (by assumption)); (clear hbel))
        | ((go_at_call 14); (refine' (len_bag HB ?_ ?_).mono ?_); (rotate_left 2); (repeat (first | exact List.Mem.head _ | apply List.Mem.tail)); (rotate_left 1); assumption; (rintro e w' ⟨rfl, HBn, hbel⟩); (clear HB); (have HB := HBn); (clear HBn); (have k7 := keep4 hbel (by assumption)); (clear hbel)))
  go_wp2_with fail
  have HB := HB.drewN 1
  go_region_held3 (fun w' => w'.cell? ⟨p1, 0, none⟩ = some (.slice B1 k1 d1) ∧ w'.cell? ⟨p2, 0, none⟩ = some (.slice B2 k2 d2) ∧ w'.cell? ⟨w4.heap.size, 0, none⟩ = some (.slice B3 k3 d3) ∧ w'.cell? ⟨w4.heap.size + 1, 0, none⟩ = some (.slice none 0 0))
    (exact k7)
      (first
        | ((go_at_call 16); (refine' (join_bag HB ?_ ?_ ?_).mono ?_); (rotate_left 4); (repeat (first | exact List.Mem.head _ | apply List.Mem.tail)); decide; (rintro e w' ⟨v, rfl, HBn, hbel⟩); (clear HB); (have HB := HBn); (clear HBn); (have k7 := keep4 hbel (by assumption)); (clear hbel))
        | ((go_at_call 18); (refine' (meet_bag HB ?_ ?_ ?_).mono ?_); (rotate_left 4); (repeat (first | exact List.Mem.head _ | apply List.Mem.tail)); decide; (rintro e w' ⟨v, rfl, HBn, hbel⟩); (clear HB); (have HB := HBn); (clear HBn); (have k7 := keep4 hbel (by assumption)); (clear hbel))
        | ((go_at_call 19); (refine' (minus_bag HB ?_ ?_ ?_).mono ?_); (rotate_left 4); (repeat (first | exact List.Mem.head _ | apply List.Mem.tail)); decide; (rintro e w' ⟨v, rfl, HBn, hbel⟩); (clear HB); (have HB := HBn); (clear HBn); (have k7 := keep4 hbel (by assumption)); (clear hbel))
        | ((go_at_call 17); (refine' (same_bag HB ?_ ?_ ?_ ?_).mono ?_); (rotate_left 4); (repeat (first | exact List.Mem.head _ | apply List.Mem.tail)); decide; ((intro z); (try dsimp only); (generalize inB xs z = p); (generalize inB ys z = q); (generalize inB zs z = r); (revert p q r); decide); (rintro e w' ⟨rfl, HBn, hbel⟩); (clear HB); (have HB := HBn); (clear HBn); (have k7 := keep4 hbel (by assumption)); (clear hbel))
        | ((go_at_call 20); (refine' (within_bag HB ?_ ?_ ?_ ?_).mono ?_); (rotate_left 4); (repeat (first | exact List.Mem.head _ | apply List.Mem.tail)); decide; ((intro z); (try dsimp only); (generalize inB xs z = p); (generalize inB ys z = q); (generalize inB zs z = r); (revert p q r); decide); (rintro e w' ⟨rfl, HBn, hbel⟩); (clear HB); (have HB := HBn); (clear HBn); (have k7 := keep4 hbel (by assumption)); (clear hbel))
        | ((go_at_call 14); (refine' (len_bag HB ?_ ?_).mono ?_); (rotate_left 2); (repeat (first | exact List.Mem.head _ | apply List.Mem.tail)); (rotate_left 1); assumption; (rintro e w' ⟨rfl, HBn, hbel⟩); (clear HB); (have HB := HBn); (clear HBn); (have k7 := keep4 hbel (by assumption)); (clear hbel)))
  go_wp2_with fail
  obtain ⟨k01, k02, k03, k04⟩ := k7
  refine' (within_any_bag HB ?_ ?_ ?_).mono ?_
  rotate_left 4
  repeat (first | exact List.Mem.head _ | apply List.Mem.tail)
  decide
  rintro e wa ⟨b1, rfl, hb1, HBn, hbel⟩
  clear HB
  have HB := HBn
  clear HBn
  have k7 := keep4 hbel ⟨k01, k02, k03, k04⟩
  clear hbel k01 k02 k03 k04
  rcases b1
  · clear hb1
    go_wp2_with fail
    have HB := HB.drewN 1
    go_region_held3 (fun w' => w'.cell? ⟨p1, 0, none⟩ = some (.slice B1 k1 d1) ∧ w'.cell? ⟨p2, 0, none⟩ = some (.slice B2 k2 d2) ∧ w'.cell? ⟨w4.heap.size, 0, none⟩ = some (.slice B3 k3 d3) ∧ w'.cell? ⟨w4.heap.size + 1, 0, none⟩ = some (.slice none 0 0))
      (exact k7)
        (first
          | ((go_at_call 16); (refine' (join_bag HB ?_ ?_ ?_).mono ?_); (rotate_left 4); (repeat (first | exact List.Mem.head _ | apply List.Mem.tail)); decide; (rintro e w' ⟨v, rfl, HBn, hbel⟩); (clear HB); (have HB := HBn); (clear HBn); (have k7 := keep4 hbel (by assumption)); (clear hbel))
          | ((go_at_call 18); (refine' (meet_bag HB ?_ ?_ ?_).mono ?_); (rotate_left 4); (repeat (first | exact List.Mem.head _ | apply List.Mem.tail)); decide; (rintro e w' ⟨v, rfl, HBn, hbel⟩); (clear HB); (have HB := HBn); (clear HBn); (have k7 := keep4 hbel (by assumption)); (clear hbel))
          | ((go_at_call 19); (refine' (minus_bag HB ?_ ?_ ?_).mono ?_); (rotate_left 4); (repeat (first | exact List.Mem.head _ | apply List.Mem.tail)); decide; (rintro e w' ⟨v, rfl, HBn, hbel⟩); (clear HB); (have HB := HBn); (clear HBn); (have k7 := keep4 hbel (by assumption)); (clear hbel))
          | ((go_at_call 17); (refine' (same_bag HB ?_ ?_ ?_ ?_).mono ?_); (rotate_left 4); (repeat (first | exact List.Mem.head _ | apply List.Mem.tail)); decide; ((intro z); (try dsimp only); (generalize inB xs z = p); (generalize inB ys z = q); (generalize inB zs z = r); (revert p q r); decide); (rintro e w' ⟨rfl, HBn, hbel⟩); (clear HB); (have HB := HBn); (clear HBn); (have k7 := keep4 hbel (by assumption)); (clear hbel))
          | ((go_at_call 20); (refine' (within_bag HB ?_ ?_ ?_ ?_).mono ?_); (rotate_left 4); (repeat (first | exact List.Mem.head _ | apply List.Mem.tail)); decide; ((intro z); (try dsimp only); (generalize inB xs z = p); (generalize inB ys z = q); (generalize inB zs z = r); (revert p q r); decide); (rintro e w' ⟨rfl, HBn, hbel⟩); (clear HB); (have HB := HBn); (clear HBn); (have k7 := keep4 hbel (by assumption)); (clear hbel))
          | ((go_at_call 14); (refine' (len_bag HB ?_ ?_).mono ?_); (rotate_left 2); (repeat (first | exact List.Mem.head _ | apply List.Mem.tail)); (rotate_left 1); assumption; (rintro e w' ⟨rfl, HBn, hbel⟩); (clear HB); (have HB := HBn); (clear HBn); (have k7 := keep4 hbel (by assumption)); (clear hbel)))
    go_wp2_with fail
    go_ret
    exact ⟨rfl, HB.bel⟩
  · obtain ⟨k01, k02, k03, k04⟩ := k7
    go_wp2_with fail
    refine' (within_any_bag HB ?_ ?_ ?_).mono ?_
    rotate_left 4
    repeat (first | exact List.Mem.head _ | apply List.Mem.tail)
    decide
    rintro e wb ⟨b2, rfl, hb2, HBn, hbel⟩
    clear HB
    have HB := HBn
    clear HBn
    have k7 := keep4 hbel ⟨k01, k02, k03, k04⟩
    clear hbel k01 k02 k03 k04
    rcases b2
    · clear hb1 hb2
      go_wp2_with fail
      have HB := HB.drewN 1
      go_region_held3 (fun w' => w'.cell? ⟨p1, 0, none⟩ = some (.slice B1 k1 d1) ∧ w'.cell? ⟨p2, 0, none⟩ = some (.slice B2 k2 d2) ∧ w'.cell? ⟨w4.heap.size, 0, none⟩ = some (.slice B3 k3 d3) ∧ w'.cell? ⟨w4.heap.size + 1, 0, none⟩ = some (.slice none 0 0))
        (exact k7)
          (first
            | ((go_at_call 16); (refine' (join_bag HB ?_ ?_ ?_).mono ?_); (rotate_left 4); (repeat (first | exact List.Mem.head _ | apply List.Mem.tail)); decide; (rintro e w' ⟨v, rfl, HBn, hbel⟩); (clear HB); (have HB := HBn); (clear HBn); (have k7 := keep4 hbel (by assumption)); (clear hbel))
            | ((go_at_call 18); (refine' (meet_bag HB ?_ ?_ ?_).mono ?_); (rotate_left 4); (repeat (first | exact List.Mem.head _ | apply List.Mem.tail)); decide; (rintro e w' ⟨v, rfl, HBn, hbel⟩); (clear HB); (have HB := HBn); (clear HBn); (have k7 := keep4 hbel (by assumption)); (clear hbel))
            | ((go_at_call 19); (refine' (minus_bag HB ?_ ?_ ?_).mono ?_); (rotate_left 4); (repeat (first | exact List.Mem.head _ | apply List.Mem.tail)); decide; (rintro e w' ⟨v, rfl, HBn, hbel⟩); (clear HB); (have HB := HBn); (clear HBn); (have k7 := keep4 hbel (by assumption)); (clear hbel))
            | ((go_at_call 17); (refine' (same_bag HB ?_ ?_ ?_ ?_).mono ?_); (rotate_left 4); (repeat (first | exact List.Mem.head _ | apply List.Mem.tail)); decide; ((intro z); (try dsimp only); (generalize inB xs z = p); (generalize inB ys z = q); (generalize inB zs z = r); (revert p q r); decide); (rintro e w' ⟨rfl, HBn, hbel⟩); (clear HB); (have HB := HBn); (clear HBn); (have k7 := keep4 hbel (by assumption)); (clear hbel))
            | ((go_at_call 20); (refine' (within_bag HB ?_ ?_ ?_ ?_).mono ?_); (rotate_left 4); (repeat (first | exact List.Mem.head _ | apply List.Mem.tail)); decide; ((intro z); (try dsimp only); (generalize inB xs z = p); (generalize inB ys z = q); (generalize inB zs z = r); (revert p q r); decide); (rintro e w' ⟨rfl, HBn, hbel⟩); (clear HB); (have HB := HBn); (clear HBn); (have k7 := keep4 hbel (by assumption)); (clear hbel))
            | ((go_at_call 14); (refine' (len_bag HB ?_ ?_).mono ?_); (rotate_left 2); (repeat (first | exact List.Mem.head _ | apply List.Mem.tail)); (rotate_left 1); assumption; (rintro e w' ⟨rfl, HBn, hbel⟩); (clear HB); (have HB := HBn); (clear HBn); (have k7 := keep4 hbel (by assumption)); (clear hbel)))
      go_wp2_with fail
      go_ret
      exact ⟨rfl, HB.bel⟩
    · obtain ⟨k01, k02, k03, k04⟩ := k7
      have htr : ∀ z, inB xs z = true → inB zs z = true := fun z hz => hb2.1 (by first | rfl | trivial) z (hb1.1 (by first | rfl | trivial) z hz)
      clear hb1 hb2
      go_wp2_with fail
      refine' (within_bag HB ?_ ?_ ?_ ?_).mono ?_
      rotate_left 4
      repeat (first | exact List.Mem.head _ | apply List.Mem.tail)
      decide
      exact htr
      rintro e wc ⟨rfl, HBn, hbel⟩
      clear HB htr
      have HB := HBn
      clear HBn
      have k7 := keep4 hbel ⟨k01, k02, k03, k04⟩
      clear hbel k01 k02 k03 k04
      go_wp2_with fail
      have HB := HB.drewN 1
      go_region_held3 (fun w' => w'.cell? ⟨p1, 0, none⟩ = some (.slice B1 k1 d1) ∧ w'.cell? ⟨p2, 0, none⟩ = some (.slice B2 k2 d2) ∧ w'.cell? ⟨w4.heap.size, 0, none⟩ = some (.slice B3 k3 d3) ∧ w'.cell? ⟨w4.heap.size + 1, 0, none⟩ = some (.slice none 0 0))
        (exact k7)
          (first
            | ((go_at_call 16); (refine' (join_bag HB ?_ ?_ ?_).mono ?_); (rotate_left 4); (repeat (first | exact List.Mem.head _ | apply List.Mem.tail)); decide; (rintro e w' ⟨v, rfl, HBn, hbel⟩); (clear HB); (have HB := HBn); (clear HBn); (have k7 := keep4 hbel (by assumption)); (clear hbel))
            | ((go_at_call 18); (refine' (meet_bag HB ?_ ?_ ?_).mono ?_); (rotate_left 4); (repeat (first | exact List.Mem.head _ | apply List.Mem.tail)); decide; (rintro e w' ⟨v, rfl, HBn, hbel⟩); (clear HB); (have HB := HBn); (clear HBn); (have k7 := keep4 hbel (by assumption)); (clear hbel))
            | ((go_at_call 19); (refine' (minus_bag HB ?_ ?_ ?_).mono ?_); (rotate_left 4); (repeat (first | exact List.Mem.head _ | apply List.Mem.tail)); decide; (rintro e w' ⟨v, rfl, HBn, hbel⟩); (clear HB); (have HB := HBn); (clear HBn); (have k7 := keep4 hbel (by assumption)); (clear hbel))
            | ((go_at_call 17); (refine' (same_bag HB ?_ ?_ ?_ ?_).mono ?_); (rotate_left 4); (repeat (first | exact List.Mem.head _ | apply List.Mem.tail)); decide; ((intro z); (try dsimp only); (generalize inB xs z = p); (generalize inB ys z = q); (generalize inB zs z = r); (revert p q r); decide); (rintro e w' ⟨rfl, HBn, hbel⟩); (clear HB); (have HB := HBn); (clear HBn); (have k7 := keep4 hbel (by assumption)); (clear hbel))
            | ((go_at_call 20); (refine' (within_bag HB ?_ ?_ ?_ ?_).mono ?_); (rotate_left 4); (repeat (first | exact List.Mem.head _ | apply List.Mem.tail)); decide; ((intro z); (try dsimp only); (generalize inB xs z = p); (generalize inB ys z = q); (generalize inB zs z = r); (revert p q r); decide); (rintro e w' ⟨rfl, HBn, hbel⟩); (clear HB); (have HB := HBn); (clear HBn); (have k7 := keep4 hbel (by assumption)); (clear hbel))
            | ((go_at_call 14); (refine' (len_bag HB ?_ ?_).mono ?_); (rotate_left 2); (repeat (first | exact List.Mem.head _ | apply List.Mem.tail)); (rotate_left 1); assumption; (rintro e w' ⟨rfl, HBn, hbel⟩); (clear HB); (have HB := HBn); (clear HBn); (have k7 := keep4 hbel (by assumption)); (clear hbel)))
      go_wp2_with fail
      go_ret
      exact ⟨rfl, HB.bel⟩
end Go.Proofs.Ytpacnpiiahchiaa.SetLaws
