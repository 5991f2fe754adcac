/- slices.Sort on a slice of ints of the call's own: the same numbers, rising. Condition: fewer than 2 to the 62. -/
import Derived.Test.YtaibdlnolpbpiaaHeap
import Derived.Test.YtaibdlnolpbpiaaShelf
import Derived.Lib.SortBridge
namespace Go.Proofs.Ytaibdlnolpbpiaa
open Go.RowKit Go.Sort

theorem RowAt.setCells {w : World} {g : Nat} {e : TypeId} {xs ys : List Int} {rest : List Value} (h : RowAt (Value.int .i64) w g e xs rest) (hl : ys.length = xs.length) : RowAt (Value.int .i64) (w.setCells g 0 (ys.map (Value.int .i64))) g e ys rest := by
  have h2 := RowC.setCells (g := g) (e := e) (C := rest) (ys.map (Value.int .i64)) (xs.map (Value.int .i64)) [] w (by unfold RowAt at h; unfold RowC; simpa using h) (by simpa using hl)
  unfold RowAt
  unfold RowC at h2
  simpa using h2
theorem RowAt.toInt {w : World} {g : Nat} {e : TypeId} {xs : List Nat} {rest : List Value} (h : RowAt eN w g e xs rest) : RowAt (Value.int .i64) w g e (xs.map fun m : Nat => (m : Int)) rest := by
  unfold RowAt at h ⊢
  rw [h]; simp
theorem RowAt.ofInt {w : World} {g : Nat} {e : TypeId} {xs : List Nat} {rest : List Value} (h : RowAt (Value.int .i64) w g e (xs.map fun m : Nat => (m : Int)) rest) : RowAt eN w g e xs rest := by
  unfold RowAt at h ⊢
  rw [h]; simp
def SortPost (w : World) (base : Nat) (A : Option Addr) (k c : Nat) (L : List Nat) (e : Ending) (w' : World) : Prop :=
  e = .returned (.tuple #[]) ∧ ∃ L', L'.Perm L ∧ L'.Pairwise (· ≤ ·) ∧ OwnR eN w' base 3 A k c L' ∧ Turn w w' (fun b => A = some ⟨b, 0, none⟩)
theorem heap_setCells_other {g : Nat} : ∀ (vs : List Value) (o : Nat) (w : World) (i : Nat), i ≠ g → (w.setCells g o vs).heap[i]? = w.heap[i]?
  | [], _, _, _, _ => rfl
  | v :: vs, o, w, i, hi => (heap_setCells_other vs (o + 1) (w.setCell ⟨g, o, none⟩ v) i hi).trans (Below.heap_setCell w ⟨g, o, none⟩ v i hi)
theorem size_setCells {g : Nat} : ∀ (vs : List Value) (o : Nat) (w : World), (w.setCells g o vs).heap.size = w.heap.size
  | [], _, _ => rfl
  | v :: vs, o, w => (size_setCells vs (o + 1) _).trans (by simp [World.setCell])
theorem same_setCells {g : Nat} : ∀ (vs : List Value) (o : Nat) (w : World), (w.setCells g o vs).os = w.os ∧ (w.setCells g o vs).tape = w.tape ∧ (w.setCells g o vs).output = w.output
  | [], _, _ => ⟨rfl, rfl, rfl⟩
  | v :: vs, o, w => same_setCells vs (o + 1) (w.setCell ⟨g, o, none⟩ v)
theorem sort_own (base : Nat) (A : Option Addr) (k c : Nat) (L : List Nat) (w : World) (h : OwnR eN w base 3 A k c L) (hk : k < 4611686018427387904) : Calls Try.prog 76 #[.slice A k c] w (SortPost w base A k c L) := by
  rcases Nat.eq_zero_or_pos k with rfl | hp
  · refine (Try.slices_Sort_int_none A c w).mono ?_
    rintro e w' ⟨rfl, rfl⟩
    have hl := h.length
    obtain rfl : L = [] := List.eq_nil_of_length_eq_zero hl
    exact ⟨rfl, [], List.Perm.refl _, List.Pairwise.nil, h, Turn.refl _ _⟩
  · obtain ⟨g, rest, rfl, hg, hr, hc⟩ := h.row hp
    have hl := h.length
    have hri := hr.toInt
    obtain ⟨zs, hzs⟩ : ∃ zs : List Int, zs = L.map fun m : Nat => (m : Int) := ⟨_, rfl⟩
    rw [← hzs] at hri
    have hzl : zs.length = k := by rw [hzs]; simpa using hl
    have hH : Holds (Value.int .i64) w g 0 zs.toArray := by
      intro j hj
      have hj' : j < zs.length := by simpa using hj
      rw [Nat.zero_add]
      refine ⟨?_, hri.frozen j⟩
      rw [hri.cell hj', nth_eq hj']
      simp [hj']
    have := Try.slices_Sort_int g 0 c zs w hH hr.lt (by omega)
    rw [hzl] at this
    refine this.mono ?_
    rintro e w' ⟨rfl, q, os, rfl⟩
    obtain ⟨ys, hys⟩ : ∃ ys, ys = zs.mergeSort fun x y => decide (x ≤ y) := ⟨_, rfl⟩
    have hyl : ys.length = zs.length := by rw [hys]; exact List.length_mergeSort _
    have hperm : ys.Perm zs := by rw [hys]; exact List.mergeSort_perm _ _
    have hsort : ys.Pairwise (· ≤ ·) := by
      have := List.pairwise_mergeSort (le := fun x y : Int => decide (x ≤ y)) (fun a b c h1 h2 => by simp at *; omega) (fun a b => by simp; omega) zs
      rw [← hys] at this
      exact this.imp fun h => by simpa using h
    rw [Lib.sorted_world (Value.int .i64) w g 0 q zs.toArray _ os hH (by rw [← hys]; simpa using hyl), ← hys]
    have hnn : ∀ y, y ∈ ys → ∃ m : Nat, y = (m : Int) := fun y hy => by
      have h1 := hperm.mem_iff.1 hy
      rw [hzs] at h1
      obtain ⟨m, _, e⟩ := List.mem_map.1 h1
      exact ⟨m, e.symm⟩
    obtain ⟨L', hL'⟩ : ∃ L' : List Nat, ys = L'.map fun m : Nat => (m : Int) := by
      refine ⟨ys.map Int.toNat, ?_⟩
      rw [List.map_map]
      conv => lhs; rw [← List.map_id ys]
      refine List.map_congr_left fun y hy => ?_
      obtain ⟨m, rfl⟩ := hnn y hy
      simp
    clear hys hnn
    subst hL'
    have hl2 : L'.length = k := by simpa [hzl] using hyl
    have hr2 : RowAt eN ((w.drewN q).setCells g 0 ((L'.map fun m : Nat => (m : Int)).map (Value.int .i64))) g 3 L' rest := RowAt.ofInt (RowAt.setCells (hri.drewN q) hyl)
    generalize hvs : (L'.map fun m : Nat => (m : Int)).map (Value.int .i64) = vs at *
    obtain ⟨s1, s2, s3⟩ := same_setCells (g := g) vs 0 (w.drewN q)
    have s4 := size_setCells (g := g) vs 0 (w.drewN q)
    have hsz : w.heap.size = ((w.drewN q).setCells g 0 vs).heap.size := s4.symm
    have hr3 : RowAt eN (grow ((w.drewN q).setCells g 0 vs) os) g 3 L' rest := (heap_grow_old _ os hr2.lt).trans hr2
    refine ⟨rfl, L', ?_, ?_, OwnR.of_row' hr3 hg (by rw [hl2]; exact hc) h.capmax hl2, ⟨s1, s2, s3, by rw [size_grow]; omega, fun b hb hn => ?_⟩⟩
    · rw [hzs] at hperm
      have := hperm.map Int.toNat
      rw [List.map_map, List.map_map] at this
      have e : (Int.toNat ∘ fun m : Nat => (m : Int)) = id := by funext m; simp
      rw [e, List.map_id, List.map_id] at this
      exact this
    · rw [List.pairwise_map] at hsort
      exact hsort.imp fun h => by omega
    · rw [heap_grow_old _ os (by omega)]
      exact heap_setCells_other vs 0 (w.drewN q) b (fun e => hn (by rw [e]))
end Go.Proofs.Ytaibdlnolpbpiaa
