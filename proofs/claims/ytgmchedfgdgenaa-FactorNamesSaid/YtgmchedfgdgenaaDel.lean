/- slices.Delete of one place of an own row of ints. Condition: the place lies in it. -/
import Derived.Test.YtgmchedfgdgenaaProd
import Derived.Test.YtgmchedfgdgenaaDelShelf
namespace Go.Proofs.Ytgmchedfgdgenaa
open Go.RowKit

theorem del_any (A : Option Addr) (n c base i : Nat) (xs : List Int) (w : World) (h : OwnR (Value.int .i64) w base 3 A n c xs) (hi : i < n) :
    Calls Try.prog 92 #[.slice A n c, .int .i64 (i : Int), .int .i64 ((i : Int) + 1)] w fun e w' => e = .returned (.slice A (n - 1) c) ∧ OwnR (Value.int .i64) w' base 3 A (n - 1) c (xs.take i ++ xs.drop (i + 1)) ∧ Turn w w' (fun x => A = some ⟨x, 0, none⟩) := by
  have hl := h.length
  have hcn := h.cap
  have hc : c ≤ 9223372036854775807 := h.capmax
  obtain ⟨g, rest, rfl, hg, hr, hrest⟩ := h.row (by omega)
  have hd := Try.slices_Delete_int_cells g 0 n c i (i + 1) xs w (by omega) hcn hc (by omega) (by omega) (fun j hj => by
    rw [Nat.zero_add, hr.cell hj]
    simp [nth, List.getD]) (fun j hj => by rw [Nat.zero_add]; exact hr.frozen j)
  rw [show i + 1 - i = 1 by omega] at hd
  refine (show Calls Try.prog 92 #[.slice (some ⟨g, 0, none⟩) n c, .int .i64 (i : Int), .int .i64 ((i : Int) + 1)] w _ from hd).mono ?_
  rintro e w' ⟨rfl, q, rfl⟩
  have ht : xs.take n = xs := List.take_of_length_le (by omega)
  rw [ht]
  have hrow : RowC (w.drewN q) g 3 ([] ++ xs.map (Value.int .i64) ++ rest) := hr
  have h2 := RowC.setCells ((xs.take i ++ xs.drop (i + 1) ++ List.replicate 1 0).map (Value.int .i64)) (xs.map (Value.int .i64)) [] (w.drewN q) hrow (by simp; omega)
  refine ⟨rfl, ?_, ?_⟩
  · refine OwnR.of_row' (rest := [Value.int .i64 0] ++ rest) (show RowAt (Value.int .i64) _ g 3 _ _ from ?_) hg (by simp; omega) (by unfold maxLen; omega) (by simp; omega)
    unfold RowAt
    have h3 := h2
    unfold RowC at h3
    simpa using h3
  · have h4 := Turn.of_grown (grown_setCells (a := w.drewN q) (g := g) ((xs.take i ++ xs.drop (i + 1) ++ List.replicate 1 0).map (Value.int .i64)) 0 (w.drewN q) (show (w.drewN q).grownBy (w.drewN q) (some g) from ⟨rfl, rfl, rfl, Nat.le_refl _, fun _ _ _ => rfl⟩))
    exact ⟨h4.os, h4.tape, h4.output, h4.size, fun b hb hn => h4.block b hb (fun e => hn (by injection e with e; rw [e]))⟩
end Go.Proofs.Ytgmchedfgdgenaa
