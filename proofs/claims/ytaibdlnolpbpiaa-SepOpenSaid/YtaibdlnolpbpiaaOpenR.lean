/- Arguments that are slices of slices of ints, opened. Conditions: the row's own reach. -/
import Derived.Test.YtaibdlnolpbpiaaOpen
import Derived.Test.YtaibdlnolpbpiaaLists
namespace Go.Proofs.Ytaibdlnolpbpiaa
open Go.ChangeShapes Go.WideShapes Go.ChangeAt Go.RowKit Go.Joins
section
variable {H : Type} {enc : TypeId × Value → H} {P : Program}
/-- a cell that is a slice of slices of ints -/
theorem cell_rows {T S e : TypeId} {W : World} {v : Value} {fuel : Nat} {y : DataW H × List MemPlace} (ht : P.underlying T = some (.slice S)) (hs : P.underlying S = some (.slice e)) (he : P.underlying e = some (.int .i64)) (hc1 : P.cellsOf S = 1) (hb1 : P.bytesOf S = 24) (hc : P.cellsOf e = 1) (hby : P.bytesOf e = 8)
    (hf : DataW.trod enc P W 0 (fun _ => true) true fuel T [v] = some y) (hw : Wt P T y.1) :
    ∃ A n c L, v = .slice A n c ∧ Rows (Value.int .i64) W A n L ∧ n * 24 ≤ 140737488351232 ∧ n ≤ c ∧ (∀ i, i < n → (nth L i).length * 8 ≤ 140737488351232) ∧ ∀ l ∈ L, ∀ x ∈ l, (Lit.int .i64 x).wf = true := by
  obtain ⟨A, n, c, xs, rfl, hsl, hb, hnc, hg⟩ := cell_slice (enc := enc) (W := W) (fun x : (Option Addr × Nat × Nat) × List Int => eS x.1)
    (fun x => Sl (Value.int .i64) W x.1.1 x.1.2.1 x.2 ∧ x.1.2.1 * 8 ≤ 140737488351232 ∧ x.1.2.1 ≤ x.1.2.2 ∧ ∀ z ∈ x.2, (Lit.int .i64 z).wf = true) ht hc1 (by omega)
    (fun m c0 z hz hwz => by
      obtain ⟨A, n, c, xs, rfl, h1, h2, h3, h4⟩ := cell_ints hs he hc hby hz hwz
      exact ⟨((A, n, c), xs), rfl, h1, h2, h3, h4⟩) hf hw
  rw [hb1] at hb
  have hl := hsl.len
  refine ⟨A, n, c, xs.map (·.2), rfl, ⟨⟨xs.map (·.1), ⟨by simpa using hl, hsl.big, fun hp => ?_⟩, fun i hi => ?_⟩, by simpa using hl⟩, hb, hnc, fun i hi => ?_, fun l hm x hx => ?_⟩
  · obtain ⟨b, off, e1, hlt, hcell⟩ := hsl.at' hp
    exact ⟨b, off, e1, hlt, fun j hj => by rw [hcell j hj, nth_map _ (by omega)]⟩
  · rw [nth_map _ (by omega), nth_map _ (by omega)]
    have := hg _ (nth_mem (xs := xs) (j := i) (by omega))
    exact ⟨this.1, this.2.2.1⟩
  · rw [nth_map _ (by omega)]
    have := hg _ (nth_mem (xs := xs) (j := i) (by omega))
    rw [this.1.len]; exact this.2.1
  · obtain ⟨z, hz, rfl⟩ := List.mem_map.1 hm
    exact (hg z hz).2.2.2 x hx
end
end Go.Proofs.Ytaibdlnolpbpiaa
