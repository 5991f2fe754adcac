/- The bulk of what is read bounds the lengths of the slices in it. No condition. -/
import Derived.Test.YtgmchedfgdgenaaOpen
import Derived.Test.YtgmchedfgdgenaaRows
import Derived.Deep.CondSized
namespace Go.Proofs.Ytgmchedfgdgenaa
open Go.ChangeShapes Go.WideShapes Go.ChangeAt Go.RowKit

theorem bulk_pos {H : Type} : ∀ d : DataW H, 1 ≤ Rows.uptoBulk d
  | .lit l => by cases l <;> simp [Rows.uptoBulk]
  | .nil => by simp [Rows.uptoBulk]
  | .ptr d => by simp [Rows.uptoBulk]
  | .slice a b => by simp [Rows.uptoBulk]
  | .agg a => by simp [Rows.uptoBulk]
  | .iface _ d => by simp [Rows.uptoBulk]
  | .map e => by simp [Rows.uptoBulk]
  | .held _ => by simp [Rows.uptoBulk]
theorem bulkAll_length {H : Type} : ∀ l : List (DataW H), l.length ≤ Rows.uptoBulkAll l
  | [] => by simp [Rows.uptoBulkAll]
  | d :: r => by
    have h1 := bulk_pos d
    have h2 := bulkAll_length r
    simp only [Rows.uptoBulkAll, List.length_cons]
    omega
theorem bulk_slice {H : Type} {enc : TypeId × Value → H} {P : Program} {W : World} {T e : TypeId} {A : Option Addr} {n c : Nat} {d : DataW H} {p : List MemPlace} (ht : P.underlying T = some (.slice e)) (h : DataW.Trod enc P W 0 (fun _ => true) true T (.slice A n c) d p) : n ≤ Rows.uptoBulk d := by
  obtain ⟨fuel, hf⟩ := h
  rcases DataW.trod_slice ht hf with ⟨hcs, hx⟩ | ⟨a, len, cap, elems, rest, m, rfl, hcs, hx, _, _, _, hlen, _⟩
  · simp [Value.cells] at hcs
    omega
  · simp [Value.cells] at hcs
    obtain ⟨_, rfl, _⟩ := hcs
    injection hx with hd _
    subst hd
    have := bulkAll_length (elems.map (·.1))
    simp only [List.length_map] at this
    simp only [Rows.uptoBulk]
    omega
theorem bulk_box {H : Type} {enc : TypeId × Value → H} {P : Program} {T S e : TypeId} {W : World} {base : Nat} {A1 A2 A3 : Option Addr} {n1 c1 n2 c2 n3 c3 : Nat} {d : DataW H} {p : List MemPlace} {f0 f1 f2 : Field} (hs : P.underlying T = some (.struct #[f0, f1, f2])) (h0 : f0.type = S) (h1 : f1.type = S) (h2 : f2.type = S)
    (hone : Deep.oneCellFields P #[f0, f1, f2] = true) (hC : P.cellsOf T = 3) (ht : P.underlying S = some (.slice e))
    (hok : Value.okWide P W .any base T (.agg #[.slice A1 n1 c1, .slice A2 n2 c2, .slice A3 n3 c3])) (h : DataW.Trod enc P W 0 (fun _ => true) true T (.agg #[.slice A1 n1 c1, .slice A2 n2 c2, .slice A3 n3 c3]) d p) :
    n1 ≤ Rows.uptoBulk d ∧ n2 ≤ Rows.uptoBulk d ∧ n3 ≤ Rows.uptoBulk d := by
  obtain ⟨v0, v1, v2, y0, y1, y2, n, hv, rfl, rfl, g0, g1, g2⟩ := Go.Joins.open_agg3 hs hone hC hok h
  simp only [Value.agg.injEq, Array.mk.injEq, List.cons.injEq, and_true] at hv
  obtain ⟨rfl, rfl, rfl⟩ := hv
  rw [h0] at g0; rw [h1] at g1; rw [h2] at g2
  have b0 := bulk_slice (d := y0.1) (p := y0.2) ht ⟨n, by simpa [Value.cells] using g0⟩
  have b1 := bulk_slice (d := y1.1) (p := y1.2) ht ⟨n, by simpa [Value.cells] using g1⟩
  have b2 := bulk_slice (d := y2.1) (p := y2.2) ht ⟨n, by simpa [Value.cells] using g2⟩
  simp only [Rows.uptoBulk, Rows.uptoBulkAll]
  omega
/-- a fix -/
theorem fix_ints {H : Type} {enc : TypeId × Value → H} {P : Program} {T : TypeId} {W : World} {base : Nat} {v : Value} {d : DataW H} {p : List MemPlace} {f0 f1 : Field} (hs : P.underlying T = some (.struct #[f0, f1])) (h0 : P.underlying f0.type = some (.int .i64)) (h1 : P.underlying f1.type = some (.int .i64))
    (hone : Deep.oneCellFields P #[f0, f1] = true) (hC : P.cellsOf T = 2) (hok : Value.okWide P W .any base T v) (h : DataW.Trod enc P W 0 (fun _ => true) true T v d p) :
    ∃ x y : Int, v = .agg #[.int .i64 x, .int .i64 y] ∧ (Lit.int .i64 x).wf = true ∧ (Lit.int .i64 y).wf = true := by
  obtain ⟨v0, v1, y0, y1, n, rfl, rfl, rfl, g0, g1⟩ := Go.Joins.open_agg2 hs hone hC hok h
  obtain ⟨x, rfl, hx⟩ := cell_int (W := W) h0 n v0 y0 g0
  obtain ⟨y, rfl, hy⟩ := cell_int (W := W) h1 n v1 y1 g1
  exact ⟨x, y, rfl, hx, hy⟩
end Go.Proofs.Ytgmchedfgdgenaa
