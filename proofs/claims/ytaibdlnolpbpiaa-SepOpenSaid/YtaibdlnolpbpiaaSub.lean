/- Plain law: parts of a slice, as slices. No condition. -/
import Derived.Test.YtaibdlnolpbpiaaBase
namespace Go.Proofs.Ytaibdlnolpbpiaa
open Go.RowKit

/-- one element of a slice, as a slice -/
theorem Sl.sub1 {w : World} {b off n : Nat} {xs : List Int} (h : Sl (Value.int .i64) w (some ⟨b, off, none⟩) n xs) {i : Nat} (hi : i < n) : Sl (Value.int .i64) w (some ⟨b, off + i, none⟩) 1 [nth xs i] := by
  refine ⟨rfl, by omega, fun _ => ?_⟩
  obtain ⟨b', off', e, hlt, hc⟩ := h.at' (by omega)
  injection e with e
  injection e with e1 e2 _
  subst e1 e2
  refine ⟨b, off + i, rfl, hlt, fun j hj => ?_⟩
  obtain rfl : j = 0 := by omega
  exact hc i hi
theorem Sl.pre {w : World} {b off n : Nat} {xs : List Int} (h : Sl (Value.int .i64) w (some ⟨b, off, none⟩) n xs) {i : Nat} (hi : i ≤ n) : Sl (Value.int .i64) w (some ⟨b, off, none⟩) i (xs.take i) := by
  have hbig := h.big
  have hl := h.len
  refine ⟨by rw [List.length_take]; omega, by omega, fun hp => ?_⟩
  obtain ⟨b', off', e, hlt, hc⟩ := h.at' (by omega)
  injection e with e
  injection e with e1 e2 _
  subst e1 e2
  refine ⟨b, off, rfl, hlt, fun j hj => ?_⟩
  rw [nth_take hj]
  exact hc j (by omega)
theorem Sl.suf {w : World} {b off n : Nat} {xs : List Int} (h : Sl (Value.int .i64) w (some ⟨b, off, none⟩) n xs) {i : Nat} {A : Option Addr} (hA : i < n → A = some ⟨b, off + i, none⟩) (hi : i ≤ n) : Sl (Value.int .i64) w A (n - i) (xs.drop i) := by
  have hbig := h.big
  have hl := h.len
  refine ⟨by rw [List.length_drop]; omega, by omega, fun hp => ?_⟩
  obtain ⟨b', off', e, hlt, hc⟩ := h.at' (by omega)
  injection e with e
  injection e with e1 e2 _
  subst e1 e2
  refine ⟨b, off + i, hA (by omega), hlt, fun j hj => ?_⟩
  rw [nth_drop, Nat.add_assoc]
  exact hc (i + j) (by omega)
end Go.Proofs.Ytaibdlnolpbpiaa
