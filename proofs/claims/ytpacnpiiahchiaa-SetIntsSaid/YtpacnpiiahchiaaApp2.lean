/- append onto a row of the call's own, told apart: in place, or into a new row that leaves all that was there. Conditions: elements of one cell; the lengths stay below Go's bound. -/
import Derived.Test.YtpacnpiiahchiaaLaws
namespace Go.Proofs.Ytpacnpiiahchiaa
open Go.RowKit

section
variable {P : Program} (w : World)
theorem run_append_two {α : Type} [Inhabited α] (enc : α → Value) (h1 : ∀ x, (enc x).oneCell' = true) (base : Nat) (t ty e : TypeId) (i : TypeInfo) (z : Value) (bytes : Nat) (ht : P.underlying t = some (.slice e)) (hi : P.info? e = some i)
    (hz : i.zero = some z) (hsize : i.size = 1) (hby : i.bytes = bytes) (hzs : z.cells.size = 1) (A : Option Addr) (n c : Nat) (xs : List α) (hown : OwnR enc w base e A n c xs)
    (ad : Addr) (m d : Nat) (ys : List α) (hy : Sl enc w (some ad) m ys) (h63 : n + m ≤ maxLen) (hbytes : (n + m) * bytes ≤ 140737488355328) (hbase : base ≤ w.heap.size) :
    ∃ A' c' w', (Builtin.append_ #[t, t] ty #[.slice A n c, .slice (some ad) m d]).run P w = .ok (.slice A' (n + m) c') w' ∧ OwnR enc w' base e A' (n + m) c' (xs ++ ys) ∧ w.grownBy w' (Value.slice A n c).ownBlock ∧ Below base w w' ∧
      ((A' = A ∧ c' = c) ∨ (Below w.heap.size w w' ∧ ((Value.slice A' (n + m) c').ownBlock = none ∨ (Value.slice A' (n + m) c').ownBlock = some w.heap.size))) := by
  obtain ⟨A', c', w', hrun, ho, hg, hb, hd⟩ := run_append_sl (P := P) w enc h1 base t ty e i z bytes ht hi hz hsize hby hzs A n c xs hown (some ad) m d ys hy h63 hbytes hbase
  refine ⟨A', c', w', hrun, ho, hg, hb, ?_⟩
  have hnews := Sl.news hy
  have hone : ∀ u ∈ ys.map enc, u.oneCell' = true := by
    intro u hu
    obtain ⟨y, _, rfl⟩ := List.mem_map.1 hu
    exact h1 y
  rcases hown.2 with ⟨hv, hn0⟩ | ⟨g, cap, cur, hv, hgb, hgg, hnc, hcm, hcs, htk⟩
  · injection hv with e1 e2 e3
    subst e1 e2 e3
    right
    have hg' : w.grownBy w' none := hg
    have hd' : (Value.slice A' (0 + m) c').ownBlock = none ∨ (Value.slice A' (0 + m) c').ownBlock = some w.heap.size := hd
    exact ⟨⟨hg'.os, hg'.tape, hg'.output, hg'.size, fun b hb => hg'.block b hb (by simp)⟩, hd'⟩
  · injection hv with e1 e2 e3
    subst e1 e3
    rcases Nat.lt_or_ge c (n + m) with hfull | hroom
    · right
      have holds : ∀ j v, (xs.map enc)[j]? = some v → w.cell? ((⟨g, 0, none⟩ : Addr).add j) = some v := World.ownsRow.cells hown rfl
      have hr := run_append_grow (P := P) w t ty e i z ht hi hz ⟨g, 0, none⟩ n c (xs.map enc) (by rw [hsize, Nat.mul_one]; simpa using hown.length) holds ad m d (ys.map enc) (by rw [hsize, Nat.mul_one]; simpa using hy.len) hnews hfull
        (by unfold maxLen at h63; omega) (by rw [hby]; exact growslice_fits hfull hbytes)
      rw [hr] at hrun
      injection hrun with h2 h3
      injection h2 with h4 _ _
      subst h3 h4
      refine ⟨?_, .inr rfl⟩
      exact (below_refl_drewN w.heap.size w 1).alloc (Nat.le_refl _) _
    · left
      have hr := run_append_room (P := P) w t ty e i ht hi g n c cur hgg ad m d (ys.map enc) (by rw [hsize, Nat.mul_one]; simpa using hy.len) hnews hone hroom (by rw [hsize, Nat.mul_one, List.length_map, hy.len, hcs]; omega)
      rw [hr] at hrun
      injection hrun with h2 h3
      injection h2 with h4 _ h5
      exact ⟨h4.symm, h5.symm⟩
theorem wpList_append_two {α : Type} [Inhabited α] (enc : α → Value) (h1 : ∀ x, (enc x).oneCell' = true) {ops : Array Oper} {rest : List Oper} {o : Oper} {a : Act} {Q : Exit → Act → World → Prop} (hgd : o.guard = none) (s x : Operand) (t : TypeId)
    (ho : o.op = .call { callee := .builtin .append, args := #[s, x], argTypes := #[t, t] })
    (base : Nat) (e : TypeId) (i : TypeInfo) (z : Value) (bytes : Nat) (ht : P.underlying t = some (.slice e)) (hi : P.info? e = some i)
    (hz : i.zero = some z) (hsize : i.size = 1) (hby : i.bytes = bytes) (hzs : z.cells.size = 1) (A : Option Addr) (n c : Nat) (xs : List α) (hs : a.eval s = .slice A n c) (hown : OwnR enc w base e A n c xs)
    (ad : Addr) (m d : Nat) (ys : List α) (hx : a.eval x = .slice (some ad) m d) (hy : Sl enc w (some ad) m ys) (h63 : n + m ≤ maxLen) (hbytes : (n + m) * bytes ≤ 140737488355328) (hbase : base ≤ w.heap.size)
    (h : ∀ A' c' w', OwnR enc w' base e A' (n + m) c' (xs ++ ys) → w.grownBy w' (Value.slice A n c).ownBlock → Below base w w' →
      ((A' = A ∧ c' = c) ∨ (Below w.heap.size w w' ∧ ((Value.slice A' (n + m) c').ownBlock = none ∨ (Value.slice A' (n + m) c').ownBlock = some w.heap.size))) → wpList P ops Q rest (a.put o.dst (.slice A' (n + m) c')) w') : wpList P ops Q (o :: rest) a w := by
  refine wpList_plain hgd fun K hK => ?_
  obtain ⟨A', c', w', hr, h2, h3, h4, h5⟩ := run_append_two (P := P) w enc h1 base t o.type e i z bytes ht hi hz hsize hby hzs A n c xs hown ad m d ys hy h63 hbytes hbase
  unfold Oper.wp execOp
  simp only [ho, resolve, invoke, builtin, Sem.run_bind, Sem.run_pure, Result.andThen_ok, List.map_toArray, List.map_cons, List.map_nil, hs, hx, hr]
  exact hK _ _ (h A' c' w' h2 h3 h4 h5)
end
end Go.Proofs.Ytpacnpiiahchiaa
