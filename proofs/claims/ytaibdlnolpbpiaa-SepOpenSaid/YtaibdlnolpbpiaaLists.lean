/- Slices of slices that read as lists of lists; numbers that are points. No condition. -/
import Derived.Test.YtaibdlnolpbpiaaHeld
import Derived.Test.YtaibdlnolpbpiaaUp
namespace Go.Proofs.Ytaibdlnolpbpiaa
open Go.RowKit

/-- a number from 0 on, as Go holds it -/
abbrev eN : Nat → Value := fun m => Value.int .i64 (m : Int)
/-- a slice's head, as Go holds it -/
abbrev eS : Option Addr × Nat × Nat → Value := fun v => Value.slice v.1 v.2.1 v.2.2
theorem one_eN (m : Nat) : (eN m).oneCell' = true := rfl
theorem one_eS (v : Option Addr × Nat × Nat) : (eS v).oneCell' = true := rfl

/-- the slice of slices at A reads as the lists L -/
structure Rows {α : Type} [Inhabited α] (enc : α → Value) (w : World) (A : Option Addr) (n : Nat) (L : List (List α)) : Prop where
  ex : ∃ vs : List (Option Addr × Nat × Nat), Sl eS w A n vs ∧ ∀ i, i < n → Sl enc w (nth vs i).1 (nth vs i).2.1 (nth L i) ∧ (nth vs i).2.1 ≤ (nth vs i).2.2
  len : L.length = n
section
variable {α : Type} [Inhabited α] {enc : α → Value} {w w' : World} {A : Option Addr} {n : Nat} {L : List (List α)}
theorem Rows.below (h : Rows enc w A n L) {B : Nat} (hB : w.heap.size ≤ B) (hb : Below B w w') : Rows enc w' A n L := by
  obtain ⟨⟨vs, h1, h2⟩, h3⟩ := h
  exact ⟨⟨vs, h1.below hB hb, fun i hi => ⟨(h2 i hi).1.below hB hb, (h2 i hi).2⟩⟩, h3⟩
instance : Stable (fun w => Rows enc w A n L) := ⟨fun hb h => h.below (Nat.le_refl _) hb⟩
theorem Rows.drewN (h : Rows enc w A n L) (k : Nat) : Rows enc (w.drewN k) A n L := h.below (Nat.le_refl _) (below_refl_drewN _ _ _)
theorem Rows.big (h : Rows enc w A n L) : n ≤ 140737488351232 := by obtain ⟨⟨vs, h1, _⟩, _⟩ := h; exact h1.big
/-- a row of it: its head's cell, and what it reads as -/
theorem Rows.row (h : Rows enc w A n L) {i : Nat} (hi : i < n) : ∃ b off B m d, A = some ⟨b, off, none⟩ ∧ b < w.heap.size ∧ w.cell? ⟨b, off + i, none⟩ = some (.slice B m d) ∧ Sl enc w B m (nth L i) := by
  obtain ⟨⟨vs, h1, h2⟩, _⟩ := h
  obtain ⟨b, off, e, hlt, hc⟩ := h1.at' (by omega)
  exact ⟨b, off, (nth vs i).1, (nth vs i).2.1, (nth vs i).2.2, e, hlt, hc i hi, (h2 i hi).1⟩
/-- .. and that its length is no more than its capacity -/
theorem Rows.rowC (h : Rows enc w A n L) {i : Nat} (hi : i < n) : ∃ b off B m d, A = some ⟨b, off, none⟩ ∧ b < w.heap.size ∧ w.cell? ⟨b, off + i, none⟩ = some (.slice B m d) ∧ Sl enc w B m (nth L i) ∧ m ≤ d := by
  obtain ⟨⟨vs, h1, h2⟩, _⟩ := h
  obtain ⟨b, off, e, hlt, hc⟩ := h1.at' (by omega)
  exact ⟨b, off, (nth vs i).1, (nth vs i).2.1, (nth vs i).2.2, e, hlt, hc i hi, h2 i hi⟩
theorem Rows.take (h : Rows enc w A n L) {k : Nat} (hk : k ≤ n) : Rows enc w A k (L.take k) := by
  obtain ⟨⟨vs, h1, h2⟩, h3⟩ := h
  refine ⟨⟨vs.take k, ⟨by rw [List.length_take, h1.len]; omega, by have := h1.big; omega, fun hp => ?_⟩, fun i hi => ?_⟩, by rw [List.length_take, h3]; omega⟩
  · obtain ⟨b, off, e, hlt, hc⟩ := h1.at' (by omega)
    exact ⟨b, off, e, hlt, fun j hj => by rw [hc j (by omega), nth_take hj]⟩
  · rw [nth_take hi, nth_take hi]; exact h2 i (by omega)
end
/-- an address that lies in a block from base on, if it is one -/
def Fr (base : Nat) (A : Option Addr) : Prop := ∀ b off, A = some ⟨b, off, none⟩ → base ≤ b
theorem Fr.mono {base base' : Nat} {A : Option Addr} (h : Fr base A) (hb : base' ≤ base) : Fr base' A := fun b off e => Nat.le_trans hb (h b off e)
theorem OwnR.fr {α : Type} {enc : α → Value} {w : World} {base : Nat} {e : TypeId} {A : Option Addr} {n c : Nat} {xs : List α} (h : OwnR enc w base e A n c xs) : Fr base A := by
  intro b off e1
  rcases h.2 with ⟨hv, _⟩ | ⟨g, cap, cur, hv, hb, _⟩
  · injection hv with e2; rw [e1] at e2; cases e2
  · injection hv with e2; rw [e1] at e2; injection e2 with e2; injection e2 with e2; omega
/-- what is read lies among the blocks from base on: a store below it leaves it -/
theorem Sl.setLow {α : Type} [Inhabited α] {enc : α → Value} {w : World} {A : Option Addr} {n : Nat} {xs : List α} {base : Nat} (h : Sl enc w A n xs) (hf : Fr base A) {p : Addr} (hp : p.block < base) (v : Value) : Sl enc (w.setCell p v) A n xs :=
  ⟨h.len, h.big, fun hn => by
    obtain ⟨b, off, e, hlt, hc⟩ := h.at' hn
    have hb := hf b off e
    refine ⟨b, off, e, by simpa [World.setCell] using hlt, fun j hj => ?_⟩
    rw [← hc j hj]
    have hne : b ≠ p.block := by omega
    simp only [World.cell?, Below.heap_setCell w p v b hne]⟩
/-- .. a slice of slices -/
def RowsF {α : Type} [Inhabited α] (base : Nat) (enc : α → Value) (w : World) (A : Option Addr) (n : Nat) (L : List (List α)) : Prop :=
  (∃ vs : List (Option Addr × Nat × Nat), Sl eS w A n vs ∧ Fr base A ∧ ∀ i, i < n → Sl enc w (nth vs i).1 (nth vs i).2.1 (nth L i) ∧ Fr base (nth vs i).1 ∧ (nth vs i).2.1 ≤ (nth vs i).2.2) ∧ L.length = n
section
variable {α : Type} [Inhabited α] {enc : α → Value} {w w' : World} {A : Option Addr} {n base : Nat} {L : List (List α)}
theorem RowsF.rows (h : RowsF base enc w A n L) : Rows enc w A n L := by
  obtain ⟨⟨vs, h1, _, h3⟩, h4⟩ := h
  exact ⟨⟨vs, h1, fun i hi => ⟨(h3 i hi).1, (h3 i hi).2.2⟩⟩, h4⟩
theorem RowsF.mono (h : RowsF base enc w A n L) {base' : Nat} (hb : base' ≤ base) : RowsF base' enc w A n L := by
  obtain ⟨⟨vs, h1, h2, h3⟩, h4⟩ := h
  exact ⟨⟨vs, h1, h2.mono hb, fun i hi => ⟨(h3 i hi).1, (h3 i hi).2.1.mono hb, (h3 i hi).2.2⟩⟩, h4⟩
theorem RowsF.below (h : RowsF base enc w A n L) {B : Nat} (hB : w.heap.size ≤ B) (hb : Below B w w') : RowsF base enc w' A n L := by
  obtain ⟨⟨vs, h1, h2, h3⟩, h4⟩ := h
  exact ⟨⟨vs, h1.below hB hb, h2, fun i hi => ⟨(h3 i hi).1.below hB hb, (h3 i hi).2⟩⟩, h4⟩
theorem RowsF.setLow (h : RowsF base enc w A n L) {p : Addr} (hp : p.block < base) (v : Value) : RowsF base enc (w.setCell p v) A n L := by
  obtain ⟨⟨vs, h1, h2, h3⟩, h4⟩ := h
  exact ⟨⟨vs, h1.setLow h2 hp v, h2, fun i hi => ⟨(h3 i hi).1.setLow (h3 i hi).2.1 hp v, (h3 i hi).2⟩⟩, h4⟩
instance : Stable (fun w => RowsF base enc w A n L) := ⟨fun hb h => h.below (Nat.le_refl _) hb⟩
end
theorem Sl.toNat {w : World} {A : Option Addr} {n : Nat} {l : List Int} (h : Sl (Value.int .i64) w A n l) (hl : ∀ p, p ∈ l → 0 ≤ p) : Sl eN w A n (l.map Int.toNat) :=
  ⟨by rw [List.length_map]; exact h.len, h.big, fun hp => by
    obtain ⟨b, off, e, hlt, hc⟩ := h.at' hp
    refine ⟨b, off, e, hlt, fun j hj => ?_⟩
    have hj' : j < l.length := by rw [h.len]; exact hj
    rw [hc j hj, nth_map _ hj']
    have := hl _ (nth_mem hj')
    show some (Value.int .i64 _) = some (Value.int .i64 _)
    congr 2
    omega⟩
theorem Sl.toInt {w : World} {A : Option Addr} {n : Nat} {l : List Nat} (h : Sl eN w A n l) : Sl (Value.int .i64) w A n (l.map fun m : Nat => (m : Int)) :=
  ⟨by rw [List.length_map]; exact h.len, h.big, fun hp => by
    obtain ⟨b, off, e, hlt, hc⟩ := h.at' hp
    refine ⟨b, off, e, hlt, fun j hj => ?_⟩
    rw [hc j hj, nth_map _ (by rw [h.len]; exact hj)]⟩
theorem Rows.toNat {w : World} {A : Option Addr} {n : Nat} {Ps : List (List Int)} (h : Rows (Value.int .i64) w A n Ps) (hr : inR Ps = true) : Rows eN w A n (toG Ps) := by
  have hl := h.len
  obtain ⟨⟨vs, h1, h2⟩, h3⟩ := h
  refine ⟨⟨vs, h1, fun i hi => ?_⟩, by rw [toG_length]; exact h3⟩
  rw [nth_toG (by omega)]
  exact ⟨(h2 i hi).1.toNat fun p hp => (inR_row hr (by omega) p hp).1, (h2 i hi).2⟩
/-- a list of points as a list of ints -/
def castL (l : List Nat) : List Int := l.map fun m : Nat => (m : Int)
theorem castL_snoc (l : List Nat) (x : Nat) : castL (l ++ [x]) = castL l ++ [(x : Int)] := by simp [castL]
theorem mem_castL {l : List Nat} {x : Nat} : ((x : Int) ∈ castL l) ↔ x ∈ l := by
  unfold castL; rw [List.mem_map]
  constructor
  · rintro ⟨y, hy, e⟩
    have : y = x := by omega
    rw [← this]; exact hy
  · exact fun h => ⟨x, h, rfl⟩
end Go.Proofs.Ytaibdlnolpbpiaa
