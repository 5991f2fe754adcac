/- Joined by program out of: Backward, Trio. What each says stands at its own head. -/
import Derived.Test.YtgmchedfgdgenaaJ1
import Derived.RangeFuncNested
import Derived.RangeFuncBound
import Derived.RangeFuncCalls
import Derived.RangeFuncLeaves
import Derived.RangeFuncBox
import Derived.Shelf.Abstract
import Derived.Shelf.RegionOpen
import Derived.WalkKit
import Derived.OwnWalkIn
import Derived.TacticsInMore
import Derived.LoopNIn
import Derived.LoopIn
import Derived.Deep.DeepCutAuto
import Derived.Deep.CutBlock
/- slices.Backward over ints: what its function hands to a loop's body. Conditions: the slice reads, within Go's bound. -/
namespace Go.Proofs.Ytgmchedfgdgenaa
open Go.RowKit Go.Shelf
attribute [local go_sem] Oper.semAt_some

/-- the number of a round -/
abbrev Rd (n : Nat) := { j : Nat // j < n }
/-- all rounds ahead of round k have come, in order -/
def Came (n k : Nat) (pre : List (Rd n)) : Prop := pre.map Subtype.val = List.range k
theorem Came.length {n k : Nat} {pre : List (Rd n)} (h : Came n k pre) : pre.length = k := by have := congrArg List.length h; simpa using this
theorem Came.snoc {n k : Nat} {pre : List (Rd n)} (h : Came n k pre) (hk : k < n) : Came n (k + 1) (pre ++ [⟨k, hk⟩]) := by
  unfold Came at *; rw [List.map_append, h, List.range_succ]; rfl
theorem Came.back {n k : Nat} {pre : List (Rd n)} {x : Rd n} (h : Came n k (pre ++ [x])) : k = pre.length + 1 ∧ Came n pre.length pre ∧ x.1 = pre.length := by
  have hl := h.length
  rw [List.length_append, List.length_singleton] at hl
  subst hl
  unfold Came at *
  rw [List.range_succ, List.map_append] at h
  have := List.append_inj h (by simp)
  exact ⟨rfl, this.1, by have := this.2; simpa using this⟩
/-- what Backward hands over in round j -/
def backE (zs : List Int) (j : Rd zs.length) : Array Value := #[.int .i64 ((zs.length - 1 - j.1 : Nat) : Int), .int .i64 (nth zs (zs.length - 1 - j.1))]

/-- what a round keeps: all below a bound, and one block besides -/
def KeepB (n₀ Bs : Nat) (W W' : World) : Prop := Below n₀ W W' ∧ (Bs < W.heap.size → W'.heap[Bs]? = W.heap[Bs]?)
theorem KeepB.refl (n₀ Bs : Nat) (W : World) : KeepB n₀ Bs W W := ⟨Below.refl _ _, fun _ => rfl⟩
theorem keepB_t {n₀ Bs : Nat} {A B C : World} (h : KeepB n₀ Bs A B) (k : KeepB n₀ Bs B C) : KeepB n₀ Bs A C := ⟨h.1.trans k.1, fun hl => (k.2 (Nat.lt_of_lt_of_le hl h.1.size)).trans (h.2 hl)⟩
theorem keepB_b {n₀ Bs : Nat} {w : World} (hn : n₀ ≤ w.heap.size) (hB : Bs < w.heap.size) (W : World) (l : Nat) (o o' : Obj) (hl : w.heap.size ≤ l) (h : W.heap[l]? = some o) (h1 : o.isCells = false) (h2 : o.isWalk = false) : KeepB n₀ Bs W (W.putObj l o') :=
  ⟨belowK_b hn W l o o' hl h h1 h2, fun _ => World.putObj_heap_other (by omega)⟩
theorem KeepB.setCell {n₀ Bs : Nat} {A B : World} (h : KeepB n₀ Bs A B) {p : Addr} (hp : n₀ ≤ p.block) (hb : Bs ≠ p.block) (v : Value) : KeepB n₀ Bs A (B.setCell p v) :=
  ⟨h.1.setCell hp v, fun hl => (Below.heap_setCell B p v Bs hb).trans (h.2 hl)⟩
theorem KeepB.drew {n₀ Bs : Nat} {A B : World} (h : KeepB n₀ Bs A B) : KeepB n₀ Bs A B.drew := ⟨⟨h.1.os, h.1.tape, h.1.output, h.1.size, h.1.block⟩, h.2⟩
theorem KeepB.cell {n₀ Bs : Nat} {A B : World} (h : KeepB n₀ Bs A B) {o : Nat} {v : Value} (hc : A.cell? ⟨Bs, o, none⟩ = some v) : B.cell? ⟨Bs, o, none⟩ = some v := by
  have hl := World.block_lt_of_cell? A ⟨Bs, o, none⟩ hc
  have h2 := h.2 hl
  simp only [World.cell?, h2] at hc ⊢
  exact hc
set_option maxRecDepth 100000 in
set_option maxHeartbeats 2000000 in
theorem back1_in (F : Fence) (n : Nat) (h7 : F.fn 97) (hro : F.round = none) (hn : 1 ≤ n) (l Bs n₀ b off cap : Nat) (zs : List Int) (hreach : zs.length ≤ 140737488351232) (hb : b < n₀) (J Jx : List (Rd zs.length) → World → Prop)
    (hY : ∀ pre x W, J pre W → pre.length < zs.length → YieldAt F (n - 1) Try.prog l (backE zs x) W fun e W' =>
      (e = .returned (.bool true) ∧ J (pre ++ [x]) W' ∧ KeepB n₀ Bs W W') ∨ (e = .returned (.bool false) ∧ Jx (pre ++ [x]) W'))
    (W : World) (hBs1 : W.cell? ⟨Bs, 0, none⟩ = some (.slice (some ⟨b, off, none⟩) zs.length cap)) (hc : ∀ j, j < zs.length → W.cell? ⟨b, off + j, none⟩ = some (.int .i64 (nth zs j))) (h0 : J [] W) :
    CallsIn F n Try.prog 97 #[.func (.yield l) #[] #[], .pointer (some ⟨Bs, 0, none⟩)] W fun e W' => (∃ v, e = .returned v) ∧
      ((∃ ys, Came zs.length zs.length ys ∧ J ys W') ∨ (∃ pre, (∃ k, k ≤ zs.length ∧ Came zs.length k pre) ∧ Jx pre W')) := by
  obtain ⟨len, hlen⟩ : ∃ len, len = zs.length := ⟨_, rfl⟩
  rw [← hlen] at hBs1 hreach
  have HLen := Lib.hid hlen
  have hc : ∀ j, j < len → W.cell? ⟨b, off + j, none⟩ = some (.int .i64 (nth zs j)) := fun j hj => hc j (by omega)
  clear hlen
  refine callsIn_of_wp Try.func97 rfl h7 ?_ hro
  simp only [Try.ntmps97, List.size_toArray, List.length_cons, List.length_nil, Nat.reduceAdd, Nat.reduceSub, Array.replicate_succ, Array.replicate_zero, List.push_toArray, List.append_toArray, List.nil_append, List.cons_append]
  have hw0 : IntKind.i64.wrap ((len : Int) - 1) = (len : Int) - 1 := by simp [IntKind.wrap, IntKind.bits, IntKind.signed]; omega
  gi_wp2
  gi_loopw [3] (fun i wr => ∃ (k : Nat) (pre : List (Rd zs.length)), k ≤ len ∧ i = .int .i64 ((len : Int) - 1 - (k : Int)) ∧ Came zs.length k pre ∧ J pre wr ∧ KeepB n₀ Bs W wr)
    (fun i _ => (intOf i + 1).toNat)
  case atStart => exact ⟨0, [], Nat.zero_le _, by simp, rfl, h0, KeepB.refl _ _ _⟩
  case round =>
    obtain ⟨k, pre, hk, rfl, hcame, hJs, hnx⟩ := hrel
    by_cases hlt : k < len
    · obtain ⟨m, hm⟩ : ∃ m : Nat, (len : Int) - 1 - (k : Int) = (m : Int) := ⟨len - 1 - k, by omega⟩
      have hml : m < len := by omega
      have hmn : m = len - 1 - k := by omega
      rw [hm]
      have hkz : k < zs.length := by rw [← HLen.out]; exact hlt
      have hf : backE zs ⟨k, hkz⟩ = #[.int .i64 (m : Int), .int .i64 (nth zs m)] := by
        have e : zs.length - 1 - k = m := by have := HLen.out; omega
        show #[Value.int .i64 ((zs.length - 1 - k : Nat) : Int), .int .i64 (nth zs (zs.length - 1 - k))] = _
        rw [e]
      have hcx := (hnx.1.cell (p := ⟨b, off + m, none⟩) hb).trans (hc m hml)
      have hcs := hnx.cell hBs1
      obtain ⟨fn, tmps, assign, body, hy, hR⟩ := hY _ ⟨k, hkz⟩ wr hJs (by rw [hcame.length]; exact hkz)
      rw [hf] at hy
      have hcm := hcame.snoc hkz
      have HM := Lib.hid (And.intro hm (And.intro hmn hcm))
      clear hm hmn hf hc hBs1 hcm hcame
      have hm0 : (0 : Int) ≤ (m : Int) := by omega
      gi_wp2
      refine hR.mono ?_
      rintro e W3 (⟨rfl, hJ3, hk3⟩ | ⟨rfl, hJx3⟩)
      · have hw1 : IntKind.i64.wrap ((m : Int) - 1) = (m : Int) - 1 := by simp [IntKind.wrap, IntKind.bits, IntKind.signed]; omega
        gi_wp2
        go_roundw
        case rel => exact ⟨k + 1, _, by omega, by congr 1; have := HM.out; omega, HM.out.2.2, hJ3, keepB_t hnx hk3⟩
        case measure => simp [intOf]
      · gi_wp2
        refine bodyPost_ret (results_none rfl _ _ _) rfl ?_
        exact ⟨⟨_, rfl⟩, .inr ⟨_, ⟨k + 1, by have := HLen.out; omega, HM.out.2.2⟩, hJx3⟩⟩
    · obtain rfl : len = k := by omega
      have hneg : (len : Int) - 1 - (len : Int) = -1 := by omega
      rw [hneg]
      gi_wp2
      go_end0
      exact ⟨⟨_, rfl⟩, .inl ⟨_, by have h2 := hcame; rw [HLen.out] at h2; exact h2, hJs⟩⟩
set_option maxRecDepth 100000 in
set_option maxHeartbeats 1000000 in
theorem back1_none (F : Fence) (n : Nat) (h7 : F.fn 97) (hro : F.round = none) (l Bs cap : Nat) (A : Option Addr) {m : Nat} (J : List (Rd m) → World → Prop) (W : World) (hBs : W.cell? ⟨Bs, 0, none⟩ = some (.slice A 0 cap)) (h0 : J [] W) :
    CallsIn F n Try.prog 97 #[.func (.yield l) #[] #[], .pointer (some ⟨Bs, 0, none⟩)] W fun e W' => (∃ v, e = .returned v) ∧ J [] W' := by
  refine callsIn_of_wp Try.func97 rfl h7 ?_ hro
  simp only [Try.ntmps97, List.size_toArray, List.length_cons, List.length_nil, Nat.reduceAdd, Nat.reduceSub, Array.replicate_succ, Array.replicate_zero, List.push_toArray, List.append_toArray, List.nil_append, List.cons_append]
  gi_wp2
  gi_loopw [3] (fun i wr => i = .int .i64 (-1) ∧ J [] wr) (fun _ _ => 0)
  case atStart => exact ⟨rfl, h0⟩
  case round =>
    obtain ⟨rfl, hJs⟩ := hrel
    gi_wp2
    go_end0
    exact ⟨⟨_, rfl⟩, hJs⟩
set_option maxHeartbeats 1000000 in
theorem back_any (a : Option Addr) (len cap : Nat) (w : World) : Calls Try.prog 91 #[.slice a len cap] w fun e w' => e = .returned (.func (.func 97) #[] #[.pointer (some ⟨w.heap.size, 0, none⟩)]) ∧ w' = w.alloc (.cells #[.slice a len cap] 22) := by
  go_enter Try.func91, Try.ntmps91
  go_wp2_with fail
  go_ret
  exact ⟨rfl, rfl⟩
/-- the function that Backward gives goes from the last to the first -/
theorem back_stops (F : Fence) (n : Nat) (h7 : F.fn 97) (hro : F.round = none) (hn : 1 ≤ n) (Bs n₀ : Nat) (A : Option Addr) (cap : Nat) (zs : List Int) (w : World) (_ : n₀ ≤ w.heap.size)
    (hc : RowC w Bs 22 [.slice A zs.length cap]) (hA : ∀ b off, 0 < zs.length → A = some ⟨b, off, none⟩ → b < n₀) (hI : Sl (Value.int .i64) w A zs.length zs) :
    SeqStopsK F n Try.prog 97 #[.pointer (some ⟨Bs, 0, none⟩)] (backE zs) (KeepB n₀ Bs) (fun ys => Came zs.length zs.length ys)
      (fun pre => ∃ k, k ≤ zs.length ∧ Came zs.length k pre) zs.length w := fun l J Jx W hW _ _ hY h0 => by
  have hc' : W.cell? ⟨Bs, 0, none⟩ = some (.slice A zs.length cap) := (hc.below' hW).cell 0
  rcases Nat.eq_zero_or_pos zs.length with hz | hz
  · obtain rfl : zs = [] := List.eq_nil_of_length_eq_zero hz
    exact (back1_none F n h7 hro l Bs cap A J W hc' h0).mono fun e W' ⟨he, hj⟩ => ⟨he, .inl ⟨[], rfl, hj⟩⟩
  · obtain ⟨b, off, rfl, hb, hcs⟩ := hI.at' hz
    refine (back1_in F n h7 hro hn l Bs n₀ b off cap zs hI.big (hA b off hz rfl) J Jx hY W hc' (fun j hj => (hW.cell (p := ⟨b, off + j, none⟩) hb).trans (hcs j hj)) h0).mono ?_
    rintro e W' ⟨he, ⟨ys, hys, hj⟩ | ⟨pre, ⟨k, hk, hcm⟩, hj⟩⟩
    · exact ⟨he, .inl ⟨_, hys, hj⟩⟩
    · exact ⟨he, .inr ⟨_, ⟨k, hk, hcm⟩, hj⟩⟩
end Go.Proofs.Ytgmchedfgdgenaa
/- Three rows of the call's own, no two the same one; a box that holds their three slices. No condition. -/
namespace Go.Proofs.Ytgmchedfgdgenaa
open Go.RowKit

/-- three slices, each owning a row among the blocks from base on, no two the same one -/
structure Trio {α β γ : Type} (ea : α → Value) (eb : β → Value) (ec : γ → Value) (w : World) (base : Nat) (ta tb tc : TypeId) (A : Option Addr) (n c : Nat) (X : List α) (B : Option Addr) (m d : Nat) (Y : List β) (C : Option Addr) (k e : Nat) (Z : List γ) : Prop where
  o1 : OwnR ea w base ta A n c X
  o2 : OwnR eb w base tb B m d Y
  o3 : OwnR ec w base tc C k e Z
  d12 : ∀ g, A = some ⟨g, 0, none⟩ → B ≠ some ⟨g, 0, none⟩
  d13 : ∀ g, A = some ⟨g, 0, none⟩ → C ≠ some ⟨g, 0, none⟩
  d23 : ∀ g, B = some ⟨g, 0, none⟩ → C ≠ some ⟨g, 0, none⟩
theorem OwnR.block_eq {α : Type} {enc : α → Value} {w : World} {base : Nat} {e : TypeId} {A : Option Addr} {n c : Nat} {xs : List α} (h : OwnR enc w base e A n c xs) {g : Nat} (hg : (Value.slice A n c).ownBlock = some g) : A = some ⟨g, 0, none⟩ := by
  rcases h.at_row with rfl | ⟨g', rfl, _⟩
  · cases hg
  · injection hg with hg; rw [← hg]
section
variable {α β γ : Type} {ea : α → Value} {eb : β → Value} {ec : γ → Value} {w w' : World} {base : Nat} {ta tb tc : TypeId} {A : Option Addr} {n c : Nat} {X : List α} {B : Option Addr} {m d : Nat} {Y : List β} {C : Option Addr} {k e : Nat} {Z : List γ}
theorem Trio.rot (h : Trio ea eb ec w base ta tb tc A n c X B m d Y C k e Z) : Trio eb ec ea w base tb tc ta B m d Y C k e Z A n c X :=
  ⟨h.o2, h.o3, h.o1, h.d23, fun g e1 e2 => h.d12 g e2 e1, fun g e1 e2 => h.d13 g e2 e1⟩
theorem Trio.nil (ea : α → Value) (eb : β → Value) (ec : γ → Value) (w : World) (base : Nat) (ta tb tc : TypeId) : Trio ea eb ec w base ta tb tc none 0 0 [] none 0 0 [] none 0 0 [] :=
  ⟨OwnR.nil _ _ _ _, OwnR.nil _ _ _ _, OwnR.nil _ _ _ _, fun _ e => by (cases e), fun _ e => by (cases e), fun _ e => by (cases e)⟩
theorem Trio.below (h : Trio ea eb ec w base ta tb tc A n c X B m d Y C k e Z) (hb : Below w.heap.size w w') : Trio ea eb ec w' base ta tb tc A n c X B m d Y C k e Z :=
  ⟨h.o1.below (Nat.le_refl _) hb, h.o2.below (Nat.le_refl _) hb, h.o3.below (Nat.le_refl _) hb, h.d12, h.d13, h.d23⟩
instance : Stable (fun w => Trio ea eb ec w base ta tb tc A n c X B m d Y C k e Z) := ⟨fun hb h => h.below hb⟩
theorem Trio.alloc (h : Trio ea eb ec w base ta tb tc A n c X B m d Y C k e Z) (o : Obj) : Trio ea eb ec (w.alloc o) base ta tb tc A n c X B m d Y C k e Z := h.below ((Below.refl _ _).alloc (Nat.le_refl _) o)
theorem Trio.mono (h : Trio ea eb ec w base ta tb tc A n c X B m d Y C k e Z) {base' : Nat} (hb : base' ≤ base) : Trio ea eb ec w base' ta tb tc A n c X B m d Y C k e Z := ⟨h.o1.mono hb, h.o2.mono hb, h.o3.mono hb, h.d12, h.d13, h.d23⟩
/-- the first row has turned: what it owns now lies where it lay, or above -/
theorem Trio.app {α' : Type} {ea' : α' → Value} {ta' : TypeId} {A' : Option Addr} {n' c' : Nat} {X' : List α'} (h : Trio ea eb ec w base ta tb tc A n c X B m d Y C k e Z) (ho : OwnR ea' w' base ta' A' n' c' X')
    (hg : w.grownBy w' (Value.slice A n c).ownBlock) (hd : (Value.slice A' n' c').ownBlock = (Value.slice A n c).ownBlock ∨ (Value.slice A' n' c').ownBlock = some w.heap.size) :
    Trio ea' eb ec w' base ta' tb tc A' n' c' X' B m d Y C k e Z := by
  have hA : ∀ g, A' = some ⟨g, 0, none⟩ → A = some ⟨g, 0, none⟩ ∨ g = w.heap.size := fun g e1 => by
    have h1 : (Value.slice A' n' c').ownBlock = some g := by rw [e1]; rfl
    rcases hd with hd | hd
    · exact .inl (h.o1.block_eq (by rw [← hd]; exact h1))
    · rw [h1] at hd; injection hd with hd; exact .inr hd
  have lt2 : ∀ g, B = some ⟨g, 0, none⟩ → g < w.heap.size := fun g e1 => by
    rcases h.o2.at_row with h1 | ⟨g', h1, _, h2⟩
    · rw [e1] at h1; cases h1
    · rw [e1] at h1; injection h1 with h1; injection h1 with h1; omega
  have lt3 : ∀ g, C = some ⟨g, 0, none⟩ → g < w.heap.size := fun g e1 => by
    rcases h.o3.at_row with h1 | ⟨g', h1, _, h2⟩
    · rw [e1] at h1; cases h1
    · rw [e1] at h1; injection h1 with h1; injection h1 with h1; omega
  refine ⟨ho, h.o2.grown hg fun g e1 e2 => h.d12 g (h.o1.block_eq e2) e1, h.o3.grown hg fun g e1 e2 => h.d13 g (h.o1.block_eq e2) e1, fun g e1 e2 => ?_, fun g e1 e2 => ?_, h.d23⟩
  · rcases hA g e1 with h1 | h1
    · exact h.d12 g h1 e2
    · have := lt2 g e2; omega
  · rcases hA g e1 with h1 | h1
    · exact h.d13 g h1 e2
    · have := lt3 g e2; omega
/-- a cell that is none of the rows' is written -/
theorem Trio.setLow (h : Trio ea eb ec w base ta tb tc A n c X B m d Y C k e Z) {p : Addr} (hp : p.block < base) (u : Value) : Trio ea eb ec (w.setCell p u) base ta tb tc A n c X B m d Y C k e Z := by
  have low : ∀ {δ : Type} {ed : δ → Value} {td : TypeId} {D : Option Addr} {j f : Nat} {V : List δ}, OwnR ed w base td D j f V → ∀ g, D = some ⟨g, 0, none⟩ → g ≠ p.block := fun ho g e1 => by
    rcases ho.at_row with h1 | ⟨g', h1, h2, _⟩
    · rw [e1] at h1; cases h1
    · rw [e1] at h1; injection h1 with h1; injection h1 with h1; omega
  exact ⟨h.o1.setFar (low h.o1) u, h.o2.setFar (low h.o2) u, h.o3.setFar (low h.o3) u, h.d12, h.d13, h.d23⟩
theorem Trio.setFar (h : Trio ea eb ec w base ta tb tc A n c X B m d Y C k e Z) {p : Addr} (hp : ∀ g, A = some ⟨g, 0, none⟩ ∨ B = some ⟨g, 0, none⟩ ∨ C = some ⟨g, 0, none⟩ → g ≠ p.block) (u : Value) : Trio ea eb ec (w.setCell p u) base ta tb tc A n c X B m d Y C k e Z :=
  ⟨h.o1.setFar (fun g e1 => hp g (.inl e1)) u, h.o2.setFar (fun g e1 => hp g (.inr (.inl e1))) u, h.o3.setFar (fun g e1 => hp g (.inr (.inr e1))) u, h.d12, h.d13, h.d23⟩
/-- what turns when the first row turns -/
theorem Trio.below1 (h : Trio ea eb ec w base ta tb tc A n c X B m d Y C k e Z) (hg : w.grownBy w' (Value.slice A n c).ownBlock) {B0 : Nat} (hB : B0 ≤ base) (hs : B0 ≤ w.heap.size) : Below B0 w w' :=
  ⟨hg.os, hg.tape, hg.output, hg.size, fun b hb => hg.block b (by omega) fun e1 => by
    have := h.o1.block_eq e1.symm
    rcases h.o1.at_row with h1 | ⟨g', h1, h2, _⟩
    · rw [this] at h1; cases h1
    · rw [this] at h1; injection h1 with h1; injection h1 with h1; omega⟩
end

/-- a box of three slices that own rows above it, with room behind: all that the call has written -/
structure Boxed3 {γ : Type} (ec : γ → Value) (w0 w : World) (g : Nat) (tb ti tc : TypeId) (A : Option Addr) (n c : Nat) (X : List Int) (B : Option Addr) (m d : Nat) (Y : List Int) (C : Option Addr) (k e : Nat) (Z : List γ) : Prop where
  bel : Below w0.heap.size w0 w
  row : RowC w g tb [.slice A n c, .slice B m d, .slice C k e]
  tr : Trio (Value.int .i64) (Value.int .i64) ec w (g + 1) ti ti tc A n c X B m d Y C k e Z
  lt : w0.heap.size ≤ g
section
variable {γ : Type} {ec : γ → Value} {w0 w w' : World} {g : Nat} {tb ti tc : TypeId} {A : Option Addr} {n c : Nat} {X : List Int} {B : Option Addr} {m d : Nat} {Y : List Int} {C : Option Addr} {k e : Nat} {Z : List γ}
theorem Boxed3.alloc (h : Boxed3 ec w0 w g tb ti tc A n c X B m d Y C k e Z) (o : Obj) : Boxed3 ec w0 (w.alloc o) g tb ti tc A n c X B m d Y C k e Z := ⟨h.bel.alloc h.bel.size o, h.row.alloc o, h.tr.alloc o, h.lt⟩
theorem Boxed3.low (h : Boxed3 ec w0 w g tb ti tc A n c X B m d Y C k e Z) (hg : w.grownBy w' (Value.slice A n c).ownBlock) : Below (g + 1) w w' := h.tr.below1 hg (Nat.le_refl _) h.row.lt
theorem Boxed3.low2 (h : Boxed3 ec w0 w g tb ti tc A n c X B m d Y C k e Z) (hg : w.grownBy w' (Value.slice B m d).ownBlock) : Below (g + 1) w w' := h.tr.rot.below1 hg (Nat.le_refl _) h.row.lt
theorem Boxed3.low3 (h : Boxed3 ec w0 w g tb ti tc A n c X B m d Y C k e Z) (hg : w.grownBy w' (Value.slice C k e).ownBlock) : Below (g + 1) w w' := h.tr.rot.rot.below1 hg (Nat.le_refl _) h.row.lt
theorem Boxed3.app1 {A' : Option Addr} {n' c' : Nat} {X' : List Int} (h : Boxed3 ec w0 w g tb ti tc A n c X B m d Y C k e Z) (ho : OwnR (Value.int .i64) w' (g + 1) ti A' n' c' X') (hg : w.grownBy w' (Value.slice A n c).ownBlock)
    (hd : (Value.slice A' n' c').ownBlock = (Value.slice A n c).ownBlock ∨ (Value.slice A' n' c').ownBlock = some w.heap.size) : Boxed3 ec w0 (w'.setCell ⟨g, 0, none⟩ (.slice A' n' c')) g tb ti tc A' n' c' X' B m d Y C k e Z :=
  ⟨(h.bel.trans ((h.low hg).mono (by have := h.lt; omega))).setCell (p := ⟨g, 0, none⟩) h.lt _, (h.row.below (h.low hg) (Nat.lt_succ_self g)).put 0 _, (h.tr.app ho hg hd).setLow (Nat.lt_succ_self g) _, h.lt⟩
theorem Boxed3.app2 {A' : Option Addr} {n' c' : Nat} {X' : List Int} (h : Boxed3 ec w0 w g tb ti tc A n c X B m d Y C k e Z) (ho : OwnR (Value.int .i64) w' (g + 1) ti A' n' c' X') (hg : w.grownBy w' (Value.slice B m d).ownBlock)
    (hd : (Value.slice A' n' c').ownBlock = (Value.slice B m d).ownBlock ∨ (Value.slice A' n' c').ownBlock = some w.heap.size) : Boxed3 ec w0 (w'.setCell ⟨g, 1, none⟩ (.slice A' n' c')) g tb ti tc A n c X A' n' c' X' C k e Z :=
  ⟨(h.bel.trans ((h.low2 hg).mono (by have := h.lt; omega))).setCell (p := ⟨g, 1, none⟩) h.lt _, (h.row.below (h.low2 hg) (Nat.lt_succ_self g)).put 1 _, ((h.tr.rot.app ho hg hd).rot.rot).setLow (Nat.lt_succ_self g) _, h.lt⟩
theorem Boxed3.app3 {C' : Option Addr} {n' c' : Nat} {X' : List γ} (h : Boxed3 ec w0 w g tb ti tc A n c X B m d Y C k e Z) (ho : OwnR ec w' (g + 1) tc C' n' c' X') (hg : w.grownBy w' (Value.slice C k e).ownBlock)
    (hd : (Value.slice C' n' c').ownBlock = (Value.slice C k e).ownBlock ∨ (Value.slice C' n' c').ownBlock = some w.heap.size) : Boxed3 ec w0 (w'.setCell ⟨g, 2, none⟩ (.slice C' n' c')) g tb ti tc A n c X B m d Y C' n' c' X' :=
  ⟨(h.bel.trans ((h.low3 hg).mono (by have := h.lt; omega))).setCell (p := ⟨g, 2, none⟩) h.lt _, (h.row.below (h.low3 hg) (Nat.lt_succ_self g)).put 2 _, ((h.tr.rot.rot.app ho hg hd).rot).setLow (Nat.lt_succ_self g) _, h.lt⟩
end
/-- what is left of what the call owns, at a length that is shorter -/
theorem OwnR.pre {α : Type} [Inhabited α] {enc : α → Value} {w : World} {base : Nat} {e : TypeId} {A : Option Addr} {n m c : Nat} {xs ys : List α} (h : OwnR enc w base e A m c (xs ++ ys)) (hn : xs.length = n) (hb : m ≤ 140737488351232) : Sl enc w A n xs := by
  have h1 := h.sl hb
  have h2 := h.length
  rw [List.length_append] at h2
  refine ⟨hn, by omega, fun hp => ?_⟩
  obtain ⟨b, off, e1, hlt, hc⟩ := h1.at' (by omega)
  refine ⟨b, off, e1, hlt, fun j hj => ?_⟩
  rw [hc j (by omega), nth_append_left (by omega)]
/-- the call's own row, all of it written over -/
theorem OwnR.over {α : Type} {enc : α → Value} {w w' : World} {base : Nat} {e : TypeId} {g n c : Nat} {xs ys : List α} {rest : List Value} (h : OwnR enc w base e (some ⟨g, 0, none⟩) n c xs) (hr : RowAt enc w' g e ys rest) (hl : ys.length = n) (hc : n + rest.length = c) : OwnR enc w' base e (some ⟨g, 0, none⟩) n c ys := by
  have hb : base ≤ g := by
    rcases h.2 with ⟨h1, _⟩ | ⟨g', _, _, h1, h2, _⟩
    · injection h1 with h1; cases h1
    · injection h1 with h1; injection h1 with h1; injection h1 with h1; omega
  exact OwnR.of_row' hr hb (by rw [hl]; exact hc) h.capmax hl
theorem Sl.grown {α : Type} [Inhabited α] {enc : α → Value} {w w' : World} {A : Option Addr} {n : Nat} {xs : List α} {row : Option Nat} (h : Sl enc w A n xs) (hg : w.grownBy w' row) (hne : ∀ b off, 0 < n → A = some ⟨b, off, none⟩ → row ≠ some b) : Sl enc w' A n xs :=
  ⟨h.len, h.big, fun hn => by
    obtain ⟨b, off, e, hlt, hc⟩ := h.at' hn
    exact ⟨b, off, e, Nat.lt_of_lt_of_le hlt hg.size, fun j hj => World.grownBy.cell hg (hc j hj) (fun e' => hne b off hn e e'.symm)⟩⟩
theorem ownBlock_len (A : Option Addr) (n m c d : Nat) : (Value.slice A n c).ownBlock = (Value.slice A m d).ownBlock := by cases A <;> rfl
/-- one number of a row of the call's own, written over -/
theorem OwnR.setAt {α : Type} {enc : α → Value} {w : World} {base : Nat} {e : TypeId} {g n c : Nat} {xs : List α} (h : OwnR enc w base e (some ⟨g, 0, none⟩) n c xs) {j : Nat} (hj : j < n) (v : α) : OwnR enc (w.setCell ⟨g, j, none⟩ (enc v)) base e (some ⟨g, 0, none⟩) n c (xs.set j v) := by
  obtain ⟨g', rest, e1, hb, hr, hc⟩ := h.row (by omega)
  injection e1 with e1
  injection e1 with e1 _ _
  subst e1
  have hl := h.length
  exact h.over (hr.set (by rw [hl]; exact hj) v) (by rw [List.length_set]; exact hl) hc
theorem repl_stepG {α : Type} (mark : α) (xs : List α) (k : Nat) (h : k < xs.length) : (List.replicate k mark ++ xs.drop k).set k mark = List.replicate (k + 1) mark ++ xs.drop (k + 1) := by
  rw [List.drop_eq_getElem_cons h, List.set_append_right _ _ (by simp)]
  simp only [List.length_replicate, Nat.sub_self, List.set_cons_zero, List.replicate_succ', List.append_assoc, List.cons_append, List.nil_append]
theorem nth_replG {α : Type} [Inhabited α] (n k : Nat) (mark : α) (h : k < n) : nth (List.replicate n mark) k = mark := by
  rw [nth_eq (by simpa using h)]; simp
theorem cell_farN {w : World} {g h o o' : Nat} {u : Value} (hne : g ≠ h) : (w.setCell ⟨h, o, none⟩ u).cell? ⟨g, o', none⟩ = w.cell? ⟨g, o', none⟩ := by
  simp only [World.cell?, Below.heap_setCell w ⟨h, o, none⟩ u g hne]
theorem eiI : EI Try.prog 22 3 (.int .i64 0) 8 := .mk' Try.underlying22 (by kernel_rfl) rfl (by omega)
/-- what roomy gives: three rows of the call's own, each with four marks behind what was told -/
def RoomyPost {γ : Type} (ec : γ → Value) (_tb tc : TypeId) (S Z : List Int) (L : List γ) (mark : γ) (w : World) (e : Ending) (w' : World) : Prop :=
  ∃ A c B d C k, e = .returned (.agg #[.slice A S.length c, .slice B Z.length d, .slice C L.length k]) ∧
    Trio (Value.int .i64) (Value.int .i64) ec w' w.heap.size 3 3 tc A (S.length + 4) c (S ++ List.replicate 4 77) B (Z.length + 4) d (Z ++ List.replicate 4 78) C (L.length + 4) k (L ++ List.replicate 4 mark) ∧ Below w.heap.size w w'
end Go.Proofs.Ytgmchedfgdgenaa
