/- slices.Backward over ints: what its function hands to a loop's body. Conditions: the slice reads, within Go's bound. -/
import Derived.Test.YtgmchedfgdgenaaMem
import Derived.RangeFuncNested
import Derived.RangeFuncBound
import Derived.RangeFuncCalls
import Derived.RangeFuncLeaves
import Derived.RangeFuncBox
import Derived.Shelf.Abstract
import Derived.Shelf.RegionOpen
import Derived.WalkKit
import Derived.OwnWalkIn
import Derived.TacticsInMore
import Derived.LoopNIn
import Derived.LoopIn
namespace Go.Proofs.Ytgmchedfgdgenaa
open Go.RowKit Go.Shelf
attribute [local go_sem] Oper.semAt_some

/-- the number of a round -/
abbrev Rd (n : Nat) := { j : Nat // j < n }
/-- all rounds ahead of round k have come, in order -/
def Came (n k : Nat) (pre : List (Rd n)) : Prop := pre.map Subtype.val = List.range k
theorem Came.length {n k : Nat} {pre : List (Rd n)} (h : Came n k pre) : pre.length = k := by have := congrArg List.length h; simpa using this
theorem Came.snoc {n k : Nat} {pre : List (Rd n)} (h : Came n k pre) (hk : k < n) : Came n (k + 1) (pre ++ [⟨k, hk⟩]) := by
  unfold Came at *; rw [List.map_append, h, List.range_succ]; rfl
theorem Came.back {n k : Nat} {pre : List (Rd n)} {x : Rd n} (h : Came n k (pre ++ [x])) : k = pre.length + 1 ∧ Came n pre.length pre ∧ x.1 = pre.length := by
  have hl := h.length
  rw [List.length_append, List.length_singleton] at hl
  subst hl
  unfold Came at *
  rw [List.range_succ, List.map_append] at h
  have := List.append_inj h (by simp)
  exact ⟨rfl, this.1, by have := this.2; simpa using this⟩
/-- what Backward hands over in round j -/
def backE (zs : List Int) (j : Rd zs.length) : Array Value := #[.int .i64 ((zs.length - 1 - j.1 : Nat) : Int), .int .i64 (nth zs (zs.length - 1 - j.1))]

/-- what a round keeps: all below a bound, and one block besides -/
def KeepB (n₀ Bs : Nat) (W W' : World) : Prop := Below n₀ W W' ∧ (Bs < W.heap.size → W'.heap[Bs]? = W.heap[Bs]?)
theorem KeepB.refl (n₀ Bs : Nat) (W : World) : KeepB n₀ Bs W W := ⟨Below.refl _ _, fun _ => rfl⟩
theorem keepB_t {n₀ Bs : Nat} {A B C : World} (h : KeepB n₀ Bs A B) (k : KeepB n₀ Bs B C) : KeepB n₀ Bs A C := ⟨h.1.trans k.1, fun hl => (k.2 (Nat.lt_of_lt_of_le hl h.1.size)).trans (h.2 hl)⟩
theorem keepB_b {n₀ Bs : Nat} {w : World} (hn : n₀ ≤ w.heap.size) (hB : Bs < w.heap.size) (W : World) (l : Nat) (o o' : Obj) (hl : w.heap.size ≤ l) (h : W.heap[l]? = some o) (h1 : o.isCells = false) (h2 : o.isWalk = false) : KeepB n₀ Bs W (W.putObj l o') :=
  ⟨belowK_b hn W l o o' hl h h1 h2, fun _ => World.putObj_heap_other (by omega)⟩
theorem KeepB.setCell {n₀ Bs : Nat} {A B : World} (h : KeepB n₀ Bs A B) {p : Addr} (hp : n₀ ≤ p.block) (hb : Bs ≠ p.block) (v : Value) : KeepB n₀ Bs A (B.setCell p v) :=
  ⟨h.1.setCell hp v, fun hl => (Below.heap_setCell B p v Bs hb).trans (h.2 hl)⟩
theorem KeepB.drew {n₀ Bs : Nat} {A B : World} (h : KeepB n₀ Bs A B) : KeepB n₀ Bs A B.drew := ⟨⟨h.1.os, h.1.tape, h.1.output, h.1.size, h.1.block⟩, h.2⟩
theorem KeepB.cell {n₀ Bs : Nat} {A B : World} (h : KeepB n₀ Bs A B) {o : Nat} {v : Value} (hc : A.cell? ⟨Bs, o, none⟩ = some v) : B.cell? ⟨Bs, o, none⟩ = some v := by
  have hl := World.block_lt_of_cell? A ⟨Bs, o, none⟩ hc
  have h2 := h.2 hl
  simp only [World.cell?, h2] at hc ⊢
  exact hc
set_option maxRecDepth 100000 in
set_option maxHeartbeats 2000000 in
theorem back1_in (F : Fence) (n : Nat) (h7 : F.fn 97) (hro : F.round = none) (hn : 1 ≤ n) (l Bs n₀ b off cap : Nat) (zs : List Int) (hreach : zs.length ≤ 140737488351232) (hb : b < n₀) (J Jx : List (Rd zs.length) → World → Prop)
    (hY : ∀ pre x W, J pre W → pre.length < zs.length → YieldAt F (n - 1) Try.prog l (backE zs x) W fun e W' =>
      (e = .returned (.bool true) ∧ J (pre ++ [x]) W' ∧ KeepB n₀ Bs W W') ∨ (e = .returned (.bool false) ∧ Jx (pre ++ [x]) W'))
    (W : World) (hBs1 : W.cell? ⟨Bs, 0, none⟩ = some (.slice (some ⟨b, off, none⟩) zs.length cap)) (hc : ∀ j, j < zs.length → W.cell? ⟨b, off + j, none⟩ = some (.int .i64 (nth zs j))) (h0 : J [] W) :
    CallsIn F n Try.prog 97 #[.func (.yield l) #[] #[], .pointer (some ⟨Bs, 0, none⟩)] W fun e W' => (∃ v, e = .returned v) ∧
      ((∃ ys, Came zs.length zs.length ys ∧ J ys W') ∨ (∃ pre, (∃ k, k ≤ zs.length ∧ Came zs.length k pre) ∧ Jx pre W')) := by
  obtain ⟨len, hlen⟩ : ∃ len, len = zs.length := ⟨_, rfl⟩
  rw [← hlen] at hBs1 hreach
  have HLen := Lib.hid hlen
  have hc : ∀ j, j < len → W.cell? ⟨b, off + j, none⟩ = some (.int .i64 (nth zs j)) := fun j hj => hc j (by omega)
  clear hlen
  refine callsIn_of_wp Try.func97 rfl h7 ?_ hro
  simp only [Try.ntmps97, List.size_toArray, List.length_cons, List.length_nil, Nat.reduceAdd, Nat.reduceSub, Array.replicate_succ, Array.replicate_zero, List.push_toArray, List.append_toArray, List.nil_append, List.cons_append]
  have hw0 : IntKind.i64.wrap ((len : Int) - 1) = (len : Int) - 1 := by simp [IntKind.wrap, IntKind.bits, IntKind.signed]; omega
  gi_wp2
  gi_loopw [3] (fun i wr => ∃ (k : Nat) (pre : List (Rd zs.length)), k ≤ len ∧ i = .int .i64 ((len : Int) - 1 - (k : Int)) ∧ Came zs.length k pre ∧ J pre wr ∧ KeepB n₀ Bs W wr)
    (fun i _ => (intOf i + 1).toNat)
  case atStart => exact ⟨0, [], Nat.zero_le _, by simp, rfl, h0, KeepB.refl _ _ _⟩
  case round =>
    obtain ⟨k, pre, hk, rfl, hcame, hJs, hnx⟩ := hrel
    by_cases hlt : k < len
    · obtain ⟨m, hm⟩ : ∃ m : Nat, (len : Int) - 1 - (k : Int) = (m : Int) := ⟨len - 1 - k, by omega⟩
      have hml : m < len := by omega
      have hmn : m = len - 1 - k := by omega
      rw [hm]
      have hkz : k < zs.length := by rw [← HLen.out]; exact hlt
      have hf : backE zs ⟨k, hkz⟩ = #[.int .i64 (m : Int), .int .i64 (nth zs m)] := by
        have e : zs.length - 1 - k = m := by have := HLen.out; omega
        show #[Value.int .i64 ((zs.length - 1 - k : Nat) : Int), .int .i64 (nth zs (zs.length - 1 - k))] = _
        rw [e]
      have hcx := (hnx.1.cell (p := ⟨b, off + m, none⟩) hb).trans (hc m hml)
      have hcs := hnx.cell hBs1
      obtain ⟨fn, tmps, assign, body, hy, hR⟩ := hY _ ⟨k, hkz⟩ wr hJs (by rw [hcame.length]; exact hkz)
      rw [hf] at hy
      have hcm := hcame.snoc hkz
      have HM := Lib.hid (And.intro hm (And.intro hmn hcm))
      clear hm hmn hf hc hBs1 hcm hcame
      have hm0 : (0 : Int) ≤ (m : Int) := by omega
      gi_wp2
      refine hR.mono ?_
      rintro e W3 (⟨rfl, hJ3, hk3⟩ | ⟨rfl, hJx3⟩)
      · have hw1 : IntKind.i64.wrap ((m : Int) - 1) = (m : Int) - 1 := by simp [IntKind.wrap, IntKind.bits, IntKind.signed]; omega
        gi_wp2
        go_roundw
        case rel => exact ⟨k + 1, _, by omega, by congr 1; have := HM.out; omega, HM.out.2.2, hJ3, keepB_t hnx hk3⟩
        case measure => simp [intOf]
      · gi_wp2
        refine bodyPost_ret (results_none rfl _ _ _) rfl ?_
        exact ⟨⟨_, rfl⟩, .inr ⟨_, ⟨k + 1, by have := HLen.out; omega, HM.out.2.2⟩, hJx3⟩⟩
    · obtain rfl : len = k := by omega
      have hneg : (len : Int) - 1 - (len : Int) = -1 := by omega
      rw [hneg]
      gi_wp2
      go_end0
      exact ⟨⟨_, rfl⟩, .inl ⟨_, by have h2 := hcame; rw [HLen.out] at h2; exact h2, hJs⟩⟩
set_option maxRecDepth 100000 in
set_option maxHeartbeats 1000000 in
theorem back1_none (F : Fence) (n : Nat) (h7 : F.fn 97) (hro : F.round = none) (l Bs cap : Nat) (A : Option Addr) {m : Nat} (J : List (Rd m) → World → Prop) (W : World) (hBs : W.cell? ⟨Bs, 0, none⟩ = some (.slice A 0 cap)) (h0 : J [] W) :
    CallsIn F n Try.prog 97 #[.func (.yield l) #[] #[], .pointer (some ⟨Bs, 0, none⟩)] W fun e W' => (∃ v, e = .returned v) ∧ J [] W' := by
  refine callsIn_of_wp Try.func97 rfl h7 ?_ hro
  simp only [Try.ntmps97, List.size_toArray, List.length_cons, List.length_nil, Nat.reduceAdd, Nat.reduceSub, Array.replicate_succ, Array.replicate_zero, List.push_toArray, List.append_toArray, List.nil_append, List.cons_append]
  gi_wp2
  gi_loopw [3] (fun i wr => i = .int .i64 (-1) ∧ J [] wr) (fun _ _ => 0)
  case atStart => exact ⟨rfl, h0⟩
  case round =>
    obtain ⟨rfl, hJs⟩ := hrel
    gi_wp2
    go_end0
    exact ⟨⟨_, rfl⟩, hJs⟩
set_option maxHeartbeats 1000000 in
theorem back_any (a : Option Addr) (len cap : Nat) (w : World) : Calls Try.prog 91 #[.slice a len cap] w fun e w' => e = .returned (.func (.func 97) #[] #[.pointer (some ⟨w.heap.size, 0, none⟩)]) ∧ w' = w.alloc (.cells #[.slice a len cap] 22) := by
  go_enter Try.func91, Try.ntmps91
  go_wp2_with fail
  go_ret
  exact ⟨rfl, rfl⟩
/-- the function that Backward gives goes from the last to the first -/
theorem back_stops (F : Fence) (n : Nat) (h7 : F.fn 97) (hro : F.round = none) (hn : 1 ≤ n) (Bs n₀ : Nat) (A : Option Addr) (cap : Nat) (zs : List Int) (w : World) (_ : n₀ ≤ w.heap.size)
    (hc : RowC w Bs 22 [.slice A zs.length cap]) (hA : ∀ b off, 0 < zs.length → A = some ⟨b, off, none⟩ → b < n₀) (hI : Sl (Value.int .i64) w A zs.length zs) :
    SeqStopsK F n Try.prog 97 #[.pointer (some ⟨Bs, 0, none⟩)] (backE zs) (KeepB n₀ Bs) (fun ys => Came zs.length zs.length ys)
      (fun pre => ∃ k, k ≤ zs.length ∧ Came zs.length k pre) zs.length w := fun l J Jx W hW _ _ hY h0 => by
  have hc' : W.cell? ⟨Bs, 0, none⟩ = some (.slice A zs.length cap) := (hc.below' hW).cell 0
  rcases Nat.eq_zero_or_pos zs.length with hz | hz
  · obtain rfl : zs = [] := List.eq_nil_of_length_eq_zero hz
    exact (back1_none F n h7 hro l Bs cap A J W hc' h0).mono fun e W' ⟨he, hj⟩ => ⟨he, .inl ⟨[], rfl, hj⟩⟩
  · obtain ⟨b, off, rfl, hb, hcs⟩ := hI.at' hz
    refine (back1_in F n h7 hro hn l Bs n₀ b off cap zs hI.big (hA b off hz rfl) J Jx hY W hc' (fun j hj => (hW.cell (p := ⟨b, off + j, none⟩) hb).trans (hcs j hj)) h0).mono ?_
    rintro e W' ⟨he, ⟨ys, hys, hj⟩ | ⟨pre, ⟨k, hk, hcm⟩, hj⟩⟩
    · exact ⟨he, .inl ⟨_, hys, hj⟩⟩
    · exact ⟨he, .inr ⟨_, ⟨k, hk, hcm⟩, hj⟩⟩
end Go.Proofs.Ytgmchedfgdgenaa
