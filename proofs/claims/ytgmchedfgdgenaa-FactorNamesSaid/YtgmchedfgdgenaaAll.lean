/- radix.All over ints: the function that it gives goes through all digits, in order. Conditions: sizes of 1 or more, not too many; within Go's bound. -/
import Derived.Test.YtgmchedfgdgenaaRadix
import Derived.Test.YtgmchedfgdgenaaRange
import Derived.Test.YtgmchedfgdgenaaCount
import Derived.Test.YtgmchedfgdgenaaSetAll
namespace Go.Proofs.Ytgmchedfgdgenaa
open Go.RowKit Go.Shelf
attribute [local go_sem] Oper.semAt_some

/-- a round of All: its number, and where its digits lie -/
structure AllX (N : Nat) where
  k : Nat
  lt : k < N
  B : Option Addr
  d : Nat
def allE (Z : List Int) {N : Nat} (x : AllX N) : Array Value := #[.int .i64 (x.k : Int), .slice x.B Z.length x.d]
def allR (Z : List Int) {N : Nat} (x : AllX N) (W : World) : Prop := Sl (Value.int .i64) W x.B Z.length (dgL Z x.k)
/-- blocks from lo to hi stay -/
def KeepR (lo hi : Nat) (W W' : World) : Prop := W.heap.size ≤ W'.heap.size ∧ ∀ b, lo ≤ b → b < hi → W'.heap[b]? = W.heap[b]?
theorem KeepR.refl (lo hi : Nat) (W : World) : KeepR lo hi W W := ⟨Nat.le_refl _, fun _ _ _ => rfl⟩
theorem keepR_t {lo hi : Nat} {A B C : World} (h : KeepR lo hi A B) (k : KeepR lo hi B C) : KeepR lo hi A C := ⟨Nat.le_trans h.1 k.1, fun b h1 h2 => (k.2 b h1 h2).trans (h.2 b h1 h2)⟩
theorem keepR_p {lo hi : Nat} (W : World) (l : Nat) (o o' : Obj) (hl : hi ≤ l) (_ : W.heap[l]? = some o) (_ : o.isCells = false) : KeepR lo hi W (W.putObj l o') :=
  ⟨by simp [World.putObj], fun b _ h2 => World.putObj_heap_other (by omega)⟩
theorem KeepR.below {lo hi B : Nat} {A C : World} (h : Below B A C) (hB : hi ≤ B) : KeepR lo hi A C := ⟨h.size, fun b _ h2 => h.block b (by omega)⟩
theorem KeepR.row {lo hi : Nat} {W W' : World} (h : KeepR lo hi W W') {g : Nat} {e : TypeId} {cs : List Value} (hr : RowC W g e cs) (h1 : lo ≤ g) (h2 : g < hi) : RowC W' g e cs := (h.2 g h1 h2).trans hr
theorem KeepR.own {α : Type} {enc : α → Value} {lo hi : Nat} {W W' : World} (h : KeepR lo hi W W') {e : TypeId} {A : Option Addr} {n c : Nat} {xs : List α} (ho : OwnR enc W lo e A n c xs) (hh : ∀ g, A = some ⟨g, 0, none⟩ → g < hi) : OwnR enc W' lo e A n c xs := by
  refine ⟨ho.1, ?_⟩
  rcases ho.2 with h2 | ⟨g, cap, cur, h1, hb, hh1, r⟩
  · exact .inl h2
  · exact .inr ⟨g, cap, cur, h1, hb, (h.2 g hb (hh g (by injection h1))).trans hh1, r⟩
/-- what All's function has captured -/
structure AllSt (W : World) (lo hi pn po N : Nat) (A : Option Addr) (c : Nat) (Z : List Int) : Prop where
  n : RowC W pn 3 [.int .i64 (N : Int)]
  o : RowC W po 22 [.slice A Z.length c]
  own : OwnR (Value.int .i64) W lo 3 A Z.length c Z
  n1 : lo ≤ pn
  n2 : pn < hi
  o1 : lo ≤ po
  o2 : po < hi
  a2 : ∀ g, A = some ⟨g, 0, none⟩ → g < hi
theorem AllSt.keep {W W' : World} {lo hi pn po N c : Nat} {A : Option Addr} {Z : List Int} (h : AllSt W lo hi pn po N A c Z) (k : KeepR lo hi W W') : AllSt W' lo hi pn po N A c Z :=
  ⟨k.row h.n h.n1 h.n2, k.row h.o h.o1 h.o2, k.own h.own h.a2, h.n1, h.n2, h.o1, h.o2, h.a2⟩
def AllPost (Z : List Int) (N : Nat) (w : World) (e : Ending) (w' : World) : Prop :=
  ∃ pn po A c, e = .returned (.func (.func 68) #[] #[.pointer (some ⟨pn, 0, none⟩), .pointer (some ⟨po, 0, none⟩)]) ∧ AllSt w' w.heap.size w'.heap.size pn po N A c Z ∧ Below w.heap.size w w'
set_option maxRecDepth 100000 in
set_option maxHeartbeats 800000 in
theorem all_any (A : Option Addr) (n c N : Nat) (Z : List Int) (w : World) (h : Sl (Value.int .i64) w A n Z) (hb : n * 8 ≤ 140737488351232) (hc : cntC Z = ((N : Int), 0)) :
    Calls Try.prog 41 #[.slice A n c] w (AllPost Z N w) := by
  obtain rfl : Z.length = n := h.len
  have hb2 : Z.length * 8 ≤ 140737488355328 := by omega
  have HC := Lib.hid hc
  have hbig := h.big
  clear hc
  go_enter Try.func41, Try.ntmps41
  go_wp2_with fail
  refine (SoI.clone_any A Z.length c Z _ h hb2).mono ?_
  rintro e w1 ⟨A1, c1, rfl, ho1, hb1⟩
  have ho2 := ho1.alloc (.cells #[.slice A1 Z.length c1] 22)
  have hr2 := RowC.new w1 22 [.slice A1 Z.length c1]
  have hb2 := hb1.alloc hb1.size (.cells #[.slice A1 Z.length c1] 22)
  have g0 := hr2.cell 0
  have H := Lib.hid (And.intro ho2 (And.intro hr2 (And.intro hb2 hb1.size)))
  clear ho1 hb1 ho2 hr2 hb2
  go_wp2_with fail
  refine (count_any A1 Z.length c1 Z _ (H.out.1.sl hbig)).mono ?_
  rintro e w2 ⟨rfl, hw2⟩
  subst hw2
  rw [HC.out]
  clear g0
  go_wp2_with fail
  go_ret
  refine ⟨w1.heap.size + 1, w1.heap.size, A1, c1, rfl, ⟨?_, H.out.2.1.alloc _, H.out.1.alloc _, by have := H.out.2.2.2; omega, by simp, H.out.2.2.2, by simp; omega, fun g e => ?_⟩, ?_⟩
  · have := RowC.new (w1.alloc (.cells #[.slice A1 Z.length c1] 22)) 3 [.int .i64 (N : Int)]
    rw [World.size_alloc] at this
    exact this
  · rcases (H.out.1.alloc (.cells #[.int .i64 (N : Int)] 3)).at_row with h1 | ⟨g', h1, _, h2⟩
    · rw [e] at h1; cases h1
    · rw [e] at h1; injection h1 with h1; injection h1 with h1; omega
  · exact H.out.2.2.1.alloc H.out.2.2.1.size _
set_option maxRecDepth 100000 in
set_option maxHeartbeats 2000000 in
theorem all_seq (w : World) (lo pn po N c : Nat) (A : Option Addr) (Z : List Int) (hs : AllSt w lo w.heap.size pn po N A c Z) (hz : ∀ z, z ∈ Z → 1 ≤ z) (hN : N ≤ 2147483647) (hb : Z.length * 8 ≤ 140737488351232) :
    SeqR (α := AllX N) Try.prog 68 #[.pointer (some ⟨pn, 0, none⟩), .pointer (some ⟨po, 0, none⟩)] (allE Z) (allR Z) (KeepR lo w.heap.size) (fun xs => xs.map AllX.k = List.range N) N w := by
  intro l J W hW hJ hY h0
  have hs := hs.keep (KeepR.below hW (Nat.le_refl _))
  have hwW := hW.size
  refine callsIn_of_wp Try.func68 rfl trivial ?_ rfl
  simp only [Try.ntmps68, List.size_toArray, List.length_cons, List.length_nil, Nat.reduceAdd, Nat.reduceSub, Array.replicate_succ, Array.replicate_zero, List.push_toArray, List.append_toArray, List.nil_append, List.cons_append]
  have g0 := hs.n.cell 0
  gi_wp2
  gi_loopw [6] (fun i wr => ∃ (k : Nat) (pre : List (AllX N)), k ≤ N ∧ i = .int .i64 (k : Int) ∧ pre.map AllX.k = List.range k ∧ J pre wr ∧ KeepR lo w.heap.size W wr) (fun i _ => N - (intOf i).toNat)
  case atStart => exact ⟨0, [], Nat.zero_le _, rfl, rfl, h0, KeepR.refl _ _ _⟩
  case round =>
    obtain ⟨k, pre, hk, rfl, hpre, hJs, hkp⟩ := hrel
    by_cases hlt : k < N
    · have hs1 := hs.keep hkp
      have u0 := hs1.o.cell 0
      have hsz := hkp.1
      have HS := Lib.hid (And.intro hJs (And.intro hkp hs1))
      clear hJs hkp hs1
      gi_wp2
      refine ⟨trivial, rfl, ?_⟩
      refine (callsIn_wide.2 (dig_any A Z.length c Z k _ (HS.out.2.2.own.sl (by omega)) hb (by omega) hz)).mono ?_
      rintro e w3 ⟨B, d, rfl, hB, hb3⟩
      have hpl : pre.length = k := by have := congrArg List.length hpre; simpa using this
      obtain ⟨fn, tmps, assign, body, hy, hR⟩ := hY pre ⟨k, hlt, B, d⟩ w3 (hJ _ _ _ HS.out.1 hb3) (hB.sl (by omega)) (by rw [hpl]; exact hlt)
      dsimp only [allE] at hy
      have HK := Lib.hid (keepR_t HS.out.2.1 (KeepR.below hb3 (by omega)))
      clear hb3 hB u0
      gi_wp2
      refine ⟨rfl, ?_⟩
      refine hR.mono ?_
      rintro e w4 ⟨rfl, hJ4, hk4⟩
      have HQ := Lib.hid (And.intro hJ4 (keepR_t HK.out hk4))
      clear hJ4 hk4
      gi_wp2
      go_roundw
      case rel => exact ⟨k + 1, pre ++ [⟨k, hlt, B, d⟩], by omega, by simp, by rw [List.map_append, hpre, List.range_succ]; rfl, HQ.out.1, HQ.out.2⟩
      case measure => simp [intOf]; omega
    · obtain rfl : N = k := by omega
      gi_wp2
      go_end0
      exact ⟨⟨_, rfl⟩, pre, hpre, hJs⟩
end Go.Proofs.Ytgmchedfgdgenaa
