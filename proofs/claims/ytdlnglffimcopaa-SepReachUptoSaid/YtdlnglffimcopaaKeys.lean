/- A state as a map's key: what it reads as, and that no two read alike. Condition: the points within Go's bound. -/
import Derived.Test.YtdlnglffimcopaaMap
import Derived.Test.YtdlnglffimcopaaBall
import Derived.DeepKeys4
import Derived.DeepKeys2
namespace Go.Proofs.Ytdlnglffimcopaa
open Go.RowKit Go.Maps

/-- a state, as Go holds it -/
abbrev sV (s : St) : Value := .agg #[.int .i64 (s.1 : Int), .bool s.2]
/-- what it reads as among keys -/
def kS (s : St) : Lit := .string (keyBytes [.int .i64 (s.1 : Int), .bool s.2])
def okS (s : St) : Prop := s.1 ≤ 140737488355328
theorem wideState : (match Try.prog.underlying 66 with | some (.array _ _) | some (.struct _) => true | _ => false) = true := by kernel_rfl
set_option maxRecDepth 1000000 in
theorem laidAll : laidOutB Try.prog = true := by kernel_rfl
set_option maxRecDepth 1000000 in
theorem law66 : Keyed Try.prog 66 := Keyed.of_law (deep_law_laid laidAll (m := 2) (by omega) (of_decide_eq_true (by kernel_rfl)) (by kernel_rfl) wideState)
theorem cellsState : Try.prog.cellsOf 66 = 2 := by kernel_rfl
theorem deepState : Try.prog.keyType 66 = true := by kernel_rfl
theorem cellsI : Try.prog.cellsOf 3 = 1 := by kernel_rfl
theorem cellsB : Try.prog.cellsOf 4 = 1 := by kernel_rfl
theorem sizeTwo : ∃ d, Try.prog.types.size + 1 = d + 2 := ⟨Try.prog.types.size - 1, by have h : 0 < Try.prog.types.size := of_decide_eq_true (by kernel_rfl); omega⟩
theorem keyLits_mk (d : Nat) {x : Int} (hx : (Lit.int .i64 x).wf = true) (u : Bool) : Try.prog.keyLits (d + 2) 66 [.int .i64 x, .bool u] = some [.int .i64 x, .bool u] := by
  simp [Program.keyLits, Try.underlying66, Try.underlying3, Try.underlying4, cellsState, cellsI, cellsB, hx]
theorem keyOf_sV {s : St} (h : okS s) : keyOf Try.prog 66 (sV s) = some (kS s) := by
  have hw : (Lit.int .i64 (s.1 : Int)).wf = true := WalkArith.wf_i64 (by unfold okS at h; omega)
  obtain ⟨d, hd⟩ := sizeTwo
  unfold keyOf
  rw [Try.underlying66]
  simp only []
  rw [deepState]
  have hf : (sV s).formed Try.prog 66 = true := by simp [Value.formed, Try.underlying66, cellsState]
  rw [hf, hd]
  have hc : (sV s).cells.toList = [.int .i64 (s.1 : Int), .bool s.2] := by simp [Value.cells]
  rw [hc, keyLits_mk d hw]
  rfl
set_option maxRecDepth 1000000 in
theorem keyOf_state {v : Value} {l : Lit} (h : keyOf Try.prog 66 v = some l) : ∃ x : Int × Bool, v = .agg #[.int .i64 x.1, .bool x.2] := by
  obtain ⟨xs, L, rfl, hL, _⟩ := keyOf_top wideState h
  obtain ⟨d, hd⟩ := sizeTwo
  rw [hd] at hL
  unfold Program.keyLits at hL
  rw [Try.underlying66] at hL
  simp only [cellsState] at hL
  split at hL
  · rename_i hc
    obtain ⟨xs⟩ := xs
    rcases xs with _ | ⟨a, _ | ⟨b, _ | ⟨c, xs⟩⟩⟩
    · simp at hc
    · simp at hc
    · have hb : ∃ u, b = .bool u := by
        cases b
        case bool u => exact ⟨u, rfl⟩
        all_goals (exfalso; revert hL; simp [cellsI, cellsB, Program.keyLits, Try.underlying3, Try.underlying4])
      obtain ⟨u, rfl⟩ := hb
      cases a
      case int q x =>
        by_cases hq : q = .i64
        · subst hq; exact ⟨(x, u), rfl⟩
        · exfalso; revert hL; simp [cellsI, cellsB, Program.keyLits, Try.underlying3, Try.underlying4, hq]
      all_goals (exfalso; revert hL; simp [cellsI, cellsB, Program.keyLits, Try.underlying3, Try.underlying4])
    · simp at hc
  · cases hL
theorem kS_inj {s t : St} (hs : okS s) (ht : okS t) (h : kS s = kS t) : s = t := by
  have h1 := keyOf_sV hs
  have h2 := keyOf_sV ht
  rw [← h] at h2
  have := law66.inj h1 h2
  obtain ⟨p, u⟩ := s
  obtain ⟨q, v⟩ := t
  simp only [sV, Value.agg.injEq, Array.mk.injEq, List.cons.injEq, Value.int.injEq, Value.bool.injEq] at this
  simp at this
  obtain ⟨h1, h2⟩ := this
  exact Prod.ext (by show p = q; omega) h2
open Classical in
/-- what a map keyed by states reads as -/
noncomputable def liftS (g : St → Option Int) : Lit → Option Int := fun l => if h : ∃ s, okS s ∧ kS s = l then g (Classical.choose h) else none
open Classical in
noncomputable def putS (g : St → Option Int) (s : St) (v : Int) : St → Option Int := fun t => if t = s then some v else g t
theorem liftS_kS (g : St → Option Int) {s : St} (h : okS s) : liftS g (kS s) = g s := by
  have hx : ∃ t, okS t ∧ kS t = kS s := ⟨s, h, rfl⟩
  unfold liftS
  rw [dif_pos hx]
  obtain ⟨h1, h2⟩ := Classical.choose_spec hx
  rw [kS_inj h1 h h2]
theorem liftS_some {g : St → Option Int} {l : Lit} (h : (liftS g l).isSome = true) : ∃ s, okS s ∧ kS s = l := by
  unfold liftS at h
  split at h
  · assumption
  · cases h
theorem putF_liftS (g : St → Option Int) {s : St} (hs : okS s) (v : Int) (l : Lit) : putF (liftS g) (kS s) v l = liftS (putS g s v) l := by
  unfold putF
  by_cases h : l = kS s
  · subst h; rw [if_pos rfl, liftS_kS _ hs]; unfold putS; rw [if_pos rfl]
  · rw [if_neg h]
    by_cases hx : ∃ t, okS t ∧ kS t = l
    · obtain ⟨t, ht, rfl⟩ := hx
      rw [liftS_kS _ ht, liftS_kS _ ht]
      unfold putS
      rw [if_neg (fun e => h (by rw [e]))]
    · unfold liftS; rw [dif_neg hx, dif_neg hx]
/-- block b is a map from states to ints that reads as g -/
def MapS (k e : TypeId) (w : World) (b n : Nat) (g : St → Option Int) : Prop := MapF Try.prog k e w b n (liftS g)
section
variable {k e : TypeId} {w w' : World} {b n : Nat} {g : St → Option Int}
theorem MapS.made (w : World) (k e : TypeId) : MapS k e (w.alloc (.map #[] 0)) w.heap.size 0 (fun _ => none) := (MapF.made w Try.prog k e).congr fun x => by unfold liftS; split <;> rfl
theorem MapS.lt (h : MapS k e w b n g) : b < w.heap.size := MapF.lt h
theorem MapS.mono (h : MapS k e w b n g) {m : Nat} (hn : n ≤ m) : MapS k e w b m g := MapF.mono h hn
theorem MapS.grown {row : Option Nat} (h : MapS k e w b n g) (hg : w.grownBy w' row) (hne : some b ≠ row) : MapS k e w' b n g := MapF.grown h hg hne
theorem MapS.below (h : MapS k e w b n g) (hb : Below w.heap.size w w') : MapS k e w' b n g := MapF.below h hb
theorem MapS.alloc (h : MapS k e w b n g) (o : Obj) : MapS k e (w.alloc o) b n g := MapF.alloc h o
theorem MapS.drewN (h : MapS k e w b n g) (m : Nat) : MapS k e (w.drewN m) b n g := h
theorem MapS.setCell (h : MapS k e w b n g) {a : Addr} (ha : b ≠ a.block) (u : Value) : MapS k e (w.setCell a u) b n g := MapF.setCell h ha u
theorem MapS.congr (h : MapS k e w b n g) {f : St → Option Int} (hg : ∀ x, g x = f x) : MapS k e w b n f := MapF.congr h fun x => by unfold liftS; split <;> simp [hg]
instance : Stable (fun w => MapS k e w b n g) := ⟨fun hb h => MapS.below h hb⟩
end
section
variable (w : World) {ops : Array Oper} {rest : List Oper} {o : Oper} {a : Act} {Q : Exit → Act → World → Prop}
theorem wpList_look_S (hg : o.guard = none) (m x : Operand) (t : TypeId) (hop : o.op = Op.lookup t m x false)
    (e : TypeId) (ht : Try.prog.underlying t = some (.map 66 e)) (he : Try.prog.underlying e = some (.int .i64)) (hz : (zeroValue e).run Try.prog w = .ok (.int .i64 0) w) (b n : Nat) (g : St → Option Int)
    (hm : a.eval m = .map (some b)) (hown : MapS 66 e w b n g) (s : St) (hx : a.eval x = sV s) (hok : okS s)
    (hK : wpList Try.prog ops Q rest (a.put o.dst (.int .i64 ((g s).getD 0))) w) : wpList Try.prog ops Q (o :: rest) a w :=
  wpList_look_F w hg m x t hop 66 e law66 ht he hz b n _ hm hown _ (kS s) hx (keyOf_sV hok) (by rw [liftS_kS _ hok]; exact hK)
theorem wpList_look_ok_S (hg : o.guard = none) (m x : Operand) (t : TypeId) (hop : o.op = Op.lookup t m x true)
    (e : TypeId) (ht : Try.prog.underlying t = some (.map 66 e)) (he : Try.prog.underlying e = some (.int .i64)) (hz : (zeroValue e).run Try.prog w = .ok (.int .i64 0) w) (b n : Nat) (g : St → Option Int)
    (hm : a.eval m = .map (some b)) (hown : MapS 66 e w b n g) (s : St) (hx : a.eval x = sV s) (hok : okS s)
    (hK : wpList Try.prog ops Q rest (a.put o.dst (.tuple #[.int .i64 ((g s).getD 0), .bool (g s).isSome])) w) : wpList Try.prog ops Q (o :: rest) a w :=
  wpList_look_ok_F w hg m x t hop 66 e law66 ht he hz b n _ hm hown _ (kS s) hx (keyOf_sV hok) (by rw [liftS_kS _ hok]; exact hK)
theorem wpList_store_S (hg : o.guard = none) (m x v : Operand) (t : TypeId) (hop : o.op = Op.mapUpdate t m x v)
    (e : TypeId) (ht : Try.prog.underlying t = some (.map 66 e)) (he : Try.prog.underlying e = some (.int .i64)) (b n : Nat) (g : St → Option Int)
    (hm : a.eval m = .map (some b)) (hown : MapS 66 e w b n g) (hn : n < maxLen) (s : St) (hx : a.eval x = sV s) (hok : okS s) (c : Int) (hv : a.eval v = .int .i64 c) (hwc : (Lit.int .i64 c).wf = true)
    (hK : ∀ w', MapS 66 e w' b (n + 1) (putS g s c) → w.grownBy w' (some b) → wpList Try.prog ops Q rest (a.put o.dst undef) w') : wpList Try.prog ops Q (o :: rest) a w :=
  wpList_store_F w hg m x v t hop 66 e law66 ht he b n _ hm hown hn _ (kS s) hx c hv (keyOf_sV hok) hwc fun w' h1 h2 => hK w' (MapF.congr h1 (putF_liftS g hok c)) h2
end
end Go.Proofs.Ytdlnglffimcopaa
