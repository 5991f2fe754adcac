/- A map with integer elements, read as a function of its keys: look-ups and stores at the operation. No condition. -/
import Derived.Test.YtaibdlnolpbpiaaHeld
import Derived.Maps.Own
import Derived.Maps.OwnOps
import Derived.Maps.OwnSet
import Derived.Maps.Views
namespace Go.Proofs.Ytaibdlnolpbpiaa
open Go.RowKit Go.Maps

theorem run_makeMap_some {P : Program} {t k e : TypeId} (ht : P.underlying t = some (.map k e)) (n : Int) (w : World) : (Instr.makeMap t (some (.int .i64 n))).run P w = .ok (.map (some w.heap.size)) (w.alloc (.map #[] 0)) := by
  simp [Instr.makeMap, run_underlying ht, asInt]
  rfl
/-- block b is a map with integer elements that reads as f: at each key nothing, or its number; at most n entries -/
def MapF (P : Program) (k e : TypeId) (w : World) (b n : Nat) (f : Lit → Option Int) : Prop :=
  ∃ D : DataW Unit, w.ownsMap P k (plainElem P e) b n D ∧ ∀ kl, Maps.has D kl = (f kl).isSome ∧ D.atKey kl (.lit (.int .i64 0)) = .lit (.int .i64 ((f kl).getD 0))
open Classical in
/-- what a map reads as behind a store -/
noncomputable def putF (f : Lit → Option Int) (kl : Lit) (v : Int) : Lit → Option Int := fun x => if x = kl then some v else f x

section
variable {P : Program} {k e : TypeId} {w w' : World} {b n : Nat} {f : Lit → Option Int}
theorem MapF.made (w : World) (P : Program) (k e : TypeId) : MapF P k e (w.alloc (.map #[] 0)) w.heap.size 0 (fun _ => none) := ⟨.map [], World.ownsMap_made _ _ _ _, fun _ => ⟨rfl, rfl⟩⟩
theorem MapF.lt (h : MapF P k e w b n f) : b < w.heap.size := by obtain ⟨D, h, _⟩ := h; exact h.lt
theorem MapF.mono (h : MapF P k e w b n f) {m : Nat} (hn : n ≤ m) : MapF P k e w b m f := by obtain ⟨D, h, q⟩ := h; exact ⟨D, h.mono hn, q⟩
theorem MapF.grown {row : Option Nat} (h : MapF P k e w b n f) (hg : w.grownBy w' row) (hne : some b ≠ row) : MapF P k e w' b n f := by obtain ⟨D, h, q⟩ := h; exact ⟨D, h.kept hg hne, q⟩
theorem MapF.below (h : MapF P k e w b n f) (hb : Below w.heap.size w w') : MapF P k e w' b n f := h.grown (below_grown hb none) (by simp)
theorem MapF.alloc (h : MapF P k e w b n f) (o : Obj) : MapF P k e (w.alloc o) b n f := h.grown (World.grownBy_alloc w o none) (by simp)
theorem MapF.drewN (h : MapF P k e w b n f) (m : Nat) : MapF P k e (w.drewN m) b n f := h
theorem MapF.setCell (h : MapF P k e w b n f) {a : Addr} (ha : b ≠ a.block) (u : Value) : MapF P k e (w.setCell a u) b n f := by obtain ⟨D, h, q⟩ := h; exact ⟨D, h.setCell ha u, q⟩
instance : Stable (fun w => MapF P k e w b n f) := ⟨fun hb h => h.below hb⟩
theorem MapF.congr (h : MapF P k e w b n f) {g : Lit → Option Int} (hg : ∀ x, f x = g x) : MapF P k e w b n g := by
  obtain ⟨D, h, q⟩ := h; exact ⟨D, h, fun kl => by rw [← hg]; exact q kl⟩
end

section
variable {P : Program} (w : World) {ops : Array Oper} {rest : List Oper} {o : Oper} {a : Act} {Q : Exit → Act → World → Prop}
theorem wpList_look_F (hg : o.guard = none) (m x : Operand) (t : TypeId) (hop : o.op = Op.lookup t m x false)
    (k e : TypeId) (K : Keyed P k) (ht : P.underlying t = some (.map k e)) (he : P.underlying e = some (.int .i64)) (hz : (zeroValue e).run P w = .ok (.int .i64 0) w) (b n : Nat) (f : Lit → Option Int)
    (hm : a.eval m = .map (some b)) (hown : MapF P k e w b n f) (key : Value) (kl : Lit) (hx : a.eval x = key) (hkey : keyOf P k key = some kl)
    (hK : wpList P ops Q rest (a.put o.dst (.int .i64 ((f kl).getD 0))) w) : wpList P ops Q (o :: rest) a w := by
  obtain ⟨D, hD, q⟩ := hown
  refine wpList_lookup_own_int w hg m x t hop k e .i64 K ht he hz b n D hm hD key kl hx hkey fun c hat _ => ?_
  rw [(q kl).2] at hat
  injection hat with h1; injection h1 with _ h2
  rw [← h2]; exact hK
theorem wpList_look_ok_F (hg : o.guard = none) (m x : Operand) (t : TypeId) (hop : o.op = Op.lookup t m x true)
    (k e : TypeId) (K : Keyed P k) (ht : P.underlying t = some (.map k e)) (he : P.underlying e = some (.int .i64)) (hz : (zeroValue e).run P w = .ok (.int .i64 0) w) (b n : Nat) (f : Lit → Option Int)
    (hm : a.eval m = .map (some b)) (hown : MapF P k e w b n f) (key : Value) (kl : Lit) (hx : a.eval x = key) (hkey : keyOf P k key = some kl)
    (hK : wpList P ops Q rest (a.put o.dst (.tuple #[.int .i64 ((f kl).getD 0), .bool (f kl).isSome])) w) : wpList P ops Q (o :: rest) a w := by
  obtain ⟨D, hD, q⟩ := hown
  refine wpList_lookup_own_ok_int w hg m x t hop k e .i64 K ht he hz b n D hm hD key kl hx hkey fun c hat _ => ?_
  rw [(q kl).2] at hat
  injection hat with h1; injection h1 with _ h2
  rw [(q kl).1, ← h2]; exact hK
theorem wpList_store_F (hg : o.guard = none) (m x v : Operand) (t : TypeId) (hop : o.op = Op.mapUpdate t m x v)
    (k e : TypeId) (K : Keyed P k) (ht : P.underlying t = some (.map k e)) (he : P.underlying e = some (.int .i64)) (b n : Nat) (f : Lit → Option Int)
    (hm : a.eval m = .map (some b)) (hown : MapF P k e w b n f) (hn : n < maxLen) (key : Value) (kl : Lit) (hx : a.eval x = key) (c : Int) (hv : a.eval v = .int .i64 c) (hkey : keyOf P k key = some kl) (hwf : (Lit.int .i64 c).wf = true)
    (hK : ∀ w', MapF P k e w' b (n + 1) (putF f kl c) → w.grownBy w' (some b) → wpList P ops Q rest (a.put o.dst undef) w') : wpList P ops Q (o :: rest) a w := by
  obtain ⟨D, hD, q⟩ := hown
  refine wpList_mapUpdate_own w hg m x v t hop k e K ht (plainElem P e) b n D hm hD hn key _ kl hx hv hkey _ [] (plainElem_int he hwf) fun w' h1 h2 => hK w' ⟨_, h1, fun y => ?_⟩ h2
  unfold putF
  by_cases hy : y = kl
  · subst hy
    rw [if_pos rfl, has_put_same hD.isMap (K.key hkey), atKey_put_same hD.isMap (K.key hkey)]
    exact ⟨rfl, rfl⟩
  · rw [if_neg hy, has_put_other hy, atKey_put_other hy]
    exact q y
end

/-- keys that are ints -/
def liftI (g : Int → Option Int) : Lit → Option Int
  | .int .i64 x => g x
  | _ => none
def putI (g : Int → Option Int) (x v : Int) : Int → Option Int := fun y => if y = x then some v else g y
theorem putF_lift (g : Int → Option Int) (x v : Int) (y : Lit) : putF (liftI g) (.int .i64 x) v y = liftI (putI g x v) y := by
  unfold putF
  by_cases h : y = .int .i64 x
  · subst h; rw [if_pos rfl]; show some v = putI g x v x; unfold putI; rw [if_pos rfl]
  · rw [if_neg h]
    unfold liftI
    split
    · rename_i z
      unfold putI
      rw [if_neg (fun e => h (by rw [e]))]
    · rfl
/-- block b is a map from ints to ints that reads as g -/
def MapI (P : Program) (k e : TypeId) (w : World) (b n : Nat) (g : Int → Option Int) : Prop := MapF P k e w b n (liftI g)
section
variable {P : Program} {k e : TypeId} {w w' : World} {b n : Nat} {g : Int → Option Int}
theorem MapI.made (w : World) (P : Program) (k e : TypeId) : MapI P k e (w.alloc (.map #[] 0)) w.heap.size 0 (fun _ => none) := (MapF.made w P k e).congr fun x => by unfold liftI; split <;> rfl
theorem MapI.lt (h : MapI P k e w b n g) : b < w.heap.size := MapF.lt h
theorem MapI.mono (h : MapI P k e w b n g) {m : Nat} (hn : n ≤ m) : MapI P k e w b m g := MapF.mono h hn
theorem MapI.grown {row : Option Nat} (h : MapI P k e w b n g) (hg : w.grownBy w' row) (hne : some b ≠ row) : MapI P k e w' b n g := MapF.grown h hg hne
theorem MapI.below (h : MapI P k e w b n g) (hb : Below w.heap.size w w') : MapI P k e w' b n g := MapF.below h hb
theorem MapI.alloc (h : MapI P k e w b n g) (o : Obj) : MapI P k e (w.alloc o) b n g := MapF.alloc h o
theorem MapI.drewN (h : MapI P k e w b n g) (m : Nat) : MapI P k e (w.drewN m) b n g := h
theorem MapI.setCell (h : MapI P k e w b n g) {a : Addr} (ha : b ≠ a.block) (u : Value) : MapI P k e (w.setCell a u) b n g := MapF.setCell h ha u
theorem MapI.congr (h : MapI P k e w b n g) {f : Int → Option Int} (hg : ∀ x, g x = f x) : MapI P k e w b n f := MapF.congr h fun x => by unfold liftI; split <;> simp [hg]
instance : Stable (fun w => MapI P k e w b n g) := ⟨fun hb h => MapI.below h hb⟩
end
section
variable {P : Program} (w : World) {ops : Array Oper} {rest : List Oper} {o : Oper} {a : Act} {Q : Exit → Act → World → Prop}
theorem wpList_look_I (hg : o.guard = none) (m x : Operand) (t : TypeId) (hop : o.op = Op.lookup t m x false)
    (k e : TypeId) (hk : P.underlying k = some (.int .i64)) (ht : P.underlying t = some (.map k e)) (he : P.underlying e = some (.int .i64)) (hz : (zeroValue e).run P w = .ok (.int .i64 0) w) (b n : Nat) (g : Int → Option Int)
    (hm : a.eval m = .map (some b)) (hown : MapI P k e w b n g) (key : Int) (hx : a.eval x = .int .i64 key) (hwf : (Lit.int .i64 key).wf = true)
    (hK : wpList P ops Q rest (a.put o.dst (.int .i64 ((g key).getD 0))) w) : wpList P ops Q (o :: rest) a w :=
  wpList_look_F w hg m x t hop k e (int_keyed hk) ht he hz b n _ hm hown _ (.int .i64 key) hx (keyOf_int_mk hk hwf) hK
theorem wpList_look_ok_I (hg : o.guard = none) (m x : Operand) (t : TypeId) (hop : o.op = Op.lookup t m x true)
    (k e : TypeId) (hk : P.underlying k = some (.int .i64)) (ht : P.underlying t = some (.map k e)) (he : P.underlying e = some (.int .i64)) (hz : (zeroValue e).run P w = .ok (.int .i64 0) w) (b n : Nat) (g : Int → Option Int)
    (hm : a.eval m = .map (some b)) (hown : MapI P k e w b n g) (key : Int) (hx : a.eval x = .int .i64 key) (hwf : (Lit.int .i64 key).wf = true)
    (hK : wpList P ops Q rest (a.put o.dst (.tuple #[.int .i64 ((g key).getD 0), .bool (g key).isSome])) w) : wpList P ops Q (o :: rest) a w :=
  wpList_look_ok_F w hg m x t hop k e (int_keyed hk) ht he hz b n _ hm hown _ (.int .i64 key) hx (keyOf_int_mk hk hwf) hK
theorem wpList_store_I (hg : o.guard = none) (m x v : Operand) (t : TypeId) (hop : o.op = Op.mapUpdate t m x v)
    (k e : TypeId) (hk : P.underlying k = some (.int .i64)) (ht : P.underlying t = some (.map k e)) (he : P.underlying e = some (.int .i64)) (b n : Nat) (g : Int → Option Int)
    (hm : a.eval m = .map (some b)) (hown : MapI P k e w b n g) (hn : n < maxLen) (key : Int) (hx : a.eval x = .int .i64 key) (hwf : (Lit.int .i64 key).wf = true) (c : Int) (hv : a.eval v = .int .i64 c) (hwc : (Lit.int .i64 c).wf = true)
    (hK : ∀ w', MapI P k e w' b (n + 1) (putI g key c) → w.grownBy w' (some b) → wpList P ops Q rest (a.put o.dst undef) w') : wpList P ops Q (o :: rest) a w :=
  wpList_store_F w hg m x v t hop k e (int_keyed hk) ht he b n _ hm hown hn _ (.int .i64 key) hx c hv (keyOf_int_mk hk hwf) hwc fun w' h1 h2 => hK w' (h1.congr (putF_lift g key c)) h2
end
end Go.Proofs.Ytaibdlnolpbpiaa
