/- A map of the call's own from states to lists of states, each in a row of its own. Condition: lengths within Go's bound. -/
import Derived.Test.YtdlnglffimcopaaFlowAll
import Derived.WideKeyEntry
namespace Go.Proofs.Ytdlnglffimcopaa
open Go.RowKit Go.Maps

/-- a slice's header -/
abbrev Hd := Option Addr × Nat × Nat
abbrev hd0 : Hd := (none, 0, 0)
abbrev hdV (h : Hd) : Value := .slice h.1 h.2.1 h.2.2
def hdElem : Value → Option (DataW Hd × List MemPlace)
  | .slice A n c => some (.held (A, n, c), [])
  | _ => none
theorem hdElem_inv {v : Value} {z : DataW Hd × List MemPlace} (h : hdElem v = some z) : ∃ x : Hd, v = hdV x ∧ z = (.held x, []) := by
  cases v
  case slice A n c => exact ⟨(A, n, c), rfl, by simpa [hdElem] using h.symm⟩
  all_goals cases h
/-- block b is a map from states to slices: at s the slice g s -/
def MapH (w : World) (b n : Nat) (g : St → Hd) : Prop := ∃ D : DataW Hd, w.ownsMap Try.prog 66 hdElem b n D ∧ ∀ s, okS s → D.atKey (kS s) (.held hd0) = .held (g s)
section
variable {w w' : World} {b n : Nat} {g : St → Hd}
theorem MapH.made (w : World) : MapH (w.alloc (.map #[] 0)) w.heap.size 0 (fun _ => hd0) := ⟨.map [], World.ownsMap_made _ _ _ _, fun _ _ => rfl⟩
theorem MapH.lt (h : MapH w b n g) : b < w.heap.size := by obtain ⟨D, h, _⟩ := h; exact h.lt
theorem MapH.mono (h : MapH w b n g) {m : Nat} (hn : n ≤ m) : MapH w b m g := by obtain ⟨D, h, q⟩ := h; exact ⟨D, h.mono hn, q⟩
theorem MapH.grown {row : Option Nat} (h : MapH w b n g) (hg : w.grownBy w' row) (hne : some b ≠ row) : MapH w' b n g := by obtain ⟨D, h, q⟩ := h; exact ⟨D, h.kept hg hne, q⟩
theorem MapH.below (h : MapH w b n g) (hb : Below w.heap.size w w') : MapH w' b n g := h.grown (below_grown hb none) (by simp)
theorem MapH.alloc (h : MapH w b n g) (o : Obj) : MapH (w.alloc o) b n g := h.grown (World.grownBy_alloc w o none) (by simp)
theorem MapH.turn {T : Nat → Prop} (h : MapH w b n g) (ht : Turn w w' T) (hT : ¬ T b) : MapH w' b n g := by
  have hlt := h.lt
  obtain ⟨D, ⟨es, clock, hb, F⟩, q⟩ := h
  exact ⟨D, ⟨es, clock, (ht.block b hlt hT).trans hb, F⟩, q⟩
theorem MapH.congr (h : MapH w b n g) {f : St → Hd} (hg : ∀ x, g x = f x) : MapH w b n f := by
  have : g = f := funext hg
  rw [← this]; exact h
end
open Classical in
noncomputable def putH (g : St → Hd) (s : St) (v : Hd) : St → Hd := fun t => if t = s then v else g t
section
variable (w : World) {ops : Array Oper} {rest : List Oper} {o : Oper} {a : Act} {Q : Exit → Act → World → Prop}
theorem zeroH (w : World) : (zeroValue 86).run Try.prog w = .ok (.slice none 0 0) w := by kernel_rfl
theorem wpList_look_H (hg : o.guard = none) (m x : Operand) (hop : o.op = Op.lookup 92 m x false) (b n : Nat) (g : St → Hd)
    (hm : a.eval m = .map (some b)) (hown : MapH w b n g) (s : St) (hx : a.eval x = sV s) (hok : okS s) {A : Option Addr} {m c : Nat} (hgs : g s = (A, m, c))
    (hK : wpList Try.prog ops Q rest (a.put o.dst (.slice A m c)) w) : wpList Try.prog ops Q (o :: rest) a w := by
  refine wpList_plain hg fun K' hK' => ?_
  obtain ⟨D, hD, q⟩ := hown
  obtain ⟨v, ps, hrun, hv⟩ := hD.lookup law66 Try.underlying92 (zeroH w) (z := .slice none 0 0) (zd := .held hd0) (zp := []) rfl (keyOf_sV hok)
  rw [q s hok] at hv
  obtain ⟨y, rfl, hy⟩ := hdElem_inv hv
  injection hy with hy _
  injection hy with hy
  subst hy
  unfold Oper.wp
  rw [hgs] at hrun
  simp [execOp, hop, hm, hx, hrun, Result.andThen]
  exact hK' _ _ hK
theorem wpList_store_H (hg : o.guard = none) (m x v : Operand) (hop : o.op = Op.mapUpdate 92 m x v) (b n : Nat) (g : St → Hd)
    (hm : a.eval m = .map (some b)) (hown : MapH w b n g) (hn : n < maxLen) (s : St) (hx : a.eval x = sV s) (hok : okS s) (c : Hd) (hv : a.eval v = hdV c)
    (hK : ∀ w', MapH w' b (n + 1) (putH g s c) → w.grownBy w' (some b) → wpList Try.prog ops Q rest (a.put o.dst undef) w') : wpList Try.prog ops Q (o :: rest) a w := by
  obtain ⟨D, hD, q⟩ := hown
  refine wpList_mapUpdate_own w hg m x v 92 hop 66 86 law66 Try.underlying92 hdElem b n D hm hD hn _ _ (kS s) hx hv (keyOf_sV hok) (.held c) [] rfl fun w' h1 h2 => hK w' ⟨_, h1, fun t ht => ?_⟩ h2
  unfold putH
  by_cases hy : t = s
  · subst hy
    rw [if_pos rfl, atKey_put_same hD.isMap (law66.key (keyOf_sV hok))]
  · rw [if_neg hy, atKey_put_other (fun e => hy (kS_inj ht hok e))]
    exact q t ht
end
theorem two_keys {l : List MapEntry} (h : l.Pairwise (fun x y => x.key ≠ y.key)) {x y : MapEntry} (hx : x ∈ l) (hy : y ∈ l) (e : x.key = y.key) : x = y := by
  induction l with
  | nil => cases hx
  | cons a r ih =>
    have h' := List.pairwise_cons.1 h
    rcases List.mem_cons.1 hx with e1 | hx2
    · rcases List.mem_cons.1 hy with e2 | hy2
      · rw [e1, e2]
      · rw [e1] at e; exact absurd e (h'.1 y hy2)
    · rcases List.mem_cons.1 hy with e2 | hy2
      · rw [e2] at e; exact absurd e.symm (h'.1 x hx2)
      · exact ih h'.2 hx2 hy2
set_option maxRecDepth 1000000 in
theorem klaw : WideMaps.KeyLaw Try.prog 66 := deep_law_laid laidAll (m := 2) (by omega) (of_decide_eq_true (by kernel_rfl)) (by kernel_rfl) wideState
/-- what the store behind a look-up for 'm[k] = append(m[k], ..)' leaves -/
def EntS (w1 : World) (b n : Nat) (g : St → Hd) (s : St) (st : Int) : Prop := ∀ w2 c, w2.heap[b]? = w1.heap[b]? →
  ∃ w3, (Instr.entryStore 92 (.map (some b)) (goInt st) (hdV c)).run Try.prog w2 = .ok () w3 ∧ w2.grownBy w3 (some b) ∧ MapH w3 b (n + 1) (putH g s c)
theorem MapH.entry {w : World} {b n : Nat} {g : St → Hd} (h : MapH w b n g) (hn : n < maxLen) {s : St} (hok : okS s) :
    ∃ (st : Int) (w1 : World), (Instr.mapEntry 92 (.map (some b)) (sV s)).run Try.prog w = .ok (.tuple #[hdV (g s), goInt st]) w1 ∧ w.grownBy w1 (some b) ∧ EntS w1 b n g s st := by
  obtain ⟨D, ⟨es, clock, hb, F, hs, hD⟩, q⟩ := h
  obtain ⟨v0, st, es1, clock1, hrun, hv0, hback⟩ := WideElems.entry_then_store klaw Try.underlying92 (z := .slice none 0 0) zeroH hb F (keyOf_sV hok)
  have hv : v0 = hdV (g s) := by
    have hq := q s hok
    rw [hD] at hq
    rcases Maps.fit_look false law66 Try.underlying92 (zeroH w) hb F (keyOf_sV hok) with ⟨_, hno, hat⟩ | ⟨e0, y, hm0, hk0, _, hR, hat, _⟩
    · rcases hv0 with ⟨e1, hm1, hk1, _⟩ | ⟨_, rfl⟩
      · exact absurd hk1 (hno e1 hm1)
      · rw [hat] at hq; rw [← DataW.held.inj hq]
    · rcases hv0 with ⟨e1, hm1, hk1, rfl⟩ | ⟨hno, _⟩
      · have he := two_keys ((MapKept.stamped_iff es clock).1 F.stamped).2.2 hm1 hm0 (hk1.trans hk0.symm)
        subst he
        rw [hat] at hq
        obtain ⟨x, hx1, hx2⟩ := hdElem_inv hR
        rw [hx2] at hq
        rw [hx1, DataW.held.inj hq]
      · exact absurd hk0 (hno e0 hm0)
  subst hv
  refine ⟨st, ChangeMaps.setBlock w b (.map es1 clock1), hrun, ⟨rfl, rfl, rfl, by simp [ChangeMaps.setBlock], fun i _ hi => ChangeMaps.heap_setBlock_other hb _ (fun e => hi (by rw [e]))⟩, fun w2 c hw2 => ?_⟩
  rw [ChangeMaps.heap_setBlock_same hb] at hw2
  obtain ⟨es', clock', hst, hup⟩ := hback w2 (hdV c) hw2
  have hown : w.ownsMap Try.prog 66 hdElem b n D := ⟨es, clock, hb, F, hs, hD⟩
  obtain ⟨w', hup', hown', _⟩ := hown.update law66 Try.underlying92 hn (keyOf_sV hok) (val := hdV c) (d := .held c) (ps := []) rfl
  rw [hup] at hup'
  injection hup' with _ hw'
  subst hw'
  obtain ⟨es2, clock2, hb2, F2, hs2, hD2⟩ := hown'
  rw [ChangeMaps.heap_setBlock_same hb] at hb2
  refine ⟨ChangeMaps.setBlock w2 b (.map es' clock'), hst, ⟨rfl, rfl, rfl, by simp [ChangeMaps.setBlock], fun i _ hi => ChangeMaps.heap_setBlock_other hw2 _ (fun e => hi (by rw [e]))⟩, D.put (kS s) (.held c), ⟨es2, clock2, (ChangeMaps.heap_setBlock_same hw2 _).trans hb2, F2, hs2, hD2⟩, fun t ht => ?_⟩
  unfold putH
  by_cases hy : t = s
  · subst hy
    rw [if_pos rfl, atKey_put_same hown.isMap (law66.key (keyOf_sV hok))]
  · rw [if_neg hy, atKey_put_other (fun e => hy (kS_inj ht hok e))]
    exact q t ht
section
variable (w : World) {ops : Array Oper} {rest : List Oper} {o : Oper} {a : Act} {Q : Exit → Act → World → Prop}
theorem wpList_entry_H (hg : o.guard = none) (m x : Operand) (hop : o.op = Op.mapEntry 92 m x) (b n : Nat) (g : St → Hd)
    (hm : a.eval m = .map (some b)) (hown : MapH w b n g) (hn : n < maxLen) (s : St) (hx : a.eval x = sV s) (hok : okS s)
    (hK : ∀ st w1, w.grownBy w1 (some b) → EntS w1 b n g s st → wpList Try.prog ops Q rest (a.put o.dst (.tuple #[hdV (g s), goInt st])) w1) : wpList Try.prog ops Q (o :: rest) a w := by
  refine wpList_plain hg fun K' hK' => ?_
  obtain ⟨st, w1, hrun, h1, h2⟩ := hown.entry hn hok
  unfold Oper.wp
  simp [execOp, hop, hm, hx, hrun, Result.andThen]
  exact hK' _ _ (hK st w1 h1 h2)
theorem wpList_entryStore_H (hg : o.guard = none) (m z v : Operand) (hop : o.op = Op.entryStore 92 m z v) {w1 : World} {b n : Nat} {g : St → Hd} {s : St} {st : Int} (hs : EntS w1 b n g s st)
    (hm : a.eval m = .map (some b)) (hz : a.eval z = goInt st) (c : Hd) (hv : a.eval v = hdV c) (hb : w.heap[b]? = w1.heap[b]?)
    (hK : ∀ w3, w.grownBy w3 (some b) → MapH w3 b (n + 1) (putH g s c) → wpList Try.prog ops Q rest (a.put o.dst undef) w3) : wpList Try.prog ops Q (o :: rest) a w := by
  refine wpList_plain hg fun K' hK' => ?_
  obtain ⟨w3, hrun, h1, h2⟩ := hs w c hb
  unfold Oper.wp
  simp [execOp, hop, hm, hz, hv, hrun, Result.andThen]
  exact hK' _ _ (hK w3 h1 h2)
end
/-- a map from states to lists of states, each in a row of its own; the blocks kx lie elsewhere -/
structure Back (n : Nat) (kx : Nat → Prop) (mb cnt : Nat) (hd : St → Hd) (lst : St → List St) (w : World) : Prop where
  map : MapH w mb cnt hd
  own : ∀ s, s.1 < n → OwnQ w (mb + 1) 66 2 (hd s).1 (hd s).2.1 (hd s).2.2 (cellsS (lst s))
  far : ∀ s t, s.1 < n → t.1 < n → s ≠ t → ∀ b o1, (hd s).1 = some ⟨b, o1, none⟩ → ∀ o2, (hd t).1 ≠ some ⟨b, o2, none⟩
  kx : ∀ b, kx b → b < w.heap.size ∧ b ≠ mb ∧ ∀ s off, s.1 < n → (hd s).1 ≠ some ⟨b, off, none⟩
section
variable {n mb cnt : Nat} {kx kx' : Nat → Prop} {hd : St → Hd} {lst : St → List St} {w w' w1 w2 : World} {s : St}
theorem Back.made (w : World) (n : Nat) {kx : Nat → Prop} (hk : ∀ b, kx b → b < w.heap.size) : Back n kx w.heap.size 0 (fun _ => hd0) (fun _ => []) (w.alloc (.map #[] 0)) :=
  ⟨MapH.made w, fun _ _ => OwnQ.nil _ _ _ _, fun s t _ _ _ b o1 e => (by cases e), fun b hb => ⟨by have := hk b hb; simp; omega, by have := hk b hb; omega, fun s off _ e => (by cases e)⟩⟩
theorem Back.row (h : Back n kx mb cnt hd lst w) (hs : s.1 < n) {b off : Nat} (e : (hd s).1 = some ⟨b, off, none⟩) : mb < b ∧ b < w.heap.size := by
  rcases (h.own s hs).at_row with h1 | ⟨g', off', h1, h2, h3⟩
  · rw [e] at h1; cases h1
  · rw [e] at h1; injection h1 with h1; injection h1 with h1; omega
theorem Back.step (h : Back n kx mb cnt hd lst w) (hb : Below w.heap.size w w') : Back n (fun b => kx b ∨ (w.heap.size ≤ b ∧ b < w'.heap.size)) mb cnt hd lst w' := by
  have h1 := h.map.lt
  refine ⟨h.map.below hb, fun s hs => (h.own s hs).below hb, h.far, fun b hk => ?_⟩
  rcases hk with hk | hk
  · obtain ⟨f1, f2⟩ := h.kx b hk
    exact ⟨Nat.lt_of_lt_of_le f1 hb.size, f2⟩
  · exact ⟨hk.2, by omega, fun s off hs e => by have := (h.row hs e).2; omega⟩
theorem Back.weak (h : Back n kx mb cnt hd lst w) (hk : ∀ b, kx' b → kx b) : Back n kx' mb cnt hd lst w := ⟨h.map, h.own, h.far, fun b hb => h.kx b (hk b hb)⟩
theorem Back.congr (h : Back n kx mb cnt hd lst w) {lst' : St → List St} (hl : ∀ s, s.1 < n → lst s = lst' s) : Back n kx mb cnt hd lst' w := ⟨h.map, fun s hs => by rw [← hl s hs]; exact h.own s hs, h.far, h.kx⟩
theorem Back.mono (h : Back n kx mb cnt hd lst w) {c' : Nat} (hc : cnt ≤ c') : Back n kx mb c' hd lst w := ⟨h.map.mono hc, h.own, h.far, h.kx⟩
/-- another's cells are written: they are none of this map's -/
theorem Back.turn {T : Nat → Prop} (h : Back n kx mb cnt hd lst w) (ht : Turn w w' T) (hT : ∀ b, T b → kx b) : Back n kx mb cnt hd lst w' := by
  have hm : ¬ T mb := fun h1 => (h.kx mb (hT mb h1)).2.1 rfl
  refine ⟨h.map.turn ht hm, fun s hs => (h.own s hs).turn ht fun g off e hg => (h.kx g (hT g hg)).2.2 s off hs e, h.far, fun b hb => ?_⟩
  obtain ⟨f1, f2⟩ := h.kx b hb
  exact ⟨Nat.lt_of_lt_of_le f1 ht.size, f2⟩
open Classical in
/-- behind an append onto the list at s, and the store of what comes back -/
theorem Back.app (h : Back n kx mb cnt hd lst w) (hs : s.1 < n) {A' : Option Addr} {m' c' : Nat} {l' : List St} (ho : OwnQ w1 (mb + 1) 66 2 A' m' c' (cellsS l')) (ht : Turn w w1 (fun b => b = mb ∨ ∃ off, (hd s).1 = some ⟨b, off, none⟩))
    (hd' : ∀ g off, A' = some ⟨g, off, none⟩ → (∃ off', (hd s).1 = some ⟨g, off', none⟩) ∨ w.heap.size ≤ g) (hm2 : MapH w2 mb (cnt + 1) (putH hd s (A', m', c'))) (hg2 : w1.grownBy w2 (some mb)) :
    Back n kx mb (cnt + 1) (putH hd s (A', m', c')) (fun t => if t = s then l' else lst t) w2 := by
  have hmlt := h.map.lt
  have hA : ∀ g off, A' = some ⟨g, off, none⟩ → mb < g := fun g off e => by
    rcases hd' g off e with ⟨off', h1⟩ | h1
    · exact (h.row hs h1).1
    · omega
  have hne : ∀ t, t.1 < n → t ≠ s → ∀ g off, (hd t).1 = some ⟨g, off, none⟩ → ∀ off2, A' ≠ some ⟨g, off2, none⟩ := fun t ht' hts g off e off2 e2 => by
    rcases hd' g off2 e2 with ⟨off', h1⟩ | h1
    · exact h.far t s ht' hs hts g off e off' h1
    · have := (h.row ht' e).2; omega
  refine ⟨hm2, fun t htn => ?_, fun t r htn hrn htr b o1 e o2 e2 => ?_, fun b hb => ?_⟩
  · unfold putH
    by_cases hts : t = s
    · subst hts
      rw [if_pos rfl, if_pos rfl]
      exact ho.turn (Turn.of_grown hg2) fun g off e e2 => by injection e2 with e2; have := hA g off e; omega
    · rw [if_neg hts, if_neg hts]
      refine ((h.own t htn).turn ht fun g off e hT => hT.elim (fun e2 => by have := (h.row htn e).1; omega) fun ⟨off', e'⟩ => h.far t s htn hs hts g off e off' e').turn (Turn.of_grown hg2) fun g off e e2 => ?_
      injection e2 with e2
      have := (h.row htn e).1
      omega
  · unfold putH at e e2
    by_cases hts : t = s
    · rw [if_pos hts] at e
      rw [if_neg (fun e3 => htr (hts.trans e3.symm))] at e2
      exact hne r hrn (fun e3 => htr (hts.trans e3.symm)) b o2 e2 o1 e
    · rw [if_neg hts] at e
      by_cases hrs : r = s
      · rw [if_pos hrs] at e2
        exact hne t htn hts b o1 e o2 e2
      · rw [if_neg hrs] at e2
        exact h.far t r htn hrn htr b o1 e o2 e2
  · obtain ⟨f1, f2, f3⟩ := h.kx b hb
    refine ⟨?_, f2, fun t off htn e => ?_⟩
    · have h1 := ht.size
      have h2 := hg2.size
      omega
    · unfold putH at e
      by_cases hts : t = s
      · rw [if_pos hts] at e
        rcases hd' b off e with ⟨off', h1⟩ | h1
        · exact f3 s off' hs h1
        · omega
      · rw [if_neg hts] at e
        exact f3 t off htn e
end
end Go.Proofs.Ytdlnglffimcopaa
