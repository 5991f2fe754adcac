/- Joined by program out of: TimesMath, Range, All. What each says stands at its own head. -/
import Derived.Test.YtgmchedfgdgenaaJ5
import Derived.Test.YtgmchedfgdgenaaSetAll
import Derived.Test.YtgmchedfgdgenaaCheck
import Derived.Test.YtgmchedfgdgenaaJ4
import Derived.Test.YtgmchedfgdgenaaJ3
import Derived.Test.YtgmchedfgdgenaaJ1
import Derived.RangeFuncFrom
import Derived.RangeFuncNested
import Derived.RangeFuncLeaves
import Derived.Test.YtgmchedfgdgenaaRadix
/- A product of two tables in plain words. No condition. -/
namespace Go.Proofs.Ytgmchedfgdgenaa
open Go.RowKit

/-- the variables of both -/
def uniL (S1 S2 : List Int) : List Int := setOf cmpI (S1 ++ S2)
theorem mem_setOfI (z : Int) (xs : List Int) : z ∈ setOf cmpI xs ↔ z ∈ xs := by
  rw [mem_setOf cmpokI]
  constructor
  · rintro ⟨i, hi, he, _⟩
    exact List.mem_of_getElem? he
  · intro h
    have hex : ∃ i, i < xs.length ∧ xs[i]? = some z := by
      obtain ⟨i, hi, he⟩ := List.mem_iff_getElem.1 h
      exact ⟨i, hi, by rw [List.getElem?_eq_getElem hi, he]⟩
    have hmin : ∀ n i, i < n → i < xs.length → xs[i]? = some z → ∃ i, i < xs.length ∧ xs[i]? = some z ∧ ∀ j y, j < i → xs[j]? = some y → cmpI y z ≠ 0 := by
      intro n
      induction n with
      | zero => intro i h; omega
      | succ n ih =>
        intro i hin hi he
        by_cases hq : ∀ j y, j < i → xs[j]? = some y → cmpI y z ≠ 0
        · exact ⟨i, hi, he, hq⟩
        · obtain ⟨j, hj⟩ := Classical.not_forall.1 hq
          obtain ⟨y, hy⟩ := Classical.not_forall.1 hj
          have h1 : j < i := Classical.byContradiction fun h => hy fun h' => absurd h' h
          have h2 : xs[j]? = some y := Classical.byContradiction fun h => hy fun _ h' => absurd h' h
          have h3 : cmpI y z = 0 := Classical.byContradiction fun h => hy fun _ _ => h
          rw [cmpI_zero] at h3
          subst h3
          exact ih j (by omega) (by omega) h2
    obtain ⟨i, hi, he⟩ := hex
    exact hmin (i + 1) i (Nat.lt_succ_self i) hi he
theorem asc_uni (S1 S2 : List Int) : Asc cmpI (uniL S1 S2) := asc_setOf cmpokI _
theorem mem_uni {S1 S2 : List Int} {z : Int} : z ∈ uniL S1 S2 ↔ z ∈ S1 ∨ z ∈ S2 := by unfold uniL; rw [mem_setOfI, List.mem_append]
theorem uni_length_le (S1 S2 : List Int) : (uniL S1 S2).length ≤ S1.length + S2.length := by
  have := setOf_length_le (c := cmpI) (S1 ++ S2)
  rw [List.length_append] at this
  exact this
theorem setOf_asc {S : List Int} (h : Asc cmpI S) : setOf cmpI S = S := Asc.ext cmpokI (asc_setOf cmpokI S) h fun z => mem_setOfI z S
theorem chosen_uni {S1 S2 out : List Int} (h : Chosen cmpI true true true S1 S2 out) : out = uniL S1 S2 := by
  refine Asc.ext cmpokI h.asc (asc_uni S1 S2) fun z => ?_
  rw [h.mem, mem_uni]
  have hw : want cmpI true true S2 z = true := by unfold want; split <;> rfl
  rw [hw]
  constructor
  · rintro (⟨h1, _⟩ | ⟨h1, _, _⟩)
    · exact .inl h1
    · exact .inr h1
  · rintro (h1 | h1)
    · exact .inl ⟨h1, rfl⟩
    · rcases hq : isIn cmpI z S1 with _ | _
      · exact .inr ⟨h1, rfl, rfl⟩
      · obtain ⟨y, hy, h0⟩ := isIn_iff.1 hq
        rw [cmpI_zero] at h0
        subst h0
        exact .inl ⟨hy, rfl⟩
/-- a scope that rises from 0 on, sizes of 1 or more -/
structure TabOk (S Z : List Int) : Prop where
  asc : Asc cmpI S
  len : Z.length = S.length
  one : ∀ z, z ∈ Z → 1 ≤ z
  cnt : sufP Z 0 ≤ 2147483647
  zero : ∀ v, v ∈ S → 0 ≤ v
theorem okAt_at {S Z : List Int} {n j : Nat} (h : okAt S Z n = true) (hj : j < n) : 0 ≤ nth S j ∧ (j = 0 ∨ nth S (j - 1) < nth S j) ∧ 1 ≤ nth Z j := by
  unfold okAt at h
  have := List.all_eq_true.1 h j (List.mem_range.2 hj)
  simpa [and_assoc] using this
theorem checkC_ok {S Z : List Int} {m : Nat} (h : checkC S Z m = 0) : TabOk S Z ∧ sufP Z 0 = m := by
  unfold checkC at h
  split at h
  · cases h
  rename_i h1
  split at h
  · cases h
  rename_i h2
  have hok : okAt S Z S.length = true := by simpa using h2
  have hlen : Z.length = S.length := by have h3 : S.length = Z.length := Classical.byContradiction fun h => h1 h
                                        exact h3.symm
  have hone : ∀ z, z ∈ Z → 1 ≤ z := fun z hz => by
    obtain ⟨j, hj, rfl⟩ := mem_nth hz
    exact (okAt_at hok (by omega)).2.2
  rw [cntC_eq hone] at h
  by_cases hq : 2147483647 < sufP Z 0
  · rw [if_pos hq] at h
    simp at h
  · rw [if_neg hq] at h
    simp only [ne_eq, not_true_eq_false, if_false] at h
    have hm : sufP Z 0 = m := Classical.byContradiction fun hne => by rw [if_pos hne] at h; cases h
    have hstep : ∀ j, j + 1 < S.length → nth S j < nth S (j + 1) := fun j hj => by
      rcases (okAt_at hok hj).2.1 with h | h
      · omega
      · exact h
    have hlt : ∀ d i, i + d + 1 < S.length → nth S i < nth S (i + d + 1) := by
      intro d
      induction d with
      | zero => intro i hi; exact hstep i hi
      | succ d ih => intro i hi; exact Int.lt_trans (ih i (by omega)) (hstep (i + d + 1) hi)
    refine ⟨⟨?_, hlen, hone, by omega, fun v hv => ?_⟩, hm⟩
    · unfold Asc
      rw [List.pairwise_iff_getElem]
      intro i j hi hj hij
      have := hlt (j - i - 1) i (by omega)
      rw [show i + (j - i - 1) + 1 = j by omega, nth_eq hi, nth_eq hj] at this
      rw [cmpI_neg]; exact this
    · obtain ⟨j, hj, rfl⟩ := mem_nth hv
      exact (okAt_at hok hj).1
/-- what is wrong with a product, or 0 -/
def timesErr (S1 Z1 : List Int) (m1 : Nat) (S2 Z2 : List Int) (m2 : Nat) : Int :=
  if checkC S1 Z1 m1 ≠ 0 then checkC S1 Z1 m1 else if checkC S2 Z2 m2 ≠ 0 then checkC S2 Z2 m2 else if (uniL S1 S2).any (clash S1 Z1 S2 Z2) = true then 61 else if 2147483647 < sufP ((uniL S1 S2).map (sizeF S1 Z1 S2 Z2)) 0 then 4 else 0
/-- the sizes of a product -/
def uniZ (S1 Z1 S2 Z2 : List Int) : List Int := (uniL S1 S2).map (sizeF S1 Z1 S2 Z2)
theorem uniZ_one {S1 Z1 S2 Z2 : List Int} (h1 : TabOk S1 Z1) (h2 : TabOk S2 Z2) : ∀ z, z ∈ uniZ S1 Z1 S2 Z2 → 1 ≤ z := by
  intro z hz
  obtain ⟨u, hu, rfl⟩ := List.mem_map.1 hz
  unfold sizeF
  rcases hq : S1.idxOf? u with _ | i
  · simp only
    rcases hr : S2.idxOf? u with _ | j
    · exfalso
      rcases mem_uni.1 hu with h | h
      · exact idxOf_none.1 hq h
      · exact idxOf_none.1 hr h
    · have := idxOf_some hr
      exact h2.one _ (nth_mem (by have := h2.len; omega))
  · have := idxOf_some hq
    exact h1.one _ (nth_mem (by have := h1.len; omega))
theorem asc_sub {S U : List Int} (hS : Asc cmpI S) (hU : Asc cmpI U) (h : ∀ x, x ∈ S → x ∈ U) : S.Sublist U := by
  induction U generalizing S with
  | nil =>
    cases S with
    | nil => exact List.Sublist.refl _
    | cons a S => exact absurd (h a (by simp)) (by simp)
  | cons u U ih =>
    cases S with
    | nil => exact List.nil_sublist _
    | cons a S =>
      have hU2 := (List.pairwise_cons.1 hU)
      have hS2 := (List.pairwise_cons.1 hS)
      by_cases he : a = u
      · subst he
        refine List.Sublist.cons_cons _ (ih hS2.2 hU2.2 fun x hx => ?_)
        rcases List.mem_cons.1 (h x (List.mem_cons_of_mem _ hx)) with h1 | h1
        · subst h1
          have := hS2.1 _ hx
          rw [(cmpI_zero _ _).mpr rfl] at this
          omega
        · exact h1
      · refine List.Sublist.cons _ (ih hS hU2.2 fun x hx => ?_)
        rcases List.mem_cons.1 (h x hx) with h1 | h1
        · exfalso
          subst h1
          rcases List.mem_cons.1 hx with h2 | h2
          · exact he h2.symm
          · have h3 := hS2.1 _ h2
            have h4 : a ∈ U := (List.mem_cons.1 (h a (by simp))).resolve_left he
            have h5 := hU2.1 _ h4
            have h6 := cmpokI.lt_trans h3 h5
            rw [(cmpI_zero _ _).mpr rfl] at h6
            omega
        · exact h1
theorem nth_default {α : Type} [Inhabited α] {l : List α} {i : Nat} (h : l.length ≤ i) : nth l i = default := by simp [nth, List.getD, List.getElem?_eq_none h]
theorem asg_nth {U d : List Int} (hn : U.Nodup) (h : U.length = d.length) {p : Nat} (hp : p < U.length) : asg U d (nth U p) = nth d p := by
  have h1 := asg_map hn h
  have h2 : nth (U.map (asg U d)) p = nth d p := by rw [h1]
  rwa [nth_map _ hp] at h2
/-- where a table's cell stands, told by the digits of a larger scope -/
theorem idx_ok {U S Z : List Int} {F : Int → Int} (hU : Asc cmpI U) (T : TabOk S Z) (hSU : ∀ x, x ∈ S → x ∈ U) (hF : ∀ i, i < S.length → F (nth S i) = nth Z i) (hone : ∀ z, z ∈ U.map F → 1 ≤ z) (k : Nat) :
    placeF (stL U S Z 0) (dgL (U.map F) k) U.length = atS Z (S.map (asg U (dgL (U.map F) k))) ∧ 0 ≤ atS Z (S.map (asg U (dgL (U.map F) k))) ∧ atS Z (S.map (asg U (dgL (U.map F) k))) < sufP Z 0 ∧ ∀ i, 0 ≤ nth (stL U S Z 0) i * nth (dgL (U.map F) k) i := by
  have hn : U.Nodup := hU.imp fun {a b} hab e => by
    subst e
    rw [(cmpI_zero _ _).mpr rfl] at hab
    omega
  have hlen : U.length = (dgL (U.map F) k).length := by rw [dgL_length, List.length_map]
  have hsub := asc_sub T.asc hU hSU
  have hpl := place_at hsub hn T.len (asg U (dgL (U.map F) k))
  rw [asg_map hn hlen] at hpl
  have hr : ∀ i, i < Z.length → 0 ≤ nth (S.map (asg U (dgL (U.map F) k))) i ∧ nth (S.map (asg U (dgL (U.map F) k))) i < nth Z i := fun i hi => by
    have hi2 : i < S.length := by have := T.len; omega
    rw [nth_map _ hi2]
    obtain ⟨p, hp, he⟩ := mem_nth (hSU _ (nth_mem hi2))
    rw [← he, asg_nth hn hlen hp]
    have h1 := dgL_range hone k (i := p) (by rw [List.length_map]; exact hp)
    rw [nth_map _ hp, he, hF i hi2] at h1
    exact h1
  have hat := atS_range (Z := Z) (d := S.map (asg U (dgL (U.map F) k))) (by rw [List.length_map]; exact T.len) T.one hr
  refine ⟨hpl, hat.1, hat.2, fun i => ?_⟩
  rcases Nat.lt_or_ge i U.length with h | h
  · have h1 : 0 ≤ nth (stL U S Z 0) i := by rw [stL, nth_map _ h]; exact strF_nonneg T.one 0 _
    have h2 := (dgL_range hone k (i := i) (by rw [List.length_map]; exact h)).1
    exact Int.mul_nonneg h1 h2
  · rw [nth_default (by rw [stL_length]; exact h)]
    exact Int.le_of_eq (by show 0 = (0 : Int) * _; rw [Int.zero_mul])
theorem sizeF_1 {S1 Z1 S2 Z2 : List Int} (h1 : TabOk S1 Z1) {i : Nat} (hi : i < S1.length) : sizeF S1 Z1 S2 Z2 (nth S1 i) = nth Z1 i := by
  unfold sizeF
  rw [idxOf_nth (asc_nodup h1.asc) hi]
theorem sizeF_2 {S1 Z1 S2 Z2 : List Int} (h2 : TabOk S2 Z2) (hno : (uniL S1 S2).any (clash S1 Z1 S2 Z2) = false) {i : Nat} (hi : i < S2.length) : sizeF S1 Z1 S2 Z2 (nth S2 i) = nth Z2 i := by
  have hm : nth S2 i ∈ uniL S1 S2 := mem_uni.2 (.inr (nth_mem hi))
  have hc := List.any_eq_false.1 hno _ hm
  unfold sizeF
  unfold clash at hc
  rw [idxOf_nth (asc_nodup h2.asc) hi] at hc ⊢
  rcases h : S1.idxOf? (nth S2 i) with _ | j
  · rfl
  · rw [h] at hc
    simpa using hc
theorem wpList_mk0 {P : Program} (w : World) {α : Type} {t e : TypeId} {z : Value} {bytes : Nat} (E : EI P t e z bytes) (enc : α → Value) {ops : Array Oper} {rest : List Oper} {o : Oper} {a : Act} {Q : Exit → Act → World → Prop} (hgd : o.guard = none) (l c : Operand)
    (ho : o.op = Op.makeSlice t l c) (n : Nat) (hl : a.eval l = .int .i64 0) (hc : a.eval c = .int .i64 (n : Int)) (hb : bytes * n ≤ 281474976710656)
    (h : ∀ w', OwnR enc w' w.heap.size e (some ⟨w.heap.size, 0, none⟩) 0 n [] → Below w.heap.size w w' → wpList P ops Q rest (a.put o.dst (.slice (some ⟨w.heap.size, 0, none⟩) 0 n)) w') : wpList P ops Q (o :: rest) a w := by
  obtain ⟨⟨i, e1, e2, e3, e4, e5⟩, _, hp⟩ := E
  have hn : 1 * n ≤ bytes * n := Nat.mul_le_mul_right _ hp
  exact wpList_make_own w hgd l c t ho w.heap.size e i z 1 e1 e2 e3 e4 .i64 .i64 _ n hl hc rfl (by rw [e5]; exact hb) (by unfold maxLen; omega) (Nat.le_refl _) fun w' h1 h2 => h w' h1 ⟨h2.os, h2.tape, h2.output, h2.size, fun b hb => h2.block b hb (by simp)⟩
end Go.Proofs.Ytgmchedfgdgenaa
/- A range over a function whose function hands over things that lie in memory: a law of its own, at the wide fence; the loop's body goes through all rounds. No condition. -/
namespace Go.Proofs.Ytgmchedfgdgenaa
open Go.RowKit

/-- the function goes through rounds x, each with R x at its beginning; Kp is what a round must keep -/
def SeqR {α : Type} (P : Program) (gf : Nat) (lb : Array Value) (encs : α → Array Value) (R : α → World → Prop) (Kp : World → World → Prop) (S : List α → Prop) (N : Nat) (w : World) : Prop :=
  ∀ (l : Nat) (J : List α → World → Prop) (W : World), Below w.heap.size w W → (∀ s A B, J s A → Below A.heap.size A B → J s B) →
    (∀ pre x W1, J pre W1 → R x W1 → pre.length < N → YieldAt Fence.wide 0 P l (encs x) W1 fun e W' => e = .returned (.bool true) ∧ J (pre ++ [x]) W' ∧ Kp W1 W') →
    J [] W → CallsIn Fence.wide 0 P gf (#[.func (.yield l) #[] #[]] ++ lb) W fun e W' => (∃ v, e = .returned v) ∧ ∃ xs, S xs ∧ J xs W'
/-- what a block that is no cells, laid from B on, may turn into without harm -/
def PutOk {β : Type} (B : Nat) (I : β → World → Prop) : Prop := ∀ s W l o o', I s W → B ≤ l → W.heap[l]? = some o → o.isCells = false → I s (W.putObj l o')
theorem wp_rangeR {P : Program} {α : Type} {g : Operand} {ps : Array Tmp} {assign body : Code} {Q : Exit → Act → World → Prop} {a : Act} {w : World} {gf : Nat} {lb : Array Value} (hg : a.eval g = .func (.func gf) #[] lb)
    (eg : ∀ args w, (callFunc gf args).run P w = .ok (.enter gf args) w) {encs : α → Array Value} {R : α → World → Prop} {Kp : World → World → Prop} {S : List α → Prop} {N : Nat} (hseq : SeqR P gf lb encs R Kp S N w)
    (hKt : ∀ {A B C : World}, Kp A B → Kp B C → Kp A C) (hKp : ∀ (W : World) (l : Nat) (o o' : Obj), w.heap.size ≤ l → W.heap[l]? = some o → o.isCells = false → Kp W (W.putObj l o')) (hps : ∀ x, (encs x).size = ps.size)
    (I : List α → World → Prop) (hIb : ∀ s A B, I s A → Below A.heap.size A B → I s B) (hIp : PutOk w.heap.size I) (hRp : PutOk w.heap.size R) (h0 : I [] w) (a₁ : α → Act)
    (hassign : ∀ (l : Nat) (x : α) (W : World) (K : Act → World → Prop), K (a₁ x) W →
      assign.wpIn (Fence.wide.inRound l) 0 P (Exit.then K (fun _ _ _ => False)) { tmps := (ps.zip (encs x)).foldl (fun t (p, v) => t.setIfInBounds p v) a.tmps, defers := [] } W)
    (hbody : ∀ (l : Nat) (pre : List α) (x : α) (W : World), I pre W → R x W → pre.length < N → body.wpIn (Fence.wide.inRound l) 0 P (ownPostK Kp I (fun _ _ _ => False) (pre ++ [x]) W) (a₁ x) W)
    (hdone : ∀ (D : Nat) (xs : List α) (W : World), w.heap.size ≤ D → S xs → I xs W → W.heap[D]? = some (.deferred (some [])) → Q .normal { a with defers := { target := .collected D, args := #[] } :: a.defers } W) :
    (Code.rangeFunc g ps assign body).wp P Q a w := by
  refine (wpIn_wide (n := 0)).1 (wpIn_rangeFunc fun fn hfn => ?_)
  obtain ⟨rec, hrec⟩ : ∃ rec : LoopState → Loop, rec = fun st => { state := st, pending := none, fn, tmps := a.tmps, params := ps, assign, body, defers := w.heap.size } := ⟨_, rfl⟩
  obtain ⟨W1, hW1⟩ : ∃ W1, W1 = (w.alloc (.deferred (some []))).alloc (.loop (rec .ready)) := ⟨_, rfl⟩
  have hL1 : W1.heap[w.heap.size + 1]? = some (.loop (rec .ready)) := by
    have := World.alloc_heap_new (w.alloc (.deferred (some []))) (.loop (rec .ready))
    rw [World.size_alloc, ← hW1] at this
    exact this
  have hK1 : W1.heap[w.heap.size]? = some (.deferred (some [])) := by
    rw [hW1]; exact (Below.heap_alloc _ _ _ (by simp)).trans (World.alloc_heap_new w _)
  have hb1 : Below w.heap.size w W1 := by
    rw [hW1]; exact ((Below.refl _ w).alloc (Nat.le_refl _) _).alloc (by simp) _
  refine ⟨w.heap.size + 1, [{ target := .collected w.heap.size, args := #[] }], W1, { target := .fn (.func gf) lb, args := #[.func (.yield (w.heap.size + 1)) #[] #[]] }, W1, gf,
    #[.func (.yield (w.heap.size + 1)) #[] #[]] ++ lb, W1, ?_, ?_, fun _ _ => trivial, ?_, (fun h => by cases h), ?_⟩
  · rw [hW1, hrec]; exact run_enterLoop_outer _ _ _ _ _
  · simp only [resolve, hg]
    simp [go_sem]
  · simp [invoke, go_sem, eg]
  refine (hseq (w.heap.size + 1) (fun pre W => I pre W ∧ W.heap[w.heap.size + 1]? = some (.loop (rec .ready)) ∧ W.heap[w.heap.size]? = some (.deferred (some []))) W1 hb1
    (fun s A B hs hb => ⟨hIb s A B hs.1 hb, (hb.block _ (Array.getElem?_eq_some_iff.1 hs.2.1).1).trans hs.2.1, (hb.block _ (Array.getElem?_eq_some_iff.1 hs.2.2).1).trans hs.2.2⟩) ?_ ⟨hIb _ _ _ h0 hb1, hL1, hK1⟩).mono ?_
  · rintro pre x W ⟨hi, hl, hk⟩ hR hlen
    have hlt : w.heap.size + 1 < W.heap.size := (Array.getElem?_eq_some_iff.1 hl).1
    have hy := run_yield (P := P) (args := encs x) hl (by rw [hrec]; exact hps x)
    rw [hrec] at hy
    refine ⟨fn, _, assign, body, hy, roundIn_of_wpIn hfn (hassign _ x W _ ⟨_, run_beginRound hl (by rw [hrec]), ?_⟩)⟩
    have hl2 : (W.putObj (w.heap.size + 1) (.loop { rec .ready with state := .busy })).heap[w.heap.size + 1]? = some (.loop { rec .ready with state := .busy }) := World.putObj_heap_same hlt
    have hk2 : (W.putObj (w.heap.size + 1) (.loop { rec .ready with state := .busy })).heap[w.heap.size]? = some (.deferred (some [])) := (World.putObj_heap_other (by omega)).trans hk
    refine wpIn_mono (hbody _ pre x _ (hIp _ _ _ _ _ hi (by omega) hl rfl) (hRp _ _ _ _ _ hR (by omega) hl rfl) hlen) ?_
    rintro e a3 W3 hp
    cases e with
    | normal =>
      obtain ⟨hk3, hkp, hi3⟩ := hp
      have hl3 := hk3.same _ _ hl2 rfl
      have hend := run_endRound (P := P) none hl3
      rw [hrec] at hend
      refine ⟨_, _, hend, rfl, ⟨hIp _ _ _ _ _ hi3 (by omega) hl3 rfl, ?_, ?_⟩, ?_⟩
      · rw [hrec]; exact World.putObj_heap_same (Array.getElem?_eq_some_iff.1 hl3).1
      · exact (World.putObj_heap_other (by omega)).trans (hk3.same _ _ hk2 rfl)
      · exact hKt (hKt (hKp _ _ _ _ (by omega) hl rfl) hkp) (hKp _ _ _ _ (by omega) hl3 rfl)
    | ret => exact hp.2.elim
    | exit id => exact hp.2.elim
    | goto t => exact hp.2.elim
    | panic ch => exact hp.elim
    | outgrown => exact hp.elim
  · rintro e W2 ⟨⟨v, rfl⟩, xs, hS, hi, hl, hk⟩
    have hend := run_endLoop (P := P) hl (by rw [hrec]; simp)
    rw [hrec] at hend
    exact ⟨none, _, hend, hdone _ xs _ (Nat.le_refl _) hS (hIp _ _ _ _ _ hi (by omega) hl rfl) ((World.putObj_heap_other (by omega)).trans hk)⟩
end Go.Proofs.Ytgmchedfgdgenaa
/- radix.All over ints: the function that it gives goes through all digits, in order. Conditions: sizes of 1 or more, not too many; within Go's bound. -/
namespace Go.Proofs.Ytgmchedfgdgenaa
open Go.RowKit Go.Shelf
attribute [local go_sem] Oper.semAt_some

/-- a round of All: its number, and where its digits lie -/
structure AllX (N : Nat) where
  k : Nat
  lt : k < N
  B : Option Addr
  d : Nat
def allE (Z : List Int) {N : Nat} (x : AllX N) : Array Value := #[.int .i64 (x.k : Int), .slice x.B Z.length x.d]
def allR (Z : List Int) {N : Nat} (x : AllX N) (W : World) : Prop := Sl (Value.int .i64) W x.B Z.length (dgL Z x.k)
/-- blocks from lo to hi stay -/
def KeepR (lo hi : Nat) (W W' : World) : Prop := W.heap.size ≤ W'.heap.size ∧ ∀ b, lo ≤ b → b < hi → W'.heap[b]? = W.heap[b]?
theorem KeepR.refl (lo hi : Nat) (W : World) : KeepR lo hi W W := ⟨Nat.le_refl _, fun _ _ _ => rfl⟩
theorem keepR_t {lo hi : Nat} {A B C : World} (h : KeepR lo hi A B) (k : KeepR lo hi B C) : KeepR lo hi A C := ⟨Nat.le_trans h.1 k.1, fun b h1 h2 => (k.2 b h1 h2).trans (h.2 b h1 h2)⟩
theorem keepR_p {lo hi : Nat} (W : World) (l : Nat) (o o' : Obj) (hl : hi ≤ l) (_ : W.heap[l]? = some o) (_ : o.isCells = false) : KeepR lo hi W (W.putObj l o') :=
  ⟨by simp [World.putObj], fun b _ h2 => World.putObj_heap_other (by omega)⟩
theorem KeepR.below {lo hi B : Nat} {A C : World} (h : Below B A C) (hB : hi ≤ B) : KeepR lo hi A C := ⟨h.size, fun b _ h2 => h.block b (by omega)⟩
theorem KeepR.row {lo hi : Nat} {W W' : World} (h : KeepR lo hi W W') {g : Nat} {e : TypeId} {cs : List Value} (hr : RowC W g e cs) (h1 : lo ≤ g) (h2 : g < hi) : RowC W' g e cs := (h.2 g h1 h2).trans hr
theorem KeepR.own {α : Type} {enc : α → Value} {lo hi : Nat} {W W' : World} (h : KeepR lo hi W W') {e : TypeId} {A : Option Addr} {n c : Nat} {xs : List α} (ho : OwnR enc W lo e A n c xs) (hh : ∀ g, A = some ⟨g, 0, none⟩ → g < hi) : OwnR enc W' lo e A n c xs := by
  refine ⟨ho.1, ?_⟩
  rcases ho.2 with h2 | ⟨g, cap, cur, h1, hb, hh1, r⟩
  · exact .inl h2
  · exact .inr ⟨g, cap, cur, h1, hb, (h.2 g hb (hh g (by injection h1))).trans hh1, r⟩
/-- what All's function has captured -/
structure AllSt (W : World) (lo hi pn po N : Nat) (A : Option Addr) (c : Nat) (Z : List Int) : Prop where
  n : RowC W pn 3 [.int .i64 (N : Int)]
  o : RowC W po 22 [.slice A Z.length c]
  own : OwnR (Value.int .i64) W lo 3 A Z.length c Z
  n1 : lo ≤ pn
  n2 : pn < hi
  o1 : lo ≤ po
  o2 : po < hi
  a2 : ∀ g, A = some ⟨g, 0, none⟩ → g < hi
theorem AllSt.keep {W W' : World} {lo hi pn po N c : Nat} {A : Option Addr} {Z : List Int} (h : AllSt W lo hi pn po N A c Z) (k : KeepR lo hi W W') : AllSt W' lo hi pn po N A c Z :=
  ⟨k.row h.n h.n1 h.n2, k.row h.o h.o1 h.o2, k.own h.own h.a2, h.n1, h.n2, h.o1, h.o2, h.a2⟩
def AllPost (Z : List Int) (N : Nat) (w : World) (e : Ending) (w' : World) : Prop :=
  ∃ pn po A c, e = .returned (.func (.func 68) #[] #[.pointer (some ⟨pn, 0, none⟩), .pointer (some ⟨po, 0, none⟩)]) ∧ AllSt w' w.heap.size w'.heap.size pn po N A c Z ∧ Below w.heap.size w w'
set_option maxRecDepth 100000 in
set_option maxHeartbeats 800000 in
theorem all_any (A : Option Addr) (n c N : Nat) (Z : List Int) (w : World) (h : Sl (Value.int .i64) w A n Z) (hb : n * 8 ≤ 140737488351232) (hc : cntC Z = ((N : Int), 0)) :
    Calls Try.prog 41 #[.slice A n c] w (AllPost Z N w) := by
  obtain rfl : Z.length = n := h.len
  have hb2 : Z.length * 8 ≤ 140737488355328 := by omega
  have HC := Lib.hid hc
  have hbig := h.big
  clear hc
  go_enter Try.func41, Try.ntmps41
  go_wp2_with fail
  refine (SoI.clone_any A Z.length c Z _ h hb2).mono ?_
  rintro e w1 ⟨A1, c1, rfl, ho1, hb1⟩
  have ho2 := ho1.alloc (.cells #[.slice A1 Z.length c1] 22)
  have hr2 := RowC.new w1 22 [.slice A1 Z.length c1]
  have hb2 := hb1.alloc hb1.size (.cells #[.slice A1 Z.length c1] 22)
  have g0 := hr2.cell 0
  have H := Lib.hid (And.intro ho2 (And.intro hr2 (And.intro hb2 hb1.size)))
  clear ho1 hb1 ho2 hr2 hb2
  go_wp2_with fail
  refine (count_any A1 Z.length c1 Z _ (H.out.1.sl hbig)).mono ?_
  rintro e w2 ⟨rfl, hw2⟩
  subst hw2
  rw [HC.out]
  clear g0
  go_wp2_with fail
  go_ret
  refine ⟨w1.heap.size + 1, w1.heap.size, A1, c1, rfl, ⟨?_, H.out.2.1.alloc _, H.out.1.alloc _, by have := H.out.2.2.2; omega, by simp, H.out.2.2.2, by simp; omega, fun g e => ?_⟩, ?_⟩
  · have := RowC.new (w1.alloc (.cells #[.slice A1 Z.length c1] 22)) 3 [.int .i64 (N : Int)]
    rw [World.size_alloc] at this
    exact this
  · rcases (H.out.1.alloc (.cells #[.int .i64 (N : Int)] 3)).at_row with h1 | ⟨g', h1, _, h2⟩
    · rw [e] at h1; cases h1
    · rw [e] at h1; injection h1 with h1; injection h1 with h1; omega
  · exact H.out.2.2.1.alloc H.out.2.2.1.size _
set_option maxRecDepth 100000 in
set_option maxHeartbeats 2000000 in
theorem all_seq (w : World) (lo pn po N c : Nat) (A : Option Addr) (Z : List Int) (hs : AllSt w lo w.heap.size pn po N A c Z) (hz : ∀ z, z ∈ Z → 1 ≤ z) (hN : N ≤ 2147483647) (hb : Z.length * 8 ≤ 140737488351232) :
    SeqR (α := AllX N) Try.prog 68 #[.pointer (some ⟨pn, 0, none⟩), .pointer (some ⟨po, 0, none⟩)] (allE Z) (allR Z) (KeepR lo w.heap.size) (fun xs => xs.map AllX.k = List.range N) N w := by
  intro l J W hW hJ hY h0
  have hs := hs.keep (KeepR.below hW (Nat.le_refl _))
  have hwW := hW.size
  refine callsIn_of_wp Try.func68 rfl trivial ?_ rfl
  simp only [Try.ntmps68, List.size_toArray, List.length_cons, List.length_nil, Nat.reduceAdd, Nat.reduceSub, Array.replicate_succ, Array.replicate_zero, List.push_toArray, List.append_toArray, List.nil_append, List.cons_append]
  have g0 := hs.n.cell 0
  gi_wp2
  gi_loopw [6] (fun i wr => ∃ (k : Nat) (pre : List (AllX N)), k ≤ N ∧ i = .int .i64 (k : Int) ∧ pre.map AllX.k = List.range k ∧ J pre wr ∧ KeepR lo w.heap.size W wr) (fun i _ => N - (intOf i).toNat)
  case atStart => exact ⟨0, [], Nat.zero_le _, rfl, rfl, h0, KeepR.refl _ _ _⟩
  case round =>
    obtain ⟨k, pre, hk, rfl, hpre, hJs, hkp⟩ := hrel
    by_cases hlt : k < N
    · have hs1 := hs.keep hkp
      have u0 := hs1.o.cell 0
      have hsz := hkp.1
      have HS := Lib.hid (And.intro hJs (And.intro hkp hs1))
      clear hJs hkp hs1
      gi_wp2
      refine ⟨trivial, rfl, ?_⟩
      refine (callsIn_wide.2 (dig_any A Z.length c Z k _ (HS.out.2.2.own.sl (by omega)) hb (by omega) hz)).mono ?_
      rintro e w3 ⟨B, d, rfl, hB, hb3⟩
      have hpl : pre.length = k := by have := congrArg List.length hpre; simpa using this
      obtain ⟨fn, tmps, assign, body, hy, hR⟩ := hY pre ⟨k, hlt, B, d⟩ w3 (hJ _ _ _ HS.out.1 hb3) (hB.sl (by omega)) (by rw [hpl]; exact hlt)
      dsimp only [allE] at hy
      have HK := Lib.hid (keepR_t HS.out.2.1 (KeepR.below hb3 (by omega)))
      clear hb3 hB u0
      gi_wp2
      refine ⟨rfl, ?_⟩
      refine hR.mono ?_
      rintro e w4 ⟨rfl, hJ4, hk4⟩
      have HQ := Lib.hid (And.intro hJ4 (keepR_t HK.out hk4))
      clear hJ4 hk4
      gi_wp2
      go_roundw
      case rel => exact ⟨k + 1, pre ++ [⟨k, hlt, B, d⟩], by omega, by simp, by rw [List.map_append, hpre, List.range_succ]; rfl, HQ.out.1, HQ.out.2⟩
      case measure => simp [intOf]; omega
    · obtain rfl : N = k := by omega
      gi_wp2
      go_end0
      exact ⟨⟨_, rfl⟩, pre, hpre, hJs⟩
end Go.Proofs.Ytgmchedfgdgenaa
