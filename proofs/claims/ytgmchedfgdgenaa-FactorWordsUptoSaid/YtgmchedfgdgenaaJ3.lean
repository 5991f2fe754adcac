/- Joined by program out of: Last, LastIn. What each says stands at its own head. -/
import Derived.Test.YtgmchedfgdgenaaJ1
import Derived.Deep.RegionHeld3
import Derived.OrdersIn
import Derived.RangeFuncCalls
/- A region that draws its order and ends in one operation that waits for all others: that one is walked behind the region. No condition. -/
namespace Go.Proofs.Ytgmchedfgdgenaa
open Go.RowKit

/-- what is owed ahead of the last operation -/
def AheadOf (P : Program) (o : Oper) (Q : Exit → Act → World → Prop) : Exit → Act → World → Prop
  | .normal, a, w => o.wp P a w (fun a w => Q .normal a w) Q
  | e, a, w => Q e a w
/-- number L waits for all others, none of them waits for it, and all wait for what lies ahead of them -/
def lastOk (ops : Array Oper) (L : Nat) : Bool := (List.range ops.size).all fun j => match ops[j]? with
  | none => true
  | some o => o.after.all (fun e => decide (e.on < j) && e.on != L) && (if j = L then (List.range ops.size).all (fun k => k == L || o.after.any (fun e => Region.binds .any e && e.on == k)) else true)
section
variable {P : Program} {ops : Array Oper} {Q : Exit → Act → World → Prop} {S : World → Prop} {L : Nat} {o : Oper}
theorem wpOp_ahead {i : Nat} {K : Act → World → Prop} {a : Act} {w : World} (h : wpOp P ops (AheadOf P o Q) i K a w) : wpOp P ops Q i K a w := by
  have hw : ∀ {x : Oper} {r : Result Next}, x.upon P a K (AheadOf P o Q) r → x.upon P a K Q r := by
    intro x r hr
    rcases r with ⟨n, w'⟩ | ⟨y, w'⟩
    · cases n <;> first
        | exact hr
        | (refine Calls.mono hr fun e w2 he => ?_
           cases e <;> exact he)
    · cases y <;> exact hr
  unfold wpOp at *
  rcases ho : ops[i]? with _ | x
  · rw [ho] at h; exact h
  · rw [ho] at h
    simp only at h ⊢
    split at h
    · rename_i hq
      rw [if_pos hq]
      rcases h with h | h
      · exact .inl (hw h)
      · exact .inr ⟨h.1, h.2⟩
    · rename_i hq
      rw [if_neg hq]
      exact h
theorem ahead_sound (ho : ops[L]? = some o) (hg : o.guard = none) (hok : lastOk ops L = true) : ∀ (fuel : Nat) (listed : Array Bool) (a : Act) (w : World), listed.size = ops.size → listed.getD L true = false →
    wpAnyH P .any ops (AheadOf P o Q) S fuel (listed.setIfInBounds L true) a w → wpAny P .any ops Q (fuel + 1) listed a w := by
  have hL : L < ops.size := (Array.getElem?_eq_some_iff.1 ho).1
  have h1 : ∀ k, k < ops.size → k ≠ L → ∃ e ∈ o.after, Region.binds .any e = true ∧ e.on = k := by
    intro k hk hne
    unfold lastOk at hok
    have := List.all_eq_true.1 hok L (List.mem_range.2 hL)
    rw [ho] at this
    simp only [if_true, Bool.and_eq_true] at this
    have := List.all_eq_true.1 this.2 k (List.mem_range.2 hk)
    simp only [Bool.or_eq_true, beq_iff_eq, Array.any_eq_true] at this
    rcases this with h | ⟨i, hi, h⟩
    · exact absurd h hne
    · simp only [Bool.and_eq_true, beq_iff_eq] at h
      exact ⟨_, Array.getElem_mem hi, h.1, h.2⟩
  have h2 : ∀ (j : Nat) (x : Oper), ops[j]? = some x → ∀ e ∈ x.after, e.on < j ∧ e.on ≠ L := by
    intro j x hx e he
    have hj : j < ops.size := (Array.getElem?_eq_some_iff.1 hx).1
    unfold lastOk at hok
    have := List.all_eq_true.1 hok j (List.mem_range.2 hj)
    rw [hx] at this
    simp only [Bool.and_eq_true] at this
    have := Array.all_eq_true_iff_forall_mem.1 this.1 e he
    simpa using this
  have key : ∀ (listed : Array Bool), listed.size = ops.size → listed.getD L true = false →
      (L ∈ Region.ready .any ops listed ∧ Region.ready .any ops (listed.setIfInBounds L true) = [] ∧ ∀ i ∈ Region.ready .any ops listed, i = L) ∨
      ((∃ j, j ∈ Region.ready .any ops listed) ∧ ∀ i ∈ Region.ready .any ops listed, i ≠ L ∧ i ∈ Region.ready .any ops (listed.setIfInBounds L true)) := by
    intro listed hs hLf
    by_cases hall : ∀ j, j < ops.size → j ≠ L → listed.getD j true = true
    · left
      have hd : ∀ j, j < ops.size → j ≠ L → listed.getD j false = true := fun j hj hne => by
        have := hall j hj hne
        have hj' : j < listed.size := by omega
        simpa [Array.getD, hj'] using this
      have hin : ∀ i, i ∈ Region.ready .any ops listed → i = L := fun i hi => by
        obtain ⟨h0, x, hx, _⟩ := mem_ready.1 hi
        have hi' : i < ops.size := (Array.getElem?_eq_some_iff.1 hx).1
        by_cases hne : i = L
        · exact hne
        · rw [hall i hi' hne] at h0; cases h0
      refine ⟨mem_ready.2 ⟨hLf, o, ho, fun e he hb => ?_⟩, ?_, hin⟩
      · obtain ⟨h3, h4⟩ := h2 L o ho e he
        exact hd e.on (by omega) h4
      · refine List.eq_nil_iff_forall_not_mem.2 fun i hi => ?_
        obtain ⟨h0, x, hx, _⟩ := mem_ready.1 hi
        have hi' : i < ops.size := (Array.getElem?_eq_some_iff.1 hx).1
        by_cases hne : i = L
        · subst hne
          simp [Array.getD, hs, hi'] at h0
        · rw [getD_set_ne true (Ne.symm hne), hall i hi' hne] at h0; cases h0
    · right
      have hex : ∃ j, j < ops.size ∧ j ≠ L ∧ listed.getD j true = false := by
        refine Classical.byContradiction fun hno => hall fun j hj hne => ?_
        rcases hq : listed.getD j true with _ | _
        · exact absurd ⟨j, hj, hne, hq⟩ hno
        · rfl
      have hmin : ∃ j, (j < ops.size ∧ j ≠ L ∧ listed.getD j true = false) ∧ ∀ k, k < j → k ≠ L → listed.getD k true = true := by
        obtain ⟨j, hj⟩ := hex
        have hrec : ∀ n j, j < n → (j < ops.size ∧ j ≠ L ∧ listed.getD j true = false) → ∃ j, (j < ops.size ∧ j ≠ L ∧ listed.getD j true = false) ∧ ∀ k, k < j → k ≠ L → listed.getD k true = true := by
          intro n
          induction n with
          | zero => intro j h; omega
          | succ n ihn =>
            intro j hjn hj
            by_cases hk : ∀ k, k < j → k ≠ L → listed.getD k true = true
            · exact ⟨j, hj, hk⟩
            · obtain ⟨k, hk⟩ := Classical.not_forall.1 hk
              have hkj : k < j := Classical.byContradiction fun h => hk fun h' => absurd h' h
              have hkL : k ≠ L := Classical.byContradiction fun h => hk fun _ h' => absurd h' h
              have hkf : listed.getD k true = false := by
                rcases hq : listed.getD k true with _ | _
                · rfl
                · exact absurd (fun _ _ => hq) hk
              exact ihn k (by omega) ⟨by omega, hkL, hkf⟩
        exact hrec (j + 1) j (Nat.lt_succ_self j) hj
      obtain ⟨j, ⟨hj, hjL, hjf⟩, hlow⟩ := hmin
      refine ⟨⟨j, ?_⟩, fun i hi => ?_⟩
      · refine mem_ready.2 ⟨hjf, ops[j], Array.getElem?_eq_getElem hj, fun e he hb => ?_⟩
        obtain ⟨h3, h4⟩ := h2 j _ (Array.getElem?_eq_getElem hj) e he
        have := hlow e.on h3 h4
        have hj' : e.on < listed.size := by omega
        simpa [Array.getD, hj'] using this
      · have hne : i ≠ L := by
          rintro rfl
          obtain ⟨_, x, hx, hedge⟩ := mem_ready.1 hi
          rw [ho] at hx
          injection hx with hx
          subst hx
          obtain ⟨e, he, hb, hon⟩ := h1 j hj hjL
          have := hedge e he hb
          rw [hon] at this
          have hj' : j < listed.size := by omega
          simp [Array.getD, hj'] at this hjf
          rw [hjf] at this
          cases this
        exact ⟨hne, ready_mono hi hne⟩
  have hdone : ∀ (fuel : Nat) (listed : Array Bool) (a : Act) (w : World), Region.ready .any ops listed = [] → Q .normal a w → wpAny P .any ops Q fuel listed a w := by
    intro fuel listed a w h0 hq
    cases fuel with
    | zero => exact ⟨h0, hq⟩
    | succ f => exact ⟨fun _ => hq, fun i hi => by rw [h0] at hi; cases hi⟩
  have hlast : ∀ (fuel : Nat) (listed : Array Bool) (a : Act) (w : World), L ∈ Region.ready .any ops listed → Region.ready .any ops (listed.setIfInBounds L true) = [] → (∀ i ∈ Region.ready .any ops listed, i = L) → AheadOf P o Q .normal a w →
      wpAny P .any ops Q (fuel + 1) listed a w := by
    intro fuel listed a w hm hnil honly hq
    refine ⟨(fun h0 => by rw [h0] at hm; cases hm), fun i hi => ?_⟩
    obtain rfl := honly i hi
    unfold wpOp
    rw [ho]
    simp only
    rw [if_pos (by simp [Region.wanted, hg])]
    exact .inl (Oper.wp_mono (fun a w h => hdone fuel _ a w hnil h) hq)
  intro fuel
  induction fuel with
  | zero =>
    intro listed a w hs hLf h
    rcases key listed hs hLf with ⟨hm, hnil, honly⟩ | ⟨⟨j, hj⟩, hin⟩
    · exact hlast 0 listed a w hm hnil honly h.2
    · have := (hin j hj).2
      rw [h.1] at this
      cases this
  | succ fuel ih =>
    intro listed a w hs hLf h
    rcases key listed hs hLf with ⟨hm, hnil, honly⟩ | ⟨⟨j, hj⟩, hin⟩
    · exact hlast (fuel + 1) listed a w hm hnil honly (h.1 hnil)
    · refine ⟨(fun h0 => by rw [h0] at hj; cases hj), fun i hi => ?_⟩
      obtain ⟨hne, hi1⟩ := hin i hi
      refine wpOp_ahead (wpOp_mono (fun a' w' h' => ?_) (h.2 i hi1))
      refine ih (listed.setIfInBounds i true) a' w' (by simpa using hs) (by rw [getD_set_ne true hne]; exact hLf) ?_
      rw [Array.setIfInBounds_comm _ _ hne]
      exact h'.2
/-- the beginning: the last operation is put off -/
theorem wp_region_last {id : Nat} {a : Act} {w : World} (L n : Nat) (hm : P.follows .mixedOrders = true) (hn : ops.size = n + 1) (ho : ops[L]? = some o) (hg : o.guard = none) (hok : lastOk ops L = true) (hS : S w.drew)
    (h : S w.drew → wpAnyH P .any ops (AheadOf P o Q) S n ((Array.replicate ops.size false).setIfInBounds L true) a w.drew) : (Code.region id ops true).wp P Q a w := by
  refine wp_region_any hm ?_
  have hL : L < ops.size := (Array.getElem?_eq_some_iff.1 ho).1
  have := ahead_sound ho hg hok n (Array.replicate ops.size false) a w.drew (by simp) (by simp [Array.getD, hL]) (h hS)
  rw [← hn] at this
  exact this
theorem wp_region_lastL {l : List Oper} {id : Nat} {a : Act} {w : World} (L n : Nat) (hm : P.follows .mixedOrders = true) (hn : l.length = n + 1) (ho : l[L]? = some o) (hg : o.guard = none) (hok : lastOk l.toArray L = true) (hS : S w.drew)
    (h : S w.drew → wpAnyH P .any l.toArray (AheadOf P o Q) S n ((Array.replicate (n + 1) false).setIfInBounds L true) a w.drew) : (Code.region id l.toArray true).wp P Q a w :=
  wp_region_last L n hm (by simpa using hn) (by simpa using ho) hg hok hS (by
    have e : l.toArray.size = n + 1 := by simpa using hn
    rw [e]; exact h)
theorem wpAnyH_takeL {md : Region.Mode} {l : List Oper} {i : Nat} {oi : Oper} {v : Value} {fuel : Nat} {listed : Array Bool} {a : Act} {w : World} (hi : l[i]? = some oi)
    (hs : Region.noSelect l.toArray = true) (hf : Region.free md l.toArray listed i = true) (hr : (Region.ready md l.toArray listed).contains i = true)
    (hQ : ∀ c a w, Q (.panic c) (a.put oi.dst v) w → Q (.panic c) a w) (hw : Region.wanted oi (yielded l.toArray a.tmps) = true) (hy : ∀ w, S w → (execOp a.eval oi).run P w = .ok (.value v) w) (hS : S w)
    (h : wpAnyH P md l.toArray Q S fuel (listed.setIfInBounds i true) (a.put oi.dst v) w) : wpAnyH P md l.toArray Q S (fuel + 1) listed a w :=
  wpAnyH_take (by simpa using hi) hs hf hr hQ (.inl ⟨hw, hy⟩) hS h
theorem consL {md : Region.Mode} {l : List Oper} {i : Nat} {oi : Oper} {fuel : Nat} {listed : Array Bool} {a : Act} {w : World} (hi : l[i]? = some oi)
    (h : ∀ K' : Act → World → Prop, Shut (∀ a w, S w → (S w → wpAnyH P md l.toArray Q S fuel (listed.setIfInBounds i true) a w) → K' a w) → if Region.wanted oi (yielded l.toArray a.tmps) = true then Oper.wp P oi a w K' Q else K' (a.put oi.dst undef) w) :
    AllReadyH P md l.toArray Q S fuel listed a w [i] := AllReadyH.cons (by simpa using hi) h AllReadyH.nil
theorem consM {md : Region.Mode} {l : List Oper} {i : Nat} {oi : Oper} {fuel : Nat} {listed : Array Bool} {a : Act} {w : World} {rs : List Nat} (hi : l[i]? = some oi)
    (h : ∀ K' : Act → World → Prop, Shut (∀ a w, S w → (S w → wpAnyH P md l.toArray Q S fuel (listed.setIfInBounds i true) a w) → K' a w) → if Region.wanted oi (yielded l.toArray a.tmps) = true then Oper.wp P oi a w K' Q else K' (a.put oi.dst undef) w)
    (hs : AllReadyH P md l.toArray Q S fuel listed a w rs) : AllReadyH P md l.toArray Q S fuel listed a w (i :: rs) := AllReadyH.cons (by simpa using hi) h hs
end
section
variable {P : Program} {Q : Exit → Act → World → Prop} {S : World → Prop}
/-- an operation whose guard is closed -/
theorem wpAnyH_skipL {md : Region.Mode} {l : List Oper} {i : Nat} {oi : Oper} {fuel : Nat} {listed : Array Bool} {a : Act} {w : World} (hi : l[i]? = some oi)
    (hs : Region.noSelect l.toArray = true) (hf : Region.free md l.toArray listed i = true) (hr : (Region.ready md l.toArray listed).contains i = true)
    (hQ : ∀ c a w, Q (.panic c) (a.put oi.dst undef) w → Q (.panic c) a w) (hw : Region.wanted oi (yielded l.toArray a.tmps) = false) (hS : S w)
    (h : wpAnyH P md l.toArray Q S fuel (listed.setIfInBounds i true) (a.put oi.dst undef) w) : wpAnyH P md l.toArray Q S (fuel + 1) listed a w :=
  wpAnyH_take (by simpa using hi) hs hf hr hQ (.inr ⟨hw, rfl⟩) hS h
end
end Go.Proofs.Ytgmchedfgdgenaa
/- A region that draws its order, in a round of a range over a function: walked as anywhere. Conditions: no defer statement in it. -/
namespace Go.Proofs.Ytgmchedfgdgenaa
open Go.RowKit

/-- no operation of the region is a defer statement -/
def noDefer (ops : Array Oper) : Bool := (List.range ops.size).all fun j => match ops[j]? with
  | some o => match o.op with | .defer _ => false | _ => true
  | none => true
section
variable {P : Program} {ops : Array Oper} {Q : Exit → Act → World → Prop} {S : World → Prop} {o : Oper} {md : Region.Mode}
theorem noDefer_at (h : noDefer ops = true) {i : Nat} {o : Oper} (ho : ops[i]? = some o) (c : _) : o.op ≠ .defer c := by
  intro hc
  unfold noDefer at h
  have := List.all_eq_true.1 h i (List.mem_range.2 (Array.getElem?_eq_some_iff.1 ho).1)
  rw [ho] at this
  simp only [hc] at this
  cases this
theorem rowsIn_of {n l : Nat} {row : String} {args : Array Value} {w : World} {R : Value → World → Prop} (h : Rows P row args w R) : RowsIn (Fence.wide.inRound l) n P row args w R := fun c cs _ => by
  obtain ⟨v, w', hr, hs⟩ := h c cs
  exact ⟨v, w', hr, stepsIn_wide.2 hs⟩
theorem operIn_of {n l : Nat} {a : Act} {w : World} {K : Act → World → Prop} (hd : ∀ c, o.op ≠ .defer c) (h : o.wp P a w K Q) : o.wpIn (Fence.wide.inRound l) n P a w K Q := by
  refine ⟨fun _ _ => trivial, ?_⟩
  rw [Oper.semAt_eq _ _ _ hd]
  unfold Oper.wp at h
  generalize (execOp a.eval o).run P w = r at *
  rcases r with ⟨x, w'⟩ | ⟨y, w'⟩
  · cases x <;> first
      | exact h
      | exact ⟨(fun h0 => by cases h0), CallsIn.inRound l (callsIn_wide.2 h)⟩
      | exact ⟨(fun h0 => by cases h0), rowsIn_of h⟩
      | exact h.elim
  · cases y <;> exact h
theorem anyIn_of {n l : Nat} (hnd : noDefer ops = true) (hno : ¬ LetsOut Q) : ∀ (fuel : Nat) (listed : Array Bool) (a : Act) (w : World), wpAny P md ops Q fuel listed a w → wpAnyIn (Fence.wide.inRound l) n P md ops Q fuel listed a w
  | 0, _, _, _, h => h
  | fuel + 1, listed, a, w, h => ⟨h.1, fun i hi => by
    have h2 := h.2 i hi
    unfold wpOp at h2
    unfold wpOpIn
    rcases ho : ops[i]? with _ | x
    · rw [ho] at h2; exact anyIn_of hnd hno fuel _ _ _ h2
    · rw [ho] at h2
      simp only at h2 ⊢
      split at h2
      · rename_i hq
        rw [if_pos hq]
        rcases h2 with h2 | h2
        · exact Oper.wpIn_mono (fun a w h3 => anyIn_of hnd hno fuel _ a w h3) (operIn_of (noDefer_at hnd ho) h2)
        · exact absurd h2.2 hno
      · rename_i hq
        rw [if_neg hq]
        exact ⟨fun _ _ => trivial, anyIn_of hnd hno fuel _ _ _ h2⟩⟩
/-- the beginning, in a round -/
theorem wpIn_region_heldL {l : List Oper} {id r m : Nat} {a : Act} {w : World} (n : Nat) (hm : P.follows .mixedOrders = true) (hn : l.length = n) (hnd : noDefer l.toArray = true) (hno : ¬ LetsOut Q) (hS : S w.drew)
    (h : S w.drew → wpAnyH P .any l.toArray Q S n (Array.replicate n false) a w.drew) : (Code.region id l.toArray true).wpIn (Fence.wide.inRound r) m P Q a w := by
  refine wpIn_region_any hm ?_
  have e : l.toArray.size = n := by simpa using hn
  rw [e]
  exact anyIn_of hnd hno _ _ _ _ (wpAny_of_held _ _ _ _ (h hS))
theorem wpIn_region_lastL {l : List Oper} {id r m : Nat} {a : Act} {w : World} (L n : Nat) (hm : P.follows .mixedOrders = true) (hn : l.length = n + 1) (ho : l[L]? = some o) (hg : o.guard = none) (hok : lastOk l.toArray L = true) (hnd : noDefer l.toArray = true) (hno : ¬ LetsOut Q) (hS : S w.drew)
    (h : S w.drew → wpAnyH P .any l.toArray (AheadOf P o Q) S n ((Array.replicate (n + 1) false).setIfInBounds L true) a w.drew) : (Code.region id l.toArray true).wpIn (Fence.wide.inRound r) m P Q a w := by
  refine wpIn_region_any hm ?_
  have e : l.toArray.size = n + 1 := by simpa using hn
  have hL : L < l.toArray.size := by
    have := (List.getElem?_eq_some_iff.1 ho).1
    simpa using this
  rw [e]
  refine anyIn_of hnd hno _ _ _ _ ?_
  exact ahead_sound (by simpa using ho) hg hok n (Array.replicate (n + 1) false) a w.drew (by simp [hn]) (by rw [← e]; simp [Array.getD]; simpa using hL) (h hS)
end
end Go.Proofs.Ytgmchedfgdgenaa
