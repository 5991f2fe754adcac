/- A region that draws its order, in a round of a range over a function: walked as anywhere. Conditions: no defer statement in it. -/
import Derived.Test.YtgmchedfgdgenaaLast
import Derived.OrdersIn
import Derived.RangeFuncCalls
namespace Go.Proofs.Ytgmchedfgdgenaa
open Go.RowKit

/-- no operation of the region is a defer statement -/
def noDefer (ops : Array Oper) : Bool := (List.range ops.size).all fun j => match ops[j]? with
  | some o => match o.op with | .defer _ => false | _ => true
  | none => true
section
variable {P : Program} {ops : Array Oper} {Q : Exit → Act → World → Prop} {S : World → Prop} {o : Oper} {md : Region.Mode}
theorem noDefer_at (h : noDefer ops = true) {i : Nat} {o : Oper} (ho : ops[i]? = some o) (c : _) : o.op ≠ .defer c := by
  intro hc
  unfold noDefer at h
  have := List.all_eq_true.1 h i (List.mem_range.2 (Array.getElem?_eq_some_iff.1 ho).1)
  rw [ho] at this
  simp only [hc] at this
  cases this
theorem rowsIn_of {n l : Nat} {row : String} {args : Array Value} {w : World} {R : Value → World → Prop} (h : Rows P row args w R) : RowsIn (Fence.wide.inRound l) n P row args w R := fun c cs _ => by
  obtain ⟨v, w', hr, hs⟩ := h c cs
  exact ⟨v, w', hr, stepsIn_wide.2 hs⟩
theorem operIn_of {n l : Nat} {a : Act} {w : World} {K : Act → World → Prop} (hd : ∀ c, o.op ≠ .defer c) (h : o.wp P a w K Q) : o.wpIn (Fence.wide.inRound l) n P a w K Q := by
  refine ⟨fun _ _ => trivial, ?_⟩
  rw [Oper.semAt_eq _ _ _ hd]
  unfold Oper.wp at h
  generalize (execOp a.eval o).run P w = r at *
  rcases r with ⟨x, w'⟩ | ⟨y, w'⟩
  · cases x <;> first
      | exact h
      | exact ⟨(fun h0 => by cases h0), CallsIn.inRound l (callsIn_wide.2 h)⟩
      | exact ⟨(fun h0 => by cases h0), rowsIn_of h⟩
      | exact h.elim
  · cases y <;> exact h
theorem anyIn_of {n l : Nat} (hnd : noDefer ops = true) (hno : ¬ LetsOut Q) : ∀ (fuel : Nat) (listed : Array Bool) (a : Act) (w : World), wpAny P md ops Q fuel listed a w → wpAnyIn (Fence.wide.inRound l) n P md ops Q fuel listed a w
  | 0, _, _, _, h => h
  | fuel + 1, listed, a, w, h => ⟨h.1, fun i hi => by
    have h2 := h.2 i hi
    unfold wpOp at h2
    unfold wpOpIn
    rcases ho : ops[i]? with _ | x
    · rw [ho] at h2; exact anyIn_of hnd hno fuel _ _ _ h2
    · rw [ho] at h2
      simp only at h2 ⊢
      split at h2
      · rename_i hq
        rw [if_pos hq]
        rcases h2 with h2 | h2
        · exact Oper.wpIn_mono (fun a w h3 => anyIn_of hnd hno fuel _ a w h3) (operIn_of (noDefer_at hnd ho) h2)
        · exact absurd h2.2 hno
      · rename_i hq
        rw [if_neg hq]
        exact ⟨fun _ _ => trivial, anyIn_of hnd hno fuel _ _ _ h2⟩⟩
/-- the beginning, in a round -/
theorem wpIn_region_heldL {l : List Oper} {id r m : Nat} {a : Act} {w : World} (n : Nat) (hm : P.follows .mixedOrders = true) (hn : l.length = n) (hnd : noDefer l.toArray = true) (hno : ¬ LetsOut Q) (hS : S w.drew)
    (h : S w.drew → wpAnyH P .any l.toArray Q S n (Array.replicate n false) a w.drew) : (Code.region id l.toArray true).wpIn (Fence.wide.inRound r) m P Q a w := by
  refine wpIn_region_any hm ?_
  have e : l.toArray.size = n := by simpa using hn
  rw [e]
  exact anyIn_of hnd hno _ _ _ _ (wpAny_of_held _ _ _ _ (h hS))
theorem wpIn_region_lastL {l : List Oper} {id r m : Nat} {a : Act} {w : World} (L n : Nat) (hm : P.follows .mixedOrders = true) (hn : l.length = n + 1) (ho : l[L]? = some o) (hg : o.guard = none) (hok : lastOk l.toArray L = true) (hnd : noDefer l.toArray = true) (hno : ¬ LetsOut Q) (hS : S w.drew)
    (h : S w.drew → wpAnyH P .any l.toArray (AheadOf P o Q) S n ((Array.replicate (n + 1) false).setIfInBounds L true) a w.drew) : (Code.region id l.toArray true).wpIn (Fence.wide.inRound r) m P Q a w := by
  refine wpIn_region_any hm ?_
  have e : l.toArray.size = n + 1 := by simpa using hn
  have hL : L < l.toArray.size := by
    have := (List.getElem?_eq_some_iff.1 ho).1
    simpa using this
  rw [e]
  refine anyIn_of hnd hno _ _ _ _ ?_
  exact ahead_sound (by simpa using ho) hg hok n (Array.replicate (n + 1) false) a w.drew (by simp [hn]) (by rw [← e]; simp [Array.getD]; simpa using hL) (h hS)
end
end Go.Proofs.Ytgmchedfgdgenaa
