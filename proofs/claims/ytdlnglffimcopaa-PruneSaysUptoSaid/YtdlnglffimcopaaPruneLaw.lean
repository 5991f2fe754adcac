/- Plain law: which points a question needs: what hangs on nothing that is asked or given; parents with a new point above one of them. No condition. -/
import Derived.Test.YtdlnglffimcopaaEvenLaw
namespace Go.Proofs.Ytdlnglffimcopaa

/-- points that hang on nothing of some -/
noncomputable def bareTo (Ps : List (List Int)) (pts : List Int) (k : Nat) : List Nat := ptsOf k fun v => v ∉ upList (toG Ps) (pts.map Int.toNat)
noncomputable def bareL (Ps : List (List Int)) (pts : List Int) : List Nat := bareTo Ps pts Ps.length
/-- parents, with a new point above v -/
def widerP (Ps : List (List Int)) (v : Nat) : List (List Int) := Ps.set v (nth Ps v ++ [(Ps.length : Int)]) ++ [[]]
/-- what is asked and not given -/
def openL (asked given : List Int) : List Int := asked.filter fun x => !decide (x ∈ given)
/-- is a point left out? -/
noncomputable def leaveB (Ps : List (List Int)) (asked given : List Int) (br ap : Bool) (v : Nat) : Bool := (br && decide (v ∈ bareL Ps (asked ++ given))) || (ap && apartB (widerP Ps v) [(Ps.length : Int)] (openL asked given) given)
noncomputable def keptTo (Ps : List (List Int)) (asked given : List Int) (br ap : Bool) (k : Nat) : List Nat := (List.range k).filter fun v => !leaveB Ps asked given br ap v
noncomputable def keptL (Ps : List (List Int)) (asked given : List Int) (br ap : Bool) : List Nat := keptTo Ps asked given br ap Ps.length

theorem ptsOf_next (n : Nat) (P : Nat → Prop) [Decidable (P n)] : ptsOf (n + 1) P = ptsOf n P ++ if P n then [n] else [] := by
  unfold ptsOf
  rw [List.range_succ, List.filter_append]
  by_cases h : P n <;> simp [h]
theorem bareTo_skip {Ps : List (List Int)} {pts : List Int} {k : Nat} (h : k ∈ upList (toG Ps) (pts.map Int.toNat)) : bareTo Ps pts (k + 1) = bareTo Ps pts k := by
  classical
  unfold bareTo
  rw [ptsOf_next, if_neg (by simpa using h), List.append_nil]
theorem bareTo_take {Ps : List (List Int)} {pts : List Int} {k : Nat} (h : k ∉ upList (toG Ps) (pts.map Int.toNat)) : bareTo Ps pts (k + 1) = bareTo Ps pts k ++ [k] := by
  classical
  unfold bareTo
  rw [ptsOf_next, if_pos h]
theorem bareTo_length (Ps : List (List Int)) (pts : List Int) (k : Nat) : (bareTo Ps pts k).length ≤ k := ptsOf_length_le _ _
theorem keptTo_skip {Ps : List (List Int)} {asked given : List Int} {br ap : Bool} {k : Nat} (h : leaveB Ps asked given br ap k = true) : keptTo Ps asked given br ap (k + 1) = keptTo Ps asked given br ap k := by
  unfold keptTo
  rw [List.range_succ, List.filter_append]
  simp [h]
theorem keptTo_take {Ps : List (List Int)} {asked given : List Int} {br ap : Bool} {k : Nat} (h : leaveB Ps asked given br ap k = false) : keptTo Ps asked given br ap (k + 1) = keptTo Ps asked given br ap k ++ [k] := by
  unfold keptTo
  rw [List.range_succ, List.filter_append]
  simp [h]
theorem keptTo_length (Ps : List (List Int)) (asked given : List Int) (br ap : Bool) (k : Nat) : (keptTo Ps asked given br ap k).length ≤ k := by
  unfold keptTo
  have := List.length_filter_le (fun v => !leaveB Ps asked given br ap v) (List.range k)
  simpa using this
/-- what is left of a rising list from a number on -/
def restUp (L : List Nat) (v : Nat) : List Nat := L.filter fun x => decide (v ≤ x)
theorem restUp_zero (L : List Nat) : restUp L 0 = L := by unfold restUp; simp
theorem restUp_skip {L : List Nat} {v : Nat} (h : v ∉ L) : restUp L (v + 1) = restUp L v := by
  unfold restUp
  refine List.filter_congr fun x hx => ?_
  rw [decide_eq_decide]
  have : x ≠ v := fun e => h (e ▸ hx)
  omega
theorem restUp_take : ∀ {L : List Nat} {v : Nat}, Rising L → v ∈ L → restUp L v = v :: restUp L (v + 1)
  | [], v, _, h => by cases h
  | x :: L, v, hr, h => by
    have hr2 : Rising L := (List.pairwise_cons.1 hr).2
    have hx : ∀ y, y ∈ L → x < y := (List.pairwise_cons.1 hr).1
    unfold restUp
    rw [List.filter_cons, List.filter_cons]
    rcases List.mem_cons.1 h with rfl | h1
    · rw [if_pos (by simp), if_neg (by simp)]
      congr 1
      refine List.filter_congr fun y hy => ?_
      rw [decide_eq_decide]
      have := hx y hy
      omega
    · have := hx v h1
      rw [if_neg (by simp; omega), if_neg (by simp; omega)]
      exact restUp_take hr2 h1
theorem restUp_head {L : List Nat} {v x : Nat} {R : List Nat} (h : restUp L v = x :: R) : x ∈ L ∧ v ≤ x := by
  have : x ∈ restUp L v := by rw [h]; exact List.mem_cons_self ..
  unfold restUp at this
  rw [List.mem_filter, decide_eq_true_iff] at this
  exact this
section
variable {Ps : List (List Int)} {v : Nat}
theorem widerP_length : (widerP Ps v).length = Ps.length + 1 := by unfold widerP; simp
theorem nth_widerP_v (hv : v < Ps.length) : nth (widerP Ps v) v = nth Ps v ++ [(Ps.length : Int)] := by
  unfold widerP; rw [nth_append_left (by simpa using hv), nth_set_same hv]
theorem nth_widerP_other {i : Nat} (hi : i < Ps.length) (hne : i ≠ v) : nth (widerP Ps v) i = nth Ps i := by
  unfold widerP; rw [nth_append_left (by simpa using hi), nth_set_other (Ne.symm hne)]
theorem nth_widerP_n : nth (widerP Ps v) Ps.length = [] := by
  unfold widerP
  rw [nth_append_right (by simp)]
  simp [nth]
theorem mem_widerP {i : Nat} {p : Int} (hv : v < Ps.length) (hi : i < Ps.length + 1) (h : p ∈ nth (widerP Ps v) i) : (i < Ps.length ∧ p ∈ nth Ps i) ∨ (i = v ∧ p = (Ps.length : Int)) := by
  rcases Nat.lt_or_ge i Ps.length with h1 | h1
  · by_cases e : i = v
    · subst e
      rw [nth_widerP_v hv, List.mem_append, List.mem_singleton] at h
      exact h.imp (fun h => ⟨h1, h⟩) (fun h => ⟨rfl, h⟩)
    · rw [nth_widerP_other h1 e] at h
      exact .inl ⟨h1, h⟩
  · obtain rfl : i = Ps.length := by omega
    rw [nth_widerP_n] at h
    cases h
theorem wider_check (hc : checkP Ps = 0) (hv : v < Ps.length) : checkP (widerP Ps v) = 0 := by
  obtain ⟨h1, h2, r, h3⟩ := checkP_ok hc
  have hin : ∀ i, i < Ps.length → ∀ p, p ∈ nth Ps i → 0 ≤ p ∧ p < (Ps.length : Int) := fun i hi => inR_row h1 hi
  refine checkP_0 ?_ ?_ ⟨fun x => if x = Ps.length then 0 else r x + 1, fun i hi p hp => ?_⟩
  · unfold inR
    rw [List.all_eq_true]
    intro l hl
    obtain ⟨i, hi, rfl⟩ := mem_nth hl
    rw [widerP_length] at hi ⊢
    refine inRow_iff.2 fun p hp => ?_
    rcases mem_widerP hv hi hp with ⟨g1, g2⟩ | ⟨_, g2⟩
    · have := hin i g1 p g2; omega
    · omega
  · rw [List.any_eq_false]
    intro l hl
    obtain ⟨i, hi, rfl⟩ := mem_nth hl
    rw [widerP_length] at hi
    have hnd : ∀ i, i < Ps.length → (nth Ps i).Nodup := fun i hi => dup_nodup (by
      have := List.any_eq_false.1 h2 _ (nth_mem hi)
      simpa using this)
    rw [nodup_dup]
    · simp
    rcases Nat.lt_or_ge i Ps.length with g1 | g1
    · by_cases e : i = v
      · subst e
        rw [nth_widerP_v hv, List.nodup_append]
        refine ⟨hnd i g1, by simp, fun a ha b hb e => ?_⟩
        rw [List.mem_singleton] at hb
        have := hin i g1 a ha
        omega
      · rw [nth_widerP_other g1 e]; exact hnd i g1
    · obtain rfl : i = Ps.length := by omega
      rw [nth_widerP_n]; exact List.nodup_nil
  · rw [toG_length, widerP_length] at hi
    rw [nth_toG (by rw [widerP_length]; exact hi)] at hp
    obtain ⟨q, hq, rfl⟩ := List.mem_map.1 hp
    rcases mem_widerP hv hi hq with ⟨g1, g2⟩ | ⟨g1, g2⟩
    · have := hin i g1 q g2
      have := h3 i (by rw [toG_length]; exact g1) q.toNat (by rw [nth_toG g1]; exact List.mem_map.2 ⟨q, g2, rfl⟩)
      show (if q.toNat = Ps.length then 0 else r q.toNat + 1) < if i = Ps.length then 0 else r i + 1
      rw [if_neg (by omega), if_neg (by omega)]
      omega
    · subst g1 g2
      show (if (Ps.length : Int).toNat = Ps.length then 0 else r (Ps.length : Int).toNat + 1) < if i = Ps.length then 0 else r i + 1
      rw [if_pos (by simp), if_neg (by omega)]
      omega
theorem openL_in {n : Nat} {asked given : List Int} (h : InN n asked) : InN n (openL asked given) := fun x hx => h x (List.mem_filter.1 hx).1
theorem InN.mono {n m : Nat} {l : List Int} (h : InN n l) (hm : n ≤ m) : InN m l := fun x hx => by have := h x hx; omega
theorem wider_look {asked given : List Int} (hc : checkP Ps = 0) (hv : v < Ps.length) (ha : InN Ps.length asked) (hg : InN Ps.length given) : lookE (widerP Ps v) given ([(Ps.length : Int)] ++ openL asked given) = 0 := by
  refine lookE_ok (wider_check hc hv) (InN.row ?_) (InN.row (InN.app ?_ ?_))
  · rw [widerP_length]; exact hg.mono (by omega)
  · rw [widerP_length]; exact fun x hx => by rw [List.mem_singleton] at hx; omega
  · rw [widerP_length]; exact (openL_in ha).mono (by omega)
end
end Go.Proofs.Ytdlnglffimcopaa
