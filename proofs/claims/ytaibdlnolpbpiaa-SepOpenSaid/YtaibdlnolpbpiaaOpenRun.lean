/- Plain law: what the law SepOpen asks of a trail's points, one by one. Conditions: parents that may be, points that are there. -/
import Derived.Test.YtaibdlnolpbpiaaOpenLaw
namespace Go.Proofs.Ytaibdlnolpbpiaa

theorem castL_lenO (L : List Nat) : (castL L).length = L.length := by unfold castL; simp
theorem nth_castO {L : List Nat} {t : Nat} (ht : t < L.length) : nth (castL L) t = ((nth L t : Nat) : Int) := by unfold castL; rw [nth_map _ ht]
theorem not_take {l : List Nat} (h : l.Nodup) {i : Nat} (hi : i < l.length) : decide (((nth l i : Nat) : Int) ∈ (castL l).take i) = false := by
  rw [decide_eq_false_iff_not]
  intro hx
  unfold castL at hx
  rw [← List.map_take] at hx
  obtain ⟨y, hy, e⟩ := List.mem_map.1 hx
  have e2 : y = nth l i := by omega
  subst e2
  rw [List.mem_take_iff_getElem] at hy
  obtain ⟨j, hj, e3⟩ := hy
  rw [nth_eq hi] at e3
  exact absurd e3 (List.pairwise_iff_getElem.1 h j i (by omega) hi (by omega))
theorem mend_mem {Ms : List (List Int)} (hm : Mend Ms) {i p : Nat} (hi : i < Ms.length) : p ∈ nth (toG Ms) i ↔ (p : Int) ∈ nth Ms i := by
  rw [nth_toG hi]
  constructor
  · intro h
    obtain ⟨q, hq, rfl⟩ := List.mem_map.1 h
    have := (hm i hi).1 q hq
    rwa [show ((q.toNat : Nat) : Int) = q by omega]
  · intro h
    exact List.mem_map.2 ⟨_, h, by simp⟩
section
variable {Ms : List (List Int)} {g : List Int} {a b : Nat} {r : List Nat}
theorem TrailOk.joined (h : TrailOk Ms g a b r) (hm : Mend Ms) {i : Nat} (hi : i + 1 < r.length) : decide (((nth r i : Nat) : Int) ∈ nth Ms (nth r (i + 1))) = true ∨ decide (((nth r (i + 1) : Nat) : Int) ∈ nth Ms (nth r i)) = true := by
  have h1 := h.lt _ (nth_mem (show i < r.length by omega))
  have h2 := h.lt _ (nth_mem hi)
  rcases h.adj i hi with h3 | h3
  · exact .inl (decide_eq_true ((mend_mem hm h2).1 h3))
  · exact .inr (decide_eq_true ((mend_mem hm h1).1 h3))
/-- whether two ways meet at a point -/
def meetB (Ms : List (List Int)) (r : List Nat) (i : Nat) : Bool := decide (((nth r i : Nat) : Int) ∈ nth Ms (nth r (i + 1))) && decide (((nth r (i + 2) : Nat) : Int) ∈ nth Ms (nth r (i + 1)))
theorem TrailOk.shut (h : TrailOk Ms g a b r) (hm : Mend Ms) {i : Nat} (hi : i + 2 < r.length) (hb : meetB Ms r i = false) : decide (((nth r (i + 1) : Nat) : Int) ∈ g) = false := by
  have h2 := h.lt _ (nth_mem (show i + 1 < r.length by omega))
  have ho := h.opn i hi
  unfold Opn at ho
  rw [if_neg] at ho
  · unfold Zp zB at ho
    rw [decide_eq_false_iff_not]; intro hx; exact ho (decide_eq_true hx)
  · rintro ⟨h3, h4⟩
    unfold meetB at hb
    rw [decide_eq_true ((mend_mem hm h2).1 h3), decide_eq_true ((mend_mem hm h2).1 h4)] at hb
    cases hb
/-- whether one of the first points that lie below a point is given -/
noncomputable def seenB (Ms : List (List Int)) (g : List Int) (p k : Nat) : Bool := ((upList (kids (toG Ms)) [p]).take k).any fun z => decide ((z : Int) ∈ g)
theorem seenB_next {p k : Nat} (hk : k < (upList (kids (toG Ms)) [p]).length) : seenB Ms g p (k + 1) = (seenB Ms g p k || decide (((nth (upList (kids (toG Ms)) [p]) k : Nat) : Int) ∈ g)) := by
  unfold seenB
  exact any_take_succ (fun (z : Nat) => decide ((z : Int) ∈ g)) hk
theorem TrailOk.met (h : TrailOk Ms g a b r) (hm : Mend Ms) (hg : InN Ms.length g) {i : Nat} (hi : i + 2 < r.length) (hb : meetB Ms r i = true) : seenB Ms g (nth r (i + 1)) (upList (kids (toG Ms)) [nth r (i + 1)]).length = true := by
  have h2 := h.lt _ (nth_mem (show i + 1 < r.length by omega))
  have hgood := good_toG (checkP_ok (mend_check hm)).1
  have hin : ∀ z, z ∈ g → 0 ≤ z ∧ z < ((toG Ms).length : Int) := fun z hz => by rw [toG_length]; exact hg z hz
  unfold meetB at hb
  rw [Bool.and_eq_true, decide_eq_true_iff, decide_eq_true_iff] at hb
  have ho := h.opn i hi
  unfold Opn at ho
  rw [if_pos ⟨(mend_mem hm h2).2 hb.1, (mend_mem hm h2).2 hb.2⟩, ap_up hgood hin] at ho
  obtain ⟨z, hz, hu⟩ := (up_down hgood (fun x hx => by
    unfold Zp zB at hx
    have := hin _ (of_decide_eq_true hx)
    omega)).1 ho
  unfold seenB
  rw [List.take_length, List.any_eq_true]
  refine ⟨z, (mem_upList (good_kids _) (fun x hx => by rw [List.mem_singleton] at hx; subst hx; rw [kids_length, toG_length]; exact h2)).2 ?_, hz⟩
  exact Up.mono (fun x hx => by subst hx; simp) hu
end
end Go.Proofs.Ytaibdlnolpbpiaa
