/- Plain law: what is told, apart, a trail and a blanket in the chapter's small square. No condition. -/
import Derived.Test.YtaibdlnolpbpiaaTrailAll
import Derived.Test.YtaibdlnolpbpiaaApart
import Derived.Test.YtaibdlnolpbpiaaBlank
namespace Go.Proofs.Ytaibdlnolpbpiaa

/-- the states to which an open trail goes on, the points above what is given being known -/
def nextC (G : List (List Nat)) (Z : List Int) (U : List Nat) (s : St) : List St :=
  if (s.2 && decide ((s.1 : Int) ∈ Z)) = true then [] else (if (s.2 || decide (s.1 ∈ U)) = true then (nth G s.1).map (fun p => (p, true)) else []) ++ (if decide ((s.1 : Int) ∈ Z) = true then [] else (nth (kids G) s.1).map (fun p => (p, false)))
theorem nextL_calc {G : List (List Nat)} {Z : List Int} {U : List Nat} (h : upList G (Z.map Int.toNat) = U) (s : St) : nextL G Z s = nextC G Z U s := by
  have e : aB G Z s.1 = decide (s.1 ∈ U) := by
    unfold aB; rw [h, Bool.eq_iff_iff, decide_eq_true_iff, decide_eq_true_iff]; exact mem_castL
  unfold nextL nextC
  rw [e]
  rfl
/-- what lies above some points, by a list in which each is one of them or a parent of an earlier one -/
theorem up_calc {G : List (List Nat)} {S L U : List Nat} (hr : Rising U) (hm : (∀ x, x ∈ U → x ∈ L) ∧ ∀ x, x ∈ L → x ∈ U) (h1 : ∀ x, x ∈ S → x ∈ L) (h2 : ∀ x, x ∈ L → ∀ p, p ∈ nth G x → p ∈ L)
    (h3 : ∀ j, j < L.length → nth L j ∈ S ∨ ∃ i, i < j ∧ nth L j ∈ nth G (nth L i)) (h4 : ∀ x, x ∈ L → x < G.length) : upList G S = U := by
  have h5 : ∀ j, j < L.length → Up G (· ∈ S) (nth L j) := fun j => by
    induction j using Nat.strongRecOn with
    | ind j ih =>
      intro hj
      rcases h3 j hj with h | ⟨i, hi, h⟩
      · exact .base h
      · exact .step (ih i hi (by omega)) h
  have h6 : ∀ x, x ∈ L ↔ Up G (· ∈ S) x := fun x => ⟨fun h => by obtain ⟨j, hj, rfl⟩ := mem_nth h; exact h5 j hj, fun h => by
    induction h with
    | base h => exact h1 _ h
    | step _ hp ih => exact h2 _ ih _ hp⟩
  unfold upList
  refine (ptsOf_eq hr fun x => ?_).symm
  rw [← h6]
  exact ⟨fun h => ⟨h4 x (hm.1 x h), hm.1 x h⟩, fun h => hm.2 x h.2⟩
/-- what is told, by a list of states in which each is a first one or a next one of an earlier one -/
theorem told_calc {G : List (List Nat)} {Z : List Int} {U xs : List Nat} {S : List St} (hU : upList G (Z.map Int.toNat) = U) (h1 : ∀ a, a ∈ xs → decide ((a : Int) ∈ Z) = false → ((a, true) : St) ∈ S) (h2 : ∀ s, s ∈ S → ∀ t, t ∈ nextC G Z U s → t ∈ S)
    (h3 : ∀ j, j < S.length → ((nth S j).2 = true ∧ (nth S j).1 ∈ xs ∧ decide (((nth S j).1 : Int) ∈ Z) = false) ∨ ∃ i, i < j ∧ nth S j ∈ nextC G Z U (nth S i)) (h4 : ∀ s, s ∈ S → s.1 < G.length) :
    toldL G Z xs = (List.range G.length).filter fun x => (decide (((x, true) : St) ∈ S) || decide (((x, false) : St) ∈ S)) && !decide ((x : Int) ∈ Z) := by
  have h5 : ∀ j, j < S.length → CameS G Z xs (nth S j) := fun j => by
    induction j using Nat.strongRecOn with
    | ind j ih =>
      intro hj
      rcases h3 j hj with ⟨e1, e2, e3⟩ | ⟨i, hi, h⟩
      · refine ⟨(nth S j).1, 0, e2, e3, ?_⟩
        have : (((nth S j).1, true) : St) = nth S j := by rw [← e1]
        rw [this]; exact .refl _
      · obtain ⟨a, m, g1, g2, g3⟩ := ih i hi (by omega)
        rw [← nextL_calc hU] at h
        exact ⟨a, m + 1, g1, g2, g3.snoc ((mem_nextL (h4 _ (nth_mem (by omega)))).1 h)⟩
  have h6 : ∀ s, s ∈ S ↔ CameS G Z xs s := fun s => ⟨fun h => by obtain ⟨j, hj, rfl⟩ := mem_nth h; exact h5 j hj, fun h => by
    obtain ⟨a, m, g1, g2, g3⟩ := h
    have g4 := h1 a g1 g2
    clear g1 g2
    generalize ((a, true) : St) = r at g3 g4
    induction g3 with
    | refl => exact g4
    | snoc _ hx ih => exact h2 _ (ih g4) _ (by rw [← nextL_calc hU]; exact (mem_nextL (h4 _ (ih g4))).2 hx)⟩
  unfold toldL
  refine (ptsOf_eq (rising_filter _ _) fun x => ?_).symm
  rw [List.mem_filter, List.mem_range, Bool.and_eq_true, Bool.or_eq_true, decide_eq_true_iff, decide_eq_true_iff, Bool.not_eq_true']
  constructor
  · rintro ⟨hx, h, hz⟩
    refine ⟨hx, ?_, hz⟩
    rcases h with h | h
    · exact ⟨true, (h6 _).1 h⟩
    · exact ⟨false, (h6 _).1 h⟩
  · rintro ⟨hx, ⟨u, hu⟩, hz⟩
    refine ⟨hx, ?_, hz⟩
    have := (h6 _).2 hu
    cases u
    · exact .inr this
    · exact .inl this

abbrev smallP : List (List Int) := [[], [0], [0], [1, 2], [3]]
abbrev smallG : List (List Nat) := [[], [0], [0], [1, 2], [3]]
theorem small_G : toG smallP = smallG := rfl
theorem small_acyc : Acyc smallG := ⟨id, by decide⟩
theorem small_check : checkP smallP = 0 := checkP_0 (by decide) (by decide) small_acyc
theorem small_look (given named : List Int) (h1 : inRow 5 given = true) (h2 : inRow 5 named = true) : lookE smallP given named = 0 := lookE_ok small_check h1 h2
theorem up_0 : upList smallG (([0] : List Int).map Int.toNat) = [0] := up_calc (L := [0]) (by decide) (by decide) (by decide) (by decide) (by decide) (by decide)
theorem up_04 : upList smallG (([0, 4] : List Int).map Int.toNat) = [0, 1, 2, 3, 4] := up_calc (L := [0, 4, 3, 1, 2]) (by decide) (by decide) (by decide) (by decide) (by decide) (by decide)
theorem told_1_0 : toldC smallP [1] [0] = [1, 3, 4] := by
  unfold toldC
  rw [small_G, show ([1] : List Int).map Int.toNat = [1] from rfl, told_calc (S := [(1, true), (0, true), (3, false), (4, false)]) up_0 (by decide) (by decide) (by decide) (by decide)]
  rfl
theorem told_1_04 : toldC smallP [1] [0, 4] = [1, 2, 3] := by
  unfold toldC
  rw [small_G, show ([1] : List Int).map Int.toNat = [1] from rfl, told_calc (S := [(1, true), (0, true), (3, false), (1, true), (2, true), (4, false), (3, true)]) up_04 (by decide) (by decide) (by decide) (by decide)]
  rfl
theorem apart_1_2_0 : apartB smallP [1] [2] [0] = true := by
  unfold apartB
  rw [if_pos (small_look _ _ (by decide) (by decide)), told_1_0]
  decide
theorem apart_1_2_04 : apartB smallP [1] [2] [0, 4] = false := by
  unfold apartB
  rw [if_pos (small_look _ _ (by decide) (by decide)), told_1_04]
  decide
theorem best_1_2_04 : bestO smallG [0, 4] 1 2 = some [1, 3, 2] := by
  have hA3 : Ap smallG [0, 4] 3 := by
    unfold Ap aB
    rw [up_04]
    decide
  refine bestO_eq ⟨fun e => (by cases e), fun t e => ?_⟩
  injection e with e
  subst e
  refine ⟨by unfold Zp; decide, by unfold Zp; decide, ⟨[3, 1], .more (.two (by decide) (.inr (by decide)) (by decide)) (by decide) (.inl (by decide)) (by decide) (by unfold Opn; rw [if_pos ⟨by decide, by decide⟩]; exact hA3), rfl⟩, fun l hl => ?_⟩
  cases hl with
  | two h1 h2 h3 => revert h2; decide
  | @more q p n l' h1 h2 h3 h4 h5 =>
    cases h1 with
    | two g1 g2 g3 =>
      have g1' : p < 5 := g1
      rcases (show p = 0 ∨ p = 1 ∨ p = 2 ∨ p = 3 ∨ p = 4 by omega) with rfl | rfl | rfl | rfl | rfl
      · exfalso
        unfold Opn at h5
        rw [if_neg (by decide)] at h5
        exact h5 (by unfold Zp; decide)
      · exfalso; revert g3; decide
      · exfalso; revert h4; decide
      · decide
      · decide
    | more g1 _ _ _ _ =>
      unfold lessL
      rw [if_neg (by simp), decide_eq_false_iff_not]
      simp
theorem trail_1_2_04 : trailW smallP 1 2 [0, 4] = [1, 3, 2] := by
  unfold trailW
  rw [if_pos (small_look _ _ (by decide) (by decide)), small_G]
  show castL ((bestO smallG [0, 4] 1 2).getD []) = _
  rw [best_1_2_04]
  rfl
theorem blanket_1 : castL (ptsOf 5 (Bl smallG 1)) = [0, 2, 3] := by
  have : ptsOf 5 (Bl smallG 1) = [0, 2, 3] := (ptsOf_eq (by decide) fun x => by
    constructor
    · intro h
      simp only [List.mem_cons, List.not_mem_nil, or_false] at h
      rcases h with rfl | rfl | rfl
      · exact ⟨by decide, by decide, .inl (by decide)⟩
      · exact ⟨by decide, by decide, .inr ⟨3, by decide, by decide, .inr (by decide)⟩⟩
      · exact ⟨by decide, by decide, .inr ⟨3, by decide, by decide, .inl rfl⟩⟩
    · rintro ⟨hx, hne, h⟩
      rcases (show x = 0 ∨ x = 1 ∨ x = 2 ∨ x = 3 ∨ x = 4 by omega) with rfl | rfl | rfl | rfl | rfl
      · decide
      · exact absurd rfl hne
      · decide
      · decide
      · exfalso
        rcases h with h | ⟨c, hc, h1, h2⟩
        · revert h; decide
        · have hc5 : c < 5 := hc
          rcases (show c = 0 ∨ c = 1 ∨ c = 2 ∨ c = 3 ∨ c = 4 by omega) with rfl | rfl | rfl | rfl | rfl <;> (revert h1 h2; decide)).symm
  rw [this]
  rfl
end Go.Proofs.Ytaibdlnolpbpiaa
