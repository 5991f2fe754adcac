/- Plain law: what is barren and what is kept of the chapter's points. No condition. -/
import Derived.Test.YtdlnglffimcopaaPruneLaw
import Derived.Test.YtdlnglffimcopaaSmall
namespace Go.Proofs.Ytdlnglffimcopaa

abbrev chapP : List (List Int) := [[], [0], [1], [1], [3]]
abbrev chapG : List (List Nat) := [[], [0], [1], [1], [3]]
theorem chap_G : toG chapP = chapG := rfl
theorem chap_check : checkP chapP = 0 := checkP_0 (by decide) (by decide) ⟨id, by decide⟩
theorem chap_above (l : List Int) (h : inRow 5 l = true) : aboveE chapP l = 0 := by unfold aboveE; rw [if_neg (by rw [chap_check]; simp), if_pos (show inRow chapP.length l = true from h)]
theorem chap_up2 : upList chapG (([2] : List Int).map Int.toNat) = [0, 1, 2] := up_calc (L := [2, 1, 0]) (by decide) (by decide) (by decide) (by decide) (by decide) (by decide)
theorem chap_up24 : upList chapG (([2, 4] : List Int).map Int.toNat) = [0, 1, 2, 3, 4] := up_calc (L := [2, 4, 1, 3, 0]) (by decide) (by decide) (by decide) (by decide) (by decide) (by decide)
theorem bare_calc {Ps : List (List Int)} {l : List Int} {U : List Nat} (h : upList (toG Ps) (l.map Int.toNat) = U) : bareL Ps l = (List.range Ps.length).filter fun v => !decide (v ∈ U) := by
  unfold bareL bareTo
  rw [h]
  refine (ptsOf_eq (rising_filter _ _) fun x => ?_).symm
  simp
theorem chap_bare : bareL chapP ([2] ++ []) = [3, 4] := by rw [bare_calc (Ps := chapP) (l := [2] ++ []) (U := [0, 1, 2]) (by rw [chap_G]; exact chap_up2)]; rfl
theorem chap_bare2 : bareL chapP ([2] ++ [4]) = [] := by rw [bare_calc (Ps := chapP) (l := [2] ++ [4]) (U := [0, 1, 2, 3, 4]) (by rw [chap_G]; exact chap_up24)]; rfl
theorem chap_kept2 : keptL chapP [2] [4] true false = [0, 1, 2, 3, 4] := by
  unfold keptL keptTo
  rw [show chapP.length = 5 from rfl]
  have : ∀ v, leaveB chapP [2] [4] true false v = false := fun v => by unfold leaveB; rw [chap_bare2]; simp
  simp only [this]
  rfl
theorem chap_open : openL [2] [1, 4] = [2] := by decide
theorem chap_look (v : Nat) (hv : v < 5) : lookE (widerP chapP v) [1, 4] ([5] ++ [2]) = 0 := by
  have := wider_look (Ps := chapP) (v := v) (asked := [2]) (given := [1, 4]) chap_check hv (inRow_iff.1 (by decide)) (inRow_iff.1 (by decide))
  rwa [chap_open] at this
theorem chap_t {v : Nat} {G : List (List Nat)} {U : List Nat} {S : List St} (hG : toG (widerP chapP v) = G) (hU : upList G (([1, 4] : List Int).map Int.toNat) = U) (h1 : ∀ a : Nat, a ∈ [5] → decide ((a : Int) ∈ ([1, 4] : List Int)) = false → ((a, true) : St) ∈ S) (h2 : ∀ s, s ∈ S → ∀ t, t ∈ nextC G [1, 4] U s → t ∈ S)
    (h3 : ∀ j, j < S.length → ((nth S j).2 = true ∧ (nth S j).1 ∈ [5] ∧ decide (((nth S j).1 : Int) ∈ ([1, 4] : List Int)) = false) ∨ ∃ i, i < j ∧ nth S j ∈ nextC G [1, 4] U (nth S i)) (h4 : ∀ s, s ∈ S → s.1 < G.length) :
    toldC (widerP chapP v) [5] [1, 4] = castL ((List.range G.length).filter fun x => (decide (((x, true) : St) ∈ S) || decide (((x, false) : St) ∈ S)) && !decide ((x : Int) ∈ ([1, 4] : List Int))) := by
  unfold toldC
  rw [hG, show ([5] : List Int).map Int.toNat = [5] from rfl, told_calc hU h1 h2 h3 h4]
theorem chap_yes {v : Nat} (hv : v < 5) {T : List Int} (h : toldC (widerP chapP v) [5] [1, 4] = T) (ht : (2 : Int) ∉ T) : apartB (widerP chapP v) [5] [2] [1, 4] = true := by
  rw [apart_iff (chap_look v hv), h]
  intro y hy
  rw [List.mem_singleton] at hy
  subst hy; exact ht
theorem chap_no {v : Nat} (hv : v < 5) {T : List Int} (h : toldC (widerP chapP v) [5] [1, 4] = T) (ht : (2 : Int) ∈ T) : apartB (widerP chapP v) [5] [2] [1, 4] = false := by
  cases hb : apartB (widerP chapP v) [5] [2] [1, 4]
  · rfl
  · rw [apart_iff (chap_look v hv), h] at hb
    exact absurd ht (hb 2 (by simp))
theorem chap_0 : apartB (widerP chapP 0) [5] [2] [1, 4] = true :=
  chap_yes (by omega) (chap_t (v := 0) (G := [[5], [0], [1], [1], [3], []]) (U := [0, 1, 3, 4, 5]) (S := [(5, true), (0, false), (1, false), (0, true)]) rfl (up_calc (L := [1, 4, 0, 3, 5]) (by decide) (by decide) (by decide) (by decide) (by decide) (by decide)) (by decide) (by decide) (by decide) (by decide)) (by decide)
theorem chap_1 : apartB (widerP chapP 1) [5] [2] [1, 4] = true :=
  chap_yes (by omega) (chap_t (v := 1) (G := [[], [0, 5], [1], [1], [3], []]) (U := [0, 1, 3, 4, 5]) (S := [(5, true), (1, false), (0, true)]) rfl (up_calc (L := [1, 4, 0, 3, 5]) (by decide) (by decide) (by decide) (by decide) (by decide) (by decide)) (by decide) (by decide) (by decide) (by decide)) (by decide)
theorem chap_2 : apartB (widerP chapP 2) [5] [2] [1, 4] = false :=
  chap_no (by omega) (chap_t (v := 2) (G := [[], [0], [1, 5], [1], [3], []]) (U := [0, 1, 3, 4]) (S := [(5, true), (2, false)]) rfl (up_calc (L := [1, 4, 0, 3]) (by decide) (by decide) (by decide) (by decide) (by decide) (by decide)) (by decide) (by decide) (by decide) (by decide)) (by decide)
theorem chap_3 : apartB (widerP chapP 3) [5] [2] [1, 4] = true :=
  chap_yes (by omega) (chap_t (v := 3) (G := [[], [0], [1], [1, 5], [3], []]) (U := [0, 1, 3, 4, 5]) (S := [(5, true), (3, false), (1, true), (4, false), (3, true)]) rfl (up_calc (L := [1, 4, 0, 3, 5]) (by decide) (by decide) (by decide) (by decide) (by decide) (by decide)) (by decide) (by decide) (by decide) (by decide)) (by decide)
theorem chap_4 : apartB (widerP chapP 4) [5] [2] [1, 4] = true :=
  chap_yes (by omega) (chap_t (v := 4) (G := [[], [0], [1], [1], [3, 5], []]) (U := [0, 1, 3, 4, 5]) (S := [(5, true), (4, false), (3, true), (1, true)]) rfl (up_calc (L := [1, 4, 0, 3, 5]) (by decide) (by decide) (by decide) (by decide) (by decide) (by decide)) (by decide) (by decide) (by decide) (by decide)) (by decide)
theorem chap_kept1 : keptL chapP [2] [1, 4] false true = [2] := by
  unfold keptL keptTo
  rw [show chapP.length = 5 from rfl, show List.range 5 = [0, 1, 2, 3, 4] from rfl]
  have e : ∀ v, leaveB chapP [2] [1, 4] false true v = apartB (widerP chapP v) [5] [2] [1, 4] := fun v => by unfold leaveB; rw [chap_open]; simp
  simp only [e, List.filter_cons, chap_0, chap_1, chap_2, chap_3, chap_4, List.filter_nil]
  rfl
end Go.Proofs.Ytdlnglffimcopaa
