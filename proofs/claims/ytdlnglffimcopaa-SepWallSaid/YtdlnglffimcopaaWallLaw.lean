/- Plain law: given its blanket a point tells of itself alone, and given all but one of it that one is told of. Condition: parents that hang on points ahead. -/
import Derived.Test.YtdlnglffimcopaaEvenLaw
import Derived.Test.YtdlnglffimcopaaBlank
namespace Go.Proofs.Ytdlnglffimcopaa

section
variable {Ps : List (List Int)}
theorem mend_good (h : Mend Ps) : GoodG (toG Ps) := good_toG (checkP_ok (mend_check h)).1
/-- told, as a way in the moral graph -/
theorem told_mor {a b given : List Int} (hm : Mend Ps) (hb : InN Ps.length b) (hg : InN Ps.length given) : (∃ y, y ∈ b ∧ y ∈ toldC Ps a given) ↔ ∃ p, p ∈ b.map Int.toNat ∧ Mor (toG Ps) (InM (toG Ps) (Zp given) (· ∈ a.map Int.toNat) (· ∈ b.map Int.toNat)) (Zp given) (· ∈ a.map Int.toNat) p := by
  rw [told_hit hb]
  have hin : ∀ z, z ∈ given → 0 ≤ z ∧ z < ((toG Ps).length : Int) := fun z hz => by rw [toG_length]; exact hg z hz
  exact moral_iff (abOk (mend_good hm) hin) (ap_up (mend_good hm) hin)
theorem mend_nat (hm : Mend Ps) {i p : Nat} (h : p ∈ nth (toG Ps) i) : p < i ∧ i < Ps.length := by
  have hi := len_of_mem h
  rw [toG_length] at hi
  rw [nth_toG hi] at h
  obtain ⟨q, hq, rfl⟩ := List.mem_map.1 h
  have := (hm i hi).1 q hq
  omega
/-- a point's blanket -/
noncomputable def blC (Ps : List (List Int)) (x : Int) : List Int := castL (ptsOf Ps.length (Bl (toG Ps) x.toNat))
theorem mem_blC {x y : Int} : y ∈ blC Ps x ↔ ∃ p : Nat, y = (p : Int) ∧ p < Ps.length ∧ Bl (toG Ps) x.toNat p := by
  unfold blC castL
  rw [List.mem_map]
  constructor
  · rintro ⟨p, hp, rfl⟩; exact ⟨p, rfl, (mem_ptsOf.1 hp).1, (mem_ptsOf.1 hp).2⟩
  · rintro ⟨p, rfl, h1, h2⟩; exact ⟨p, mem_ptsOf.2 ⟨h1, h2⟩, rfl⟩
theorem blC_length (x : Int) : (blC Ps x).length ≤ Ps.length := by
  unfold blC castL
  rw [List.length_map]
  exact ptsOf_length_le _ _
theorem blC_in (x : Int) : InN Ps.length (blC Ps x) := fun y hy => by
  obtain ⟨p, rfl, h1, _⟩ := mem_blC.1 hy
  omega
theorem blC_nodup (x : Int) : (blC Ps x).Nodup := by
  unfold blC castL
  have h := rising_ptsOf Ps.length (Bl (toG Ps) x.toNat)
  have h2 : (ptsOf Ps.length (Bl (toG Ps) x.toNat)).Nodup := by
    unfold ptsOf
    exact List.Nodup.sublist List.filter_sublist List.nodup_range
  rw [List.Nodup, List.pairwise_map]
  exact h2.imp fun h e => h (by omega)
theorem self_blC {x : Int} (hx : 0 ≤ x) : x ∉ blC Ps x := fun h => by
  obtain ⟨p, hp, _, h2, _⟩ := mem_blC.1 h
  exact h2 (by omega)
theorem zp_iff {g : List Int} {p : Nat} : Zp g p ↔ (p : Int) ∈ g := by
  unfold Zp zB
  rw [decide_eq_true_iff]
/-- given its blanket, of itself alone -/
theorem wall_told (hm : Mend Ps) {x : Int} (hx : 0 ≤ x ∧ x < (Ps.length : Int)) : toldC Ps [x] (blC Ps x) = [x] := by
  have key : ∀ y : Int, y ∈ toldC Ps [x] (blC Ps x) ↔ y = x := by
    intro y
    constructor
    · intro hy
      obtain ⟨z, rfl, hz, _, _⟩ := mem_toldC.1 hy
      obtain ⟨p, hp, hmor⟩ := (told_mor (b := [(z : Int)]) hm (fun t ht => by rw [List.mem_singleton] at ht; subst ht; omega) (blC_in x)).1 ⟨_, by simp, hy⟩
      simp only [List.map_cons, List.map_nil, List.mem_singleton, Int.toNat_natCast] at hp
      subst hp
      have : p = x.toNat := by
        generalize hIn : InM (toG Ps) _ _ _ = In at hmor
        clear hIn hy
        have go : ∀ q, Mor (toG Ps) In (Zp (blC Ps x)) (· ∈ [x].map Int.toNat) q → q = x.toNat := by
          intro q h
          induction h with
          | base h _ => simpa using h
          | @step u v _ hj _ hz ih =>
            subst ih
            rcases Classical.em (v = x.toNat) with e | e
            · exact e
            exfalso
            apply hz
            rw [zp_iff, mem_blC]
            rcases hj with h1 | h1 | ⟨c, _, h1, h2⟩
            · have := mend_nat hm h1
              exact ⟨v, rfl, by omega, e, .inr ⟨v, by rw [toG_length]; omega, h1, .inl rfl⟩⟩
            · have := mend_nat hm h1
              exact ⟨v, rfl, by omega, e, .inl h1⟩
            · have k1 := mend_nat hm h1
              have k2 := mend_nat hm h2
              exact ⟨v, rfl, by omega, e, .inr ⟨c, by rw [toG_length]; omega, h1, .inr h2⟩⟩
        exact go _ hmor
      omega
    · rintro rfl
      obtain ⟨y, h1, h2⟩ := (told_mor (a := [y]) (b := [y]) (given := blC Ps y) hm (fun t ht => by rw [List.mem_singleton] at ht; subst ht; exact hx) (blC_in y)).2 ⟨y.toNat, by simp, .base (by simp) (fun h => by rw [zp_iff, Int.toNat_of_nonneg hx.1] at h; exact self_blC hx.1 h)⟩
      rw [List.mem_singleton] at h1
      subst h1
      exact h2
  have hr : toldC Ps [x] (blC Ps x) = castL (ptsOf Ps.length fun z => z = x.toNat) := by
    unfold toldC toldL
    rw [toG_length]
    congr 1
    apply ptsOf_congr
    intro z hz
    have k := key (z : Int)
    rw [mem_toldC] at k
    constructor
    · rintro ⟨h1, h2⟩
      have := k.1 ⟨z, rfl, hz, h1, h2⟩
      omega
    · intro h
      obtain ⟨z', e, _, h1, h2⟩ := k.2 (by omega)
      obtain rfl : z' = z := by omega
      exact ⟨h1, h2⟩
  rw [hr, ← ptsOf_eq (l := [x.toNat]) (List.pairwise_singleton _ _) (fun z => by rw [List.mem_singleton]; omega)]
  show [((x.toNat : Nat) : Int)] = [x]
  rw [Int.toNat_of_nonneg hx.1]
/-- given all but one of it, of that one -/
theorem wall_not (hm : Mend Ps) {x : Int} (hx : 0 ≤ x ∧ x < (Ps.length : Int)) {i : Nat} (hi : i < (blC Ps x).length) : apartB Ps [x] [nth (blC Ps x) i] ((blC Ps x).take i ++ (blC Ps x).drop (i + 1)) = false := by
  obtain ⟨p, hp, hpn, hne, hbl⟩ := mem_blC.1 (nth_mem hi)
  obtain ⟨rest, hrest⟩ : ∃ rest, rest = (blC Ps x).take i ++ (blC Ps x).drop (i + 1) := ⟨_, rfl⟩
  rw [← hrest]
  have hsub : ∀ y, y ∈ rest → y ∈ blC Ps x := fun y hy => by
    rw [hrest] at hy
    rcases List.mem_append.1 hy with h | h
    · exact List.mem_of_mem_take h
    · exact List.mem_of_mem_drop h
  have hsplit : blC Ps x = (blC Ps x).take i ++ nth (blC Ps x) i :: (blC Ps x).drop (i + 1) := by
    rw [nth_eq hi, ← List.drop_eq_getElem_cons hi, List.take_append_drop]
  have hnd := blC_nodup (Ps := Ps) x
  rw [hsplit, List.nodup_append] at hnd
  obtain ⟨_, hnd2, hnd3⟩ := hnd
  rw [List.nodup_cons] at hnd2
  have hout : nth (blC Ps x) i ∉ rest := fun h => by
    rw [hrest] at h
    rcases List.mem_append.1 h with h | h
    · exact hnd3 _ h _ (List.mem_cons_self ..) rfl
    · exact hnd2.1 h
  have hin : ∀ y, y ∈ blC Ps x → y ≠ nth (blC Ps x) i → y ∈ rest := fun y hy hn => by
    rw [hsplit] at hy
    rw [hrest]
    rcases List.mem_append.1 hy with h | h
    · exact List.mem_append_left _ h
    · rcases List.mem_cons.1 h with h | h
      · exact absurd h hn
      · exact List.mem_append_right _ h
  rw [hp] at hout hin ⊢
  clear hsplit hnd2 hnd3 hi hrest hp
  have hg : InN Ps.length rest := fun y hy => blC_in x y (hsub y hy)
  have hb : InN Ps.length [(p : Int)] := fun t ht => by rw [List.mem_singleton] at ht; subst ht; omega
  have ha : InN Ps.length [x] := fun t ht => by rw [List.mem_singleton] at ht; subst ht; exact hx
  have hl : lookE Ps rest ([x] ++ [(p : Int)]) = 0 := mend_look hm hg (ha.app hb)
  rw [apart_one hl, Bool.not_eq_false', decide_eq_true_iff]
  obtain ⟨y, h1, h2⟩ := (told_mor (a := [x]) (b := [(p : Int)]) hm hb hg).2 ⟨p, by simp, by
    refine .step (x := x.toNat) (.base (by simp) fun h => ?_) ?_ (.base (.inr (.inl (by simp)))) (fun h => hout (zp_iff.1 h))
    · rw [zp_iff, Int.toNat_of_nonneg hx.1] at h
      exact self_blC hx.1 (hsub _ h)
    · rcases hbl with h | ⟨c, hc, h1, h | h⟩
      · exact .inr (.inl h)
      · subst h; exact .inl h1
      · refine .inr (.inr ⟨c, .base (.inr (.inr ?_)), h1, h⟩)
        have k1 := mend_nat hm h1
        have k2 := mend_nat hm h
        rw [zp_iff]
        exact hin _ (mem_blC.2 ⟨c, rfl, k1.2, by omega, .inr ⟨c, hc, h1, .inl rfl⟩⟩) (by omega)⟩
  rw [List.mem_singleton] at h1
  subst h1
  exact h2
end
end Go.Proofs.Ytdlnglffimcopaa
