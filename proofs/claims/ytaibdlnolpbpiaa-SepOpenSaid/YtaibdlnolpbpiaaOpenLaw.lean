/- Plain law: a trail is there just where two points are not apart; its points, its neighbours, what is open in it. Condition: parents that may be, points that are there. -/
import Derived.Test.YtaibdlnolpbpiaaEvenLaw
import Derived.Test.YtaibdlnolpbpiaaTrailAll
namespace Go.Proofs.Ytaibdlnolpbpiaa

/-- of some lists of one length there is a least one -/
theorem lex_min : ∀ (m : Nat) (P : List Nat → Prop), (∀ l, P l → l.length = m) → (∃ l, P l) → ∃ l, P l ∧ ∀ l', P l' → lexL l' l = false
  | 0, P, hm, ⟨l, hl⟩ => by
    obtain rfl := List.eq_nil_of_length_eq_zero (hm l hl)
    refine ⟨[], hl, fun l' h' => ?_⟩
    obtain rfl := List.eq_nil_of_length_eq_zero (hm l' h')
    rfl
  | m + 1, P, hm, ⟨l, hl⟩ => by
    obtain ⟨x, t, rfl⟩ : ∃ x t, l = x :: t := by
      cases l with
      | nil => have := hm _ hl; simp at this
      | cons x t => exact ⟨x, t, rfl⟩
    obtain ⟨p, ⟨t0, hp⟩, hmin⟩ := least_bad (P := fun x => ∃ t, P (x :: t)) id x x (Nat.le_refl _) ⟨t, hl⟩
    obtain ⟨t1, h1, h2⟩ := lex_min m (fun t => P (p :: t)) (fun t ht => by have := hm _ ht; simpa using this) ⟨t0, hp⟩
    refine ⟨p :: t1, h1, fun l' h' => ?_⟩
    obtain ⟨q, s, rfl⟩ : ∃ q s, l' = q :: s := by
      cases l' with
      | nil => have := hm _ h'; simp at this
      | cons q s => exact ⟨q, s, rfl⟩
    unfold lexL
    by_cases e : q = p
    · subst e; rw [if_pos rfl]; exact h2 s h'
    · rw [if_neg e, decide_eq_false_iff_not]
      have : p ≤ q := hmin q ⟨s, h'⟩
      omega
section
variable {G : List (List Nat)} {Z Ab : Nat → Prop} {a b : Nat}
theorem bestT_ex (hza : ¬ Z a) (hzb : ¬ Z b) (h : ∃ l, Trl G Z Ab a (b :: l)) : ∃ t, BestT G Z Ab a b (some t) := by
  obtain ⟨l0, h0⟩ := h
  obtain ⟨m, ⟨l1, h1, e1⟩, hmin⟩ := least_bad (P := fun m => ∃ l, Trl G Z Ab a (b :: l) ∧ l.length = m) id l0.length l0.length (Nat.le_refl _) ⟨l0, h0, rfl⟩
  obtain ⟨t, ⟨l2, h2, e2, rfl⟩, hlex⟩ := lex_min (m + 1) (fun t => ∃ l, Trl G Z Ab a (b :: l) ∧ l.length = m ∧ t = (b :: l).reverse) (fun t ⟨l, _, e, h⟩ => by subst h; simp [e]) ⟨_, l1, h1, e1, rfl⟩
  refine ⟨(b :: l2).reverse, fun e => (by cases e), fun t e => ?_⟩
  injection e with e
  subst e
  refine ⟨hza, hzb, ⟨l2, h2, rfl⟩, fun l hl => ?_⟩
  have hle : m ≤ l.length := hmin l.length ⟨l, hl, rfl⟩
  unfold lessL
  by_cases e : ((b :: l).reverse).length = ((b :: l2).reverse).length
  · rw [if_pos e]
    refine hlex _ ⟨l, hl, ?_, rfl⟩
    simp at e; omega
  · rw [if_neg e, decide_eq_false_iff_not]
    simp
    omega
theorem Trl.adj {L : List Nat} (h : Trl G Z Ab a L) : ∀ j, j + 1 < L.length → nth L j ∈ nth G (nth L (j + 1)) ∨ nth L (j + 1) ∈ nth G (nth L j) := by
  induction h with
  | one => intro j hj; simp at hj
  | @two n _ hadj _ =>
    intro j hj
    obtain rfl : j = 0 := by simp at hj; omega
    exact hadj
  | @more q p n l _ _ hadj _ _ ih =>
    intro j hj
    cases j with
    | zero => exact hadj
    | succ j => exact ih j (by simpa using hj)
theorem Trl.opn {L : List Nat} (h : Trl G Z Ab a L) : ∀ j, j + 2 < L.length → Opn G Z Ab (nth L (j + 2)) (nth L (j + 1)) (nth L j) := by
  induction h with
  | one => intro j hj; simp at hj
  | two => intro j hj; simp only [List.length_cons, List.length_nil] at hj; omega
  | @more q p n l _ _ _ _ hop ih =>
    intro j hj
    cases j with
    | zero => exact hop
    | succ j => exact ih j (by simpa using hj)
theorem Trl.inn {L : List Nat} (ha : a < G.length) (h : Trl G Z Ab a L) : ∀ x, x ∈ L → x < G.length := by
  induction h with
  | one => intro x hx; rw [List.mem_singleton] at hx; subst hx; exact ha
  | two hn _ _ =>
    intro x hx
    rcases List.mem_cons.1 hx with rfl | hx
    · exact hn
    · rw [List.mem_singleton] at hx; subst hx; exact ha
  | more _ hn _ _ _ ih =>
    intro x hx
    rcases List.mem_cons.1 hx with rfl | hx
    · exact hn
    · exact ih x hx
theorem Trl.last {L : List Nat} (h : Trl G Z Ab a L) : nth L (L.length - 1) = a := by
  induction h with
  | one => rfl
  | two => rfl
  | @more q p n l _ _ _ _ _ ih =>
    have : (n :: p :: q :: l).length - 1 = ((p :: q :: l).length - 1) + 1 := by simp
    rw [this]
    exact ih
theorem nth_rev {L : List Nat} {i : Nat} (h : i < L.length) : nth L.reverse i = nth L (L.length - 1 - i) := by
  rw [nth_eq (by simpa using h), nth_eq (by omega), List.getElem_reverse]
end
/-- a trail, as it is told: from the one to the other -/
structure TrailOk (Ps : List (List Int)) (given : List Int) (a b : Nat) (r : List Nat) : Prop where
  pos : 0 < r.length
  first : nth r 0 = a
  last : nth r (r.length - 1) = b
  na : zB given a = false
  nb : zB given b = false
  lt : ∀ x, x ∈ r → x < Ps.length
  nodup : r.Nodup
  adj : ∀ i, i + 1 < r.length → nth r i ∈ nth (toG Ps) (nth r (i + 1)) ∨ nth r (i + 1) ∈ nth (toG Ps) (nth r i)
  opn : ∀ i, i + 2 < r.length → Opn (toG Ps) (Zp given) (Ap (toG Ps) given) (nth r i) (nth r (i + 1)) (nth r (i + 2))
section
variable {Ps : List (List Int)} {given : List Int} {a b : Nat}
theorem trailOk_of {L : List Nat} (ha : a < Ps.length) (hza : ¬ Zp given a) (hzb : ¬ Zp given b) {l : List Nat} (h : Trl (toG Ps) (Zp given) (Ap (toG Ps) given) a (b :: l)) (hL : L = (b :: l).reverse) : TrailOk Ps given a b L := by
  subst hL
  have hlen : ((b :: l).reverse).length = (b :: l).length := List.length_reverse
  have hp : 0 < (b :: l).length := by simp
  have hz : ∀ q, ¬ Zp given q → zB given q = false := fun q h => by unfold Zp at h; simpa using h
  refine ⟨by rw [hlen]; exact hp, ?_, ?_, hz _ hza, hz _ hzb, fun x hx => ?_, List.pairwise_reverse.2 (h.nodup.imp fun h => Ne.symm h), fun i hi => ?_, fun i hi => ?_⟩
  · rw [nth_rev hp, Nat.sub_zero]; exact h.last
  · rw [hlen, nth_rev (by omega), Nat.sub_self]; rfl
  · have := h.inn (by rw [toG_length]; exact ha) x (List.mem_reverse.1 hx)
    rwa [toG_length] at this
  · rw [hlen] at hi
    rw [nth_rev (by omega), nth_rev (by omega)]
    have := h.adj ((b :: l).length - 1 - (i + 1)) (by omega)
    rw [show (b :: l).length - 1 - (i + 1) + 1 = (b :: l).length - 1 - i from by omega] at this
    exact this.symm
  · rw [hlen] at hi
    rw [nth_rev (by omega), nth_rev (by omega), nth_rev (by omega)]
    have := h.opn ((b :: l).length - 1 - (i + 2)) (by omega)
    rw [show (b :: l).length - 1 - (i + 2) + 1 = (b :: l).length - 1 - (i + 1) from by omega, show (b :: l).length - 1 - (i + 2) + 2 = (b :: l).length - 1 - i from by omega] at this
    exact this
/-- a trail is there just where they are not apart -/
theorem trail_apart (hc : checkP Ps = 0) (hg : InN Ps.length given) (ha : a < Ps.length) (hb : b < Ps.length) :
    (apartB Ps [(a : Int)] [(b : Int)] given = true ∧ trailW Ps (a : Int) (b : Int) given = []) ∨ (apartB Ps [(a : Int)] [(b : Int)] given = false ∧ ∃ r, trailW Ps (a : Int) (b : Int) given = castL r ∧ TrailOk Ps given a b r) := by
  have hac : InN Ps.length [(a : Int)] := fun x hx => by rw [List.mem_singleton] at hx; omega
  have hbc : InN Ps.length [(b : Int)] := fun x hx => by rw [List.mem_singleton] at hx; omega
  have hl := lookE_ok hc hg.row (hac.app hbc).row
  have hl2 : lookE Ps given [(a : Int), (b : Int)] = 0 := hl
  have hgood := good_toG (checkP_ok hc).1
  have hin : ∀ z, z ∈ given → 0 ≤ z ∧ z < ((toG Ps).length : Int) := fun z hz => by rw [toG_length]; exact hg z hz
  have hA := abOk hgood hin
  have ho := (checkP_ok hc).2.2.oneWay
  have ha' : a < (toG Ps).length := by rw [toG_length]; exact ha
  have hW : trailW Ps (a : Int) (b : Int) given = castL ((bestO (toG Ps) given a b).getD []) := by
    unfold trailW
    rw [if_pos hl2]
    simp
  have hz : ∀ q, zB given q = false ↔ ¬ Zp given q := fun q => by unfold Zp; simp
  have hap : apartB Ps [(a : Int)] [(b : Int)] given = true ↔ ¬ (¬ Zp given a ∧ ¬ Zp given b ∧ ∃ l, Trl (toG Ps) (Zp given) (Ap (toG Ps) given) a (b :: l)) := by
    rw [apart_iff hl]
    constructor
    · rintro h ⟨h1, h2, h3⟩
      obtain ⟨m, u, hgo⟩ := (trl_iff hA ho hgood ha' h1).1 h3
      exact h (b : Int) (by simp) (mem_toldC.2 ⟨b, rfl, hb, ⟨u, a, m, by simp, (hz a).2 h1, hgo⟩, (hz b).2 h2⟩)
    · intro h y hy ht
      rw [List.mem_singleton] at hy
      subst hy
      obtain ⟨z, e, _, ⟨u, q, m, hq, hza, hgo⟩, hzb⟩ := mem_toldC.1 ht
      have e2 : b = z := by omega
      subst e2
      have e3 : q = a := by simpa using hq
      subst e3
      exact h ⟨(hz _).1 hza, (hz _).1 hzb, (trl_iff hA ho hgood ha' ((hz _).1 hza)).2 ⟨m, u, hgo⟩⟩
  by_cases hh : ¬ Zp given a ∧ ¬ Zp given b ∧ ∃ l, Trl (toG Ps) (Zp given) (Ap (toG Ps) given) a (b :: l)
  · right
    refine ⟨?_, ?_⟩
    · cases hx : apartB Ps [(a : Int)] [(b : Int)] given
      · rfl
      · exact absurd hh (hap.1 hx)
    · obtain ⟨h1, h2, h3⟩ := hh
      obtain ⟨t, ht⟩ := bestT_ex h1 h2 h3
      obtain ⟨_, _, ⟨l, g1, g2⟩, _⟩ := ht.bs t rfl
      exact ⟨t, by rw [hW, bestO_eq ht]; rfl, trailOk_of ha h1 h2 g1 g2⟩
  · left
    refine ⟨hap.2 hh, ?_⟩
    have hbn : BestT (toG Ps) (Zp given) (Ap (toG Ps) given) a b none := ⟨fun _ l h1 h2 => by
      apply Classical.byContradiction
      intro h3
      exact hh ⟨h1, h3, l, h2⟩, fun t e => (by cases e)⟩
    rw [hW, bestO_eq hbn]
    rfl
/-- above what is given: something given lies below -/
theorem up_down {G : List (List Nat)} (hg : GoodG G) {S : Nat → Prop} (hS : ∀ x, S x → x < G.length) {x : Nat} : Up G S x ↔ ∃ z, S z ∧ Up (kids G) (· = x) z := by
  constructor
  · intro h
    have key : ∀ y, Up G S y → y < G.length ∧ ∃ z, S z ∧ Up (kids G) (· = y) z := fun y hy => by
      induction hy with
      | base h => exact ⟨hS _ h, _, h, .base rfl⟩
      | @step y p hy hp ih =>
        obtain ⟨h1, z, h2, h3⟩ := ih
        have hpl := hg y h1 p hp
        have hk : y ∈ nth (kids G) p := (mem_kids hpl).2 ⟨h1, hp⟩
        refine ⟨hpl, z, h2, ?_⟩
        clear h2
        induction h3 with
        | base e => subst e; exact .step (.base rfl) hk
        | step _ hq ih => exact .step ih hq
    exact (key x h).2
  · rintro ⟨z, hz, hu⟩
    have key : ∀ y, Up (kids G) (· = x) y → Up G S y → Up G S x := fun y hy => by
      induction hy with
      | base e => subst e; exact id
      | @step y c hy hc ih =>
        intro h
        rcases Nat.lt_or_ge y G.length with h1 | h1
        · exact ih (.step h ((mem_kids h1).1 hc).2)
        · have : nth (kids G) y = [] := by
            have hl : (kids G).length ≤ y := by unfold kids; simpa using h1
            simp [nth, List.getD, List.getElem?_eq_none hl]; rfl
          rw [this] at hc
          cases hc
    exact key z hu (.base hz)
end
end Go.Proofs.Ytaibdlnolpbpiaa
