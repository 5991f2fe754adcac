/- Plain law: what is kept: parents of what is kept are kept or given, what is asked is kept, nothing barren is kept. Condition: parents that may be, points that are there. -/
import Derived.Test.YtdlnglffimcopaaPruneLaw
namespace Go.Proofs.Ytdlnglffimcopaa

section
variable {Ps : List (List Int)} {asked given pts : List Int} {v : Nat}
theorem mem_bareL (hc : checkP Ps = 0) (hp : InN Ps.length pts) {x : Nat} : x ∈ bareL Ps pts ↔ x < Ps.length ∧ ¬ Up (toG Ps) (· ∈ pts.map Int.toNat) x := by
  have hs : ∀ y, y ∈ pts.map Int.toNat → y < (toG Ps).length := fun y hy => by
    obtain ⟨z, hz, rfl⟩ := List.mem_map.1 hy
    have := hp z hz
    rw [toG_length]; omega
  unfold bareL bareTo
  rw [mem_ptsOf, mem_upList (good_toG (checkP_ok hc).1) hs]
theorem wG_length : (toG (widerP Ps v)).length = Ps.length + 1 := by rw [toG_length, widerP_length]
theorem wG_v (hv : v < Ps.length) : nth (toG (widerP Ps v)) v = nth (toG Ps) v ++ [Ps.length] := by
  rw [nth_toG (by rw [widerP_length]; omega), nth_widerP_v hv, nth_toG hv, List.map_append]; rfl
theorem wG_other {i : Nat} (hi : i < Ps.length) (hne : i ≠ v) : nth (toG (widerP Ps v)) i = nth (toG Ps) i := by
  rw [nth_toG (by rw [widerP_length]; omega), nth_widerP_other hi hne, nth_toG hi]
theorem wG_n : nth (toG (widerP Ps v)) Ps.length = [] := by
  rw [nth_toG (by rw [widerP_length]; omega), nth_widerP_n]; rfl
theorem old_lt (hc : checkP Ps = 0) {i p : Nat} (hi : i < Ps.length) (h : p ∈ nth (toG Ps) i) : p < Ps.length := by
  have := good_toG (checkP_ok hc).1 i (by rw [toG_length]; exact hi) p h
  rwa [toG_length] at this
/-- a way up in the wider graph between old points is one in the old graph; n stands above v alone -/
theorem wG_mem (hc : checkP Ps = 0) (hv : v < Ps.length) {i p : Nat} (hi : i < Ps.length + 1) (h : p ∈ nth (toG (widerP Ps v)) i) : (i < Ps.length ∧ p < Ps.length ∧ p ∈ nth (toG Ps) i) ∨ (i = v ∧ p = Ps.length) := by
  rcases Nat.lt_or_ge i Ps.length with h1 | h1
  · by_cases e : i = v
    · subst e
      rw [wG_v hv, List.mem_append, List.mem_singleton] at h
      rcases h with h | h
      · exact .inl ⟨h1, old_lt hc h1 h, h⟩
      · exact .inr ⟨rfl, h⟩
    · rw [wG_other h1 e] at h
      exact .inl ⟨h1, old_lt hc h1 h, h⟩
  · obtain rfl : i = Ps.length := by omega
    rw [wG_n] at h
    cases h
theorem wG_old (hv : v < Ps.length) {i p : Nat} (hi : i < Ps.length) (h : p ∈ nth (toG Ps) i) : p ∈ nth (toG (widerP Ps v)) i := by
  by_cases e : i = v
  · subst e; rw [wG_v hv]; exact List.mem_append_left _ h
  · rw [wG_other hi e]; exact h
theorem up_ge (hc : checkP Ps = 0) {S : Nat → Prop} (hS : ∀ x, S x → x < Ps.length) {x : Nat} (h : Up (toG Ps) S x) : x < Ps.length := by
  induction h with
  | base h => exact hS _ h
  | step _ hp ih => exact old_lt hc ih hp
theorem up_wider (hc : checkP Ps = 0) (hv : v < Ps.length) {S : Nat → Prop} (hS : ∀ x, S x → x < Ps.length) {x : Nat} (hx : x < Ps.length) : Up (toG (widerP Ps v)) S x ↔ Up (toG Ps) S x := by
  constructor
  · intro h
    have key : ∀ y, Up (toG (widerP Ps v)) S y → (y < Ps.length ∧ Up (toG Ps) S y) ∨ y = Ps.length := fun y hy => by
      induction hy with
      | base h => exact .inl ⟨hS _ h, .base h⟩
      | @step y p _ hp ih =>
        rcases ih with ⟨i1, i2⟩ | rfl
        · rcases wG_mem hc hv (by omega) hp with ⟨_, g2, g3⟩ | ⟨_, g2⟩
          · exact .inl ⟨g2, .step i2 g3⟩
          · exact .inr g2
        · rw [wG_n] at hp; cases hp
    rcases key x h with h1 | h1
    · exact h1.2
    · omega
  · intro h
    induction h with
    | base h => exact .base h
    | @step y p hy hp ih =>
      have hyl : y < Ps.length := up_ge hc hS hy
      exact .step (ih hyl) (wG_old hv hyl hp)
theorem zp_lt (hg : InN Ps.length given) {x : Nat} (h : Zp given x) : x < Ps.length := by
  unfold Zp zB at h
  rw [decide_eq_true_iff] at h
  have := hg _ h
  omega
theorem ap_wider (hc : checkP Ps = 0) (hv : v < Ps.length) (hg : InN Ps.length given) {x : Nat} (hx : x < Ps.length) : Ap (toG (widerP Ps v)) given x ↔ Up (toG Ps) (Zp given) x := by
  rw [ap_up (good_toG (checkP_ok (wider_check hc hv)).1) (fun z hz => by rw [wG_length]; have := hg z hz; omega)]
  exact up_wider hc hv (fun y hy => zp_lt hg hy) hx
/-- from a new point above v: states on the way -/
abbrev GoW (Ps : List (List Int)) (given : List Int) (v m : Nat) (s t : St) : Prop := Go (G := toG (widerP Ps v)) (Z := Zp given) (Ab := Ap (toG (widerP Ps v)) given) m s t
/-- apart: no open point is come to -/
theorem apart_wider (hc : checkP Ps = 0) (hv : v < Ps.length) (ha : InN Ps.length asked) (hg : InN Ps.length given) :
    apartB (widerP Ps v) [(Ps.length : Int)] (openL asked given) given = true ↔ ∀ y, y ∈ asked → y ∉ given → ∀ u m, ¬ GoW Ps given v m (Ps.length, true) (y.toNat, u) := by
  rw [apart_iff (wider_look hc hv ha hg)]
  have hop : ∀ y, y ∈ openL asked given ↔ y ∈ asked ∧ y ∉ given := fun y => by unfold openL; rw [List.mem_filter]; simp
  constructor
  · intro h y hy hyg u m hgo
    have hya := ha y hy
    refine h y ((hop y).2 ⟨hy, hyg⟩) (mem_toldC.2 ⟨y.toNat, by omega, by rw [widerP_length]; omega, ⟨u, Ps.length, m, by simp, ?_, hgo⟩, ?_⟩)
    · unfold zB; rw [decide_eq_false_iff_not]; intro h; have := hg _ h; omega
    · unfold zB; rw [decide_eq_false_iff_not, show ((y.toNat : Nat) : Int) = y by omega]; exact hyg
  · intro h y hy ht
    obtain ⟨h1, h2⟩ := (hop y).1 hy
    obtain ⟨z, rfl, _, ⟨u, q, m, hq, _, hgo⟩, _⟩ := mem_toldC.1 ht
    simp only [List.map_cons, List.map_nil, List.mem_singleton] at hq
    have hq2 : q = Ps.length := by omega
    subst hq2
    exact h _ h1 h2 u m (by simpa using hgo)
/-- what is barren is apart -/
theorem bare_apart (hc : checkP Ps = 0) (hv : v < Ps.length) (ha : InN Ps.length asked) (hg : InN Ps.length given) (hb : v ∈ bareL Ps (asked ++ given)) :
    apartB (widerP Ps v) [(Ps.length : Int)] (openL asked given) given = true := by
  rw [apart_wider hc hv ha hg]
  have hbar := ((mem_bareL hc (ha.app hg)).1 hb).2
  intro y hy hyg u m hgo
  have key : ∀ m s0 s, GoW Ps given v m s0 s → s0 = (Ps.length, true) → s = (Ps.length, true) ∨ (s.2 = false ∧ s.1 < Ps.length ∧ ¬ Up (toG Ps) (· ∈ (asked ++ given).map Int.toNat) s.1) := by
    intro m s0 s h
    induction h with
    | refl => exact fun e => .inl e
    | @snoc m s t r hg2 hx ih =>
      intro hs0
      rcases ih hs0 with rfl | ⟨i1, i2, i3⟩
      · cases hx with
        | up _ _ h3 => rw [wG_n] at h3; cases h3
        | @down _ _ c _ h2 h3 =>
          rw [wG_length] at h2
          rcases wG_mem hc hv h2 h3 with ⟨_, g2, _⟩ | ⟨g1, _⟩
          · omega
          · subst g1; exact .inr ⟨rfl, hv, hbar⟩
      · cases hx with
        | @up x u q h1 h2 h3 =>
          simp only at i1 i2 i3
          rcases h2 with h2 | h2
          · rw [i1] at h2; cases h2
          · exfalso
            refine i3 (Up.mono (fun z hz => ?_) ((ap_wider hc hv hg i2).1 h2))
            unfold Zp zB at hz
            rw [decide_eq_true_iff] at hz
            exact List.mem_map.2 ⟨_, List.mem_append_right _ hz, by simp⟩
        | @down x u c h1 h2 h3 =>
          simp only at i1 i2 i3
          rw [wG_length] at h2
          rcases wG_mem hc hv h2 h3 with ⟨g1, _, g3⟩ | ⟨_, g2⟩
          · exact .inr ⟨rfl, g1, fun hup => i3 (.step hup g3)⟩
          · omega
  rcases key m _ _ hgo rfl with h1 | ⟨_, _, h3⟩
  · have := ha y hy
    injection h1 with h1 _
    omega
  · exact h3 (.base (List.mem_map.2 ⟨y, List.mem_append_left _ hy, rfl⟩))
/-- a new point above v: its first step -/
theorem first_step (hv : v < Ps.length) (hg : InN Ps.length given) : Nx (toG (widerP Ps v)) (Zp given) (Ap (toG (widerP Ps v)) given) (Ps.length, true) (v, false) :=
  .down (fun h => by have := zp_lt hg h; omega) (by rw [wG_length]; omega) (by rw [wG_v hv]; simp)
/-- what is asked and not given is not apart -/
theorem asked_open (hc : checkP Ps = 0) (ha : InN Ps.length asked) (hg : InN Ps.length given) {y : Int} (hy : y ∈ asked) (hyg : y ∉ given) : apartB (widerP Ps y.toNat) [(Ps.length : Int)] (openL asked given) given = false := by
  have hya := ha y hy
  have hv : y.toNat < Ps.length := by omega
  cases h : apartB (widerP Ps y.toNat) [(Ps.length : Int)] (openL asked given) given
  · rfl
  · rw [apart_wider hc hv ha hg] at h
    exact absurd (Go.one (first_step hv hg)) (h y hy hyg false 1)
/-- a parent, not given, of a point that is not apart is not apart -/
theorem parent_open (hc : checkP Ps = 0) (hv : v < Ps.length) (ha : InN Ps.length asked) (hg : InN Ps.length given) (h : apartB (widerP Ps v) [(Ps.length : Int)] (openL asked given) given = false) {p : Nat} (hp : p ∈ nth (toG Ps) v) (hpg : ¬ Zp given p) :
    apartB (widerP Ps p) [(Ps.length : Int)] (openL asked given) given = false := by
  have hpl := old_lt hc hv hp
  cases hb : apartB (widerP Ps p) [(Ps.length : Int)] (openL asked given) given
  · rfl
  · exfalso
    rw [apart_wider hc hpl ha hg] at hb
    rw [← Bool.not_eq_true, apart_wider hc hv ha hg] at h
    apply h
    intro y hy hyg u m hgo
    have hya := ha y hy
    have hstart : GoW Ps given p 2 (Ps.length, true) (v, false) := (Go.one (first_step hpl hg)).snoc (.down hpg (by rw [wG_length]; omega) (wG_old hpl hv hp))
    have key : ∀ m s0 s, GoW Ps given v m s0 s → s0 = (Ps.length, true) → s = (Ps.length, true) ∨ (s.1 < Ps.length ∧ ∃ k, GoW Ps given p k (Ps.length, true) s) := by
      intro m s0 s h
      induction h with
      | refl => exact fun e => .inl e
      | @snoc m s t r _ hx ih =>
        intro hs0
        rcases ih hs0 with rfl | ⟨i1, k, i2⟩
        · cases hx with
          | up _ _ h3 => rw [wG_n] at h3; cases h3
          | @down _ _ c _ h2 h3 =>
            rw [wG_length] at h2
            rcases wG_mem hc hv h2 h3 with ⟨_, g2, _⟩ | ⟨g1, _⟩
            · omega
            · subst g1; exact .inr ⟨hv, 2, hstart⟩
        · cases hx with
          | @up x u q h1 h2 h3 =>
            simp only at i1
            rcases wG_mem hc hv (by omega) h3 with ⟨g1, g2, g3⟩ | ⟨g1, g2⟩
            · refine .inr ⟨g2, k + 1, i2.snoc (.up h1 (h2.imp id fun h => (ap_wider hc hpl hg i1).2 ((ap_wider hc hv hg i1).1 h)) (wG_old hpl g1 g3))⟩
            · subst g2; exact .inl rfl
          | @down x u c h1 h2 h3 =>
            simp only at i1
            rw [wG_length] at h2
            rcases wG_mem hc hv h2 h3 with ⟨g1, _, g3⟩ | ⟨_, g2⟩
            · exact .inr ⟨g1, k + 1, i2.snoc (.down h1 (by rw [wG_length]; exact h2) (wG_old hpl g1 g3))⟩
            · omega
    rcases key m _ _ hgo rfl with h1 | ⟨_, k, h2⟩
    · injection h1 with h1 _
      omega
    · exact hb y hy hyg u k h2
theorem mem_kept {br ap : Bool} {x : Nat} : x ∈ keptL Ps asked given br ap ↔ x < Ps.length ∧ leaveB Ps asked given br ap x = false := by
  unfold keptL keptTo
  rw [List.mem_filter, List.mem_range]; simp
theorem kept_bare (hc : checkP Ps = 0) (ha : InN Ps.length asked) (hg : InN Ps.length given) {br ap : Bool} (hw : (br || ap) = true) {x : Nat} (hx : x ∈ keptL Ps asked given br ap) : x ∉ bareL Ps (asked ++ given) := by
  intro hb
  obtain ⟨h1, h2⟩ := mem_kept.1 hx
  unfold leaveB at h2
  rw [bare_apart hc h1 ha hg hb, decide_eq_true hb, Bool.and_true, Bool.and_true] at h2
  rw [hw] at h2; cases h2
theorem kept_parent (hc : checkP Ps = 0) (ha : InN Ps.length asked) (hg : InN Ps.length given) {br ap : Bool} {x : Nat} (hw : (br || ap) = true) (hx : x ∈ keptL Ps asked given br ap) {p : Int} (hp : p ∈ nth Ps x) : p.toNat ∈ keptL Ps asked given br ap ∨ p ∈ given := by
  obtain ⟨h1, h2⟩ := mem_kept.1 hx
  have hpr := inR_row (checkP_ok hc).1 h1 p hp
  have hpG : p.toNat ∈ nth (toG Ps) x := by rw [nth_toG h1]; exact List.mem_map.2 ⟨p, hp, rfl⟩
  by_cases hgv : p ∈ given
  · exact .inr hgv
  · left
    rw [mem_kept]
    refine ⟨by omega, ?_⟩
    have hnb : p.toNat ∉ bareL Ps (asked ++ given) := by
      have hxb := kept_bare hc ha hg hw hx
      rw [mem_bareL hc (ha.app hg)] at hxb ⊢
      intro ⟨_, h4⟩
      apply hxb
      refine ⟨h1, fun hup => h4 (.step hup hpG)⟩
    unfold leaveB at h2 ⊢
    rw [decide_eq_false hnb, Bool.and_false, Bool.false_or]
    cases ap with
    | false => rfl
    | true =>
      rw [Bool.or_eq_false_iff, Bool.true_and] at h2
      rw [Bool.true_and]
      refine parent_open hc h1 ha hg h2.2 hpG (fun h => ?_)
      unfold Zp zB at h
      rw [decide_eq_true_iff, show ((p.toNat : Nat) : Int) = p by omega] at h
      exact hgv h
theorem kept_asked (hc : checkP Ps = 0) (ha : InN Ps.length asked) (hg : InN Ps.length given) {br ap : Bool} {y : Int} (hy : y ∈ asked) : y.toNat ∈ keptL Ps asked given br ap ∨ y ∈ given := by
  have hya := ha y hy
  by_cases hgv : y ∈ given
  · exact .inr hgv
  · left
    rw [mem_kept]
    refine ⟨by omega, ?_⟩
    have hnb : y.toNat ∉ bareL Ps (asked ++ given) := by
      rw [mem_bareL hc (ha.app hg)]
      intro ⟨_, h4⟩
      exact h4 (.base (List.mem_map.2 ⟨y, List.mem_append_left _ hy, rfl⟩))
    unfold leaveB
    rw [decide_eq_false hnb, asked_open hc ha hg hy hgv]
    simp
theorem kept_rising (br ap : Bool) : Rising (keptL Ps asked given br ap) := rising_filter _ _
theorem kept_none : keptL Ps asked given false false = List.range Ps.length := by
  unfold keptL keptTo
  rw [List.filter_eq_self]
  intro x _
  unfold leaveB; simp
theorem kept_or_bare {x : Nat} (hx : x < Ps.length) : decide (x ∈ keptL Ps asked given true false) = !decide (x ∈ bareL Ps (asked ++ given)) := by
  rw [Bool.eq_iff_iff, decide_eq_true_iff, mem_kept]
  unfold leaveB
  simp [hx]
theorem two_halves (p : Nat → Bool) (n : Nat) : ((List.range n).filter p).length + ((List.range n).filter fun x => !p x).length = n := by
  induction n with
  | zero => rfl
  | succ n ih =>
    rw [List.range_succ, List.filter_append, List.filter_append, List.length_append, List.length_append]
    cases h : p n <;> simp [h] <;> omega
theorem above_bare (pts : List Int) : (upList (toG Ps) (pts.map Int.toNat)).length + (bareL Ps pts).length = Ps.length := by
  have h1 : bareL Ps pts = (List.range Ps.length).filter fun x => !decide (x ∈ upList (toG Ps) (pts.map Int.toNat)) := by
    refine ptsOf_eq (rising_filter _ _) (fun x => ?_) |>.symm
    simp
  have h2 : upList (toG Ps) (pts.map Int.toNat) = (List.range Ps.length).filter fun x => decide (x ∈ upList (toG Ps) (pts.map Int.toNat)) := by
    refine rising_ext (rising_ptsOf _ _) (rising_filter _ _) fun x => ?_
    rw [List.mem_filter, List.mem_range, decide_eq_true_iff]
    exact ⟨fun h => ⟨by have := (mem_ptsOf.1 h).1; rwa [toG_length] at this, h⟩, fun h => h.2⟩
  rw [h1]
  have := two_halves (fun x => decide (x ∈ upList (toG Ps) (pts.map Int.toNat))) Ps.length
  rw [← h2] at this
  exact this
end
end Go.Proofs.Ytdlnglffimcopaa
