/- Plain law: open ways between points are ways in the moral graph of all that is above them and what is given. Condition: what is above what is given is just that. -/
import Derived.Test.YtaibdlnolpbpiaaBall
namespace Go.Proofs.Ytaibdlnolpbpiaa

/-- joined in the moral graph of the points In -/
def Jnd (G : List (List Nat)) (In : Nat → Prop) (x y : Nat) : Prop := x ∈ nth G y ∨ y ∈ nth G x ∨ ∃ c, In c ∧ x ∈ nth G c ∧ y ∈ nth G c
/-- come to in the moral graph, around Z -/
inductive Mor (G : List (List Nat)) (In Z A : Nat → Prop) : Nat → Prop
  | base {a : Nat} : A a → ¬ Z a → Mor G In Z A a
  | step {x y : Nat} : Mor G In Z A x → Jnd G In x y → In y → ¬ Z y → Mor G In Z A y
/-- all above some points, some others and what is given -/
def InM (G : List (List Nat)) (Z A B : Nat → Prop) (x : Nat) : Prop := Up G (fun y => A y ∨ B y ∨ Z y) x
/-- a state come to from one of A -/
def Cm (G : List (List Nat)) (Z Ab A : Nat → Prop) (s : St) : Prop := ∃ a m, A a ∧ ¬ Z a ∧ Go (G := G) (Z := Z) (Ab := Ab) m (a, true) s
section
variable {G : List (List Nat)} {Z Ab A B : Nat → Prop}
theorem Cm.next {s t : St} (h : Cm G Z Ab A s) (hx : Nx G Z Ab s t) : Cm G Z Ab A t := by
  obtain ⟨a, m, h1, h2, h3⟩ := h
  exact ⟨a, m + 1, h1, h2, h3.snoc hx⟩
theorem Cm.start {a : Nat} (h : A a) (hz : ¬ Z a) : Cm G Z Ab A (a, true) := ⟨a, 0, h, hz, .refl _⟩
/-- one of B is come to -/
def Hit (G : List (List Nat)) (Z Ab A B : Nat → Prop) : Prop := ∃ b u, B b ∧ ¬ Z b ∧ Cm G Z Ab A (b, u)
theorem len_of_mem {p x : Nat} (h : p ∈ nth G x) : x < G.length := by
  rcases Nat.lt_or_ge x G.length with h4 | h4
  · exact h4
  · rw [show nth G x = [] by simp [nth, List.getD, List.getElem?_eq_none h4]; rfl] at h; simp at h
/-- down to one of A or B, and up again -/
theorem Cm.down (hA : AbOk G Z Ab) {x : Nat} (hi : InM G Z A B x) : ∀ {u : Bool}, ¬ Ab x → Cm G Z Ab A (x, u) → Hit G Z Ab A B ∨ Cm G Z Ab A (x, true) := by
  induction hi with
  | base h =>
    intro u hn hc
    rcases h with h | h | h
    · exact .inr (.start h fun hz => hn (hA.sub _ hz))
    · exact .inl ⟨_, u, h, fun hz => hn (hA.sub _ hz), hc⟩
    · exact absurd (hA.sub _ h) hn
  | @step x p _ hp ih =>
    intro u hn hc
    have hnx : ¬ Ab x := fun h => hn (hA.up _ h _ hp)
    have h1 : Cm G Z Ab A (x, false) := hc.next (.down (fun hz => hn (hA.sub _ hz)) (len_of_mem hp) hp)
    rcases ih hnx h1 with h2 | h2
    · exact .inl h2
    · exact .inr (h2.next (.up (fun h => hnx (hA.sub _ h.2)) (.inl rfl) hp))
/-- come to so that it goes on both ways -/
def Full (G : List (List Nat)) (Z Ab A : Nat → Prop) (x : Nat) : Prop := Cm G Z Ab A (x, true) ∨ (Cm G Z Ab A (x, false) ∧ Ab x)
theorem Cm.full (hA : AbOk G Z Ab) {x : Nat} {u : Bool} (hi : InM G Z A B x) (hc : Cm G Z Ab A (x, u)) : Hit G Z Ab A B ∨ Full G Z Ab A x := by
  by_cases h : Ab x
  · cases u with
    | true => exact .inr (.inl hc)
    | false => exact .inr (.inr ⟨hc, h⟩)
  · rcases hc.down hA hi h with h1 | h1
    · exact .inl h1
    · exact .inr (.inl h1)
theorem Mor.full (hA : AbOk G Z Ab) {x : Nat} (h : Mor G (InM G Z A B) Z A x) : ¬ Z x ∧ (Hit G Z Ab A B ∨ Full G Z Ab A x) := by
  induction h with
  | base h hz => exact ⟨hz, .inr (.inl (.start h hz))⟩
  | @step x y _ hj hi hz ih =>
    obtain ⟨hzx, ih⟩ := ih
    refine ⟨hz, ?_⟩
    rcases ih with ih | ih
    · exact .inl ih
    · have hdn : ∀ c, x ∈ nth G c → Cm G Z Ab A (c, false) := fun c hc => by
        rcases ih with h1 | ⟨h1, _⟩ <;> exact h1.next (.down hzx (len_of_mem hc) hc)
      have hup : ∀ p, p ∈ nth G x → Cm G Z Ab A (p, true) := fun p hp => by
        rcases ih with h1 | ⟨h1, h2⟩
        · exact h1.next (.up (fun h => hzx h.2) (.inl rfl) hp)
        · exact h1.next (.up (fun h => hzx h.2) (.inr h2) hp)
      rcases hj with h1 | h1 | ⟨c, hc, h1, h2⟩
      · exact (hdn y h1).full hA hi
      · exact .inr (.inl (hup y h1))
      · have h3 := hdn c h1
        by_cases hab : Ab c
        · exact .inr (.inl (h3.next (.up (fun h => by cases h.1) (.inr hab) h2)))
        · rcases h3.down hA hc hab with h4 | h4
          · exact .inl h4
          · exact .inr (.inl (h4.next (.up (fun h => hab (hA.sub _ h.2)) (.inl rfl) h2)))
theorem InM.up {x p : Nat} (h : InM G Z A B x) (hp : p ∈ nth G x) : InM G Z A B p := .step h hp
theorem inM_of_ab (hAb : ∀ x, Ab x ↔ Up G Z x) {x : Nat} (h : Ab x) : InM G Z A B x := Up.mono (fun _ h => .inr (.inr h)) ((hAb x).1 h)
/-- what comes from a parent and leads on to B lies above B or what is given -/
theorem Go.inM (hAb : ∀ x, Ab x ↔ Up G Z x) {b : Nat} {v : Bool} (hb : B b) : ∀ {k : Nat} {x : Nat}, Go (G := G) (Z := Z) (Ab := Ab) k (x, false) (b, v) → InM G Z A B x
  | 0, x, h => by cases h; exact .base (.inr (.inl hb))
  | k + 1, x, h => by
    obtain ⟨t, hx, hg⟩ := h.head
    cases hx with
    | up _ h2 _ => rcases h2 with h2 | h2; cases h2; exact inM_of_ab hAb h2
    | down _ _ h3 => exact (Go.inM hAb hb hg).up h3
theorem Go.mor (hAb : ∀ x, Ab x ↔ Up G Z x) {a b : Nat} {v : Bool} (ha : A a) (hza : ¬ Z a) (hb : B b) {m : Nat} {s : St} (h : Go (G := G) (Z := Z) (Ab := Ab) m (a, true) s) :
    ∀ {k : Nat}, Go (G := G) (Z := Z) (Ab := Ab) k s (b, v) → InM G Z A B s.1 ∧ (¬ Z s.1 → Mor G (InM G Z A B) Z A s.1) ∧ (s.2 = false → ∃ y, Mor G (InM G Z A B) Z A y ∧ y ∈ nth G s.1) := by
  generalize hs : ((a, true) : St) = s0 at h
  induction h with
  | refl => intro k _; subst hs; exact ⟨.base (.inl ha), fun _ => .base ha hza, fun h => by cases h⟩
  | @snoc m s0 s t hg hx ih =>
    intro k hk
    have hst : Go (G := G) (Z := Z) (Ab := Ab) (1 + k) s (b, v) := (Go.one hx).trans hk
    obtain ⟨i1, i2, i3⟩ := ih hs hst
    cases hx with
    | @down x u c h1 h2 h3 =>
      have hm := i2 h1
      have hic : InM G Z A B c := Go.inM hAb hb hk
      exact ⟨hic, fun hz => hm.step (.inl h3) hic hz, fun _ => ⟨x, hm, h3⟩⟩
    | @up x u p h1 h2 h3 =>
      have hip : InM G Z A B p := InM.up i1 h3
      refine ⟨hip, fun hz => ?_, fun h => by cases h⟩
      cases u with
      | true =>
        have hzx : ¬ Z x := fun hz => h1 ⟨rfl, hz⟩
        exact (i2 hzx).step (.inr (.inl h3)) hip hz
      | false =>
        obtain ⟨y, hy, hyx⟩ := i3 rfl
        exact hy.step (.inr (.inr ⟨x, i1, hyx, h3⟩)) hip hz
/-- one of B is come to: by open ways, in the moral graph -/
theorem moral_iff (hA : AbOk G Z Ab) (hAb : ∀ x, Ab x ↔ Up G Z x) : Hit G Z Ab A B ↔ ∃ b, B b ∧ Mor G (InM G Z A B) Z A b := by
  constructor
  · rintro ⟨b, u, hb, hz, a, m, ha, hza, hg⟩
    exact ⟨b, hb, ((Go.mor hAb ha hza hb hg (.refl _)).2.1 hz)⟩
  · rintro ⟨b, hb, hm⟩
    obtain ⟨hz, h | h⟩ := hm.full hA
    · exact h
    · rcases h with h | ⟨h, _⟩ <;> exact ⟨b, _, hb, hz, h⟩
end
end Go.Proofs.Ytaibdlnolpbpiaa
