/- Plain law: apart is even, goes point by point, and is not what is told; parents that hang on points ahead may be. No condition. -/
import Derived.Test.YtaibdlnolpbpiaaApart
import Derived.Test.YtaibdlnolpbpiaaMoral
import Derived.Test.YtaibdlnolpbpiaaHuntAll
import Derived.Test.YtaibdlnolpbpiaaMended
namespace Go.Proofs.Ytaibdlnolpbpiaa

section
variable {G : List (List Nat)} {Z A B : Nat → Prop} {In : Nat → Prop}
theorem Jnd.symm {x y : Nat} (h : Jnd G In x y) : Jnd G In y x := by
  rcases h with h | h | ⟨c, h1, h2, h3⟩
  · exact .inr (.inl h)
  · exact .inl h
  · exact .inr (.inr ⟨c, h1, h3, h2⟩)
theorem Mor.inn (hA : ∀ a, A a → In a) {x : Nat} (h : Mor G In Z A x) : In x ∧ ¬ Z x := by
  cases h with
  | base h hz => exact ⟨hA _ h, hz⟩
  | step _ _ hi hz => exact ⟨hi, hz⟩
theorem Mor.back (hA : ∀ a, A a → In a) {x : Nat} (h : Mor G In Z A x) (hb : Mor G In Z B x) : ∃ a, A a ∧ Mor G In Z B a := by
  induction h with
  | base h _ => exact ⟨_, h, hb⟩
  | step h hj hi hz ih =>
    obtain ⟨h1, h2⟩ := h.inn hA
    exact ih (hb.step hj.symm h1 h2)
theorem Mor.swap (hA : ∀ a, A a → In a) (h : ∃ b, B b ∧ Mor G In Z A b) : ∃ a, A a ∧ Mor G In Z B a := by
  obtain ⟨b, hb, hm⟩ := h
  exact hm.back hA (.base hb (hm.inn hA).2)
theorem InM_comm (x : Nat) : InM G Z A B x ↔ InM G Z B A x := by
  constructor <;> exact fun h => Up.mono (fun y hy => by rcases hy with h | h | h; exact .inr (.inl h); exact .inl h; exact .inr (.inr h)) h
theorem Mor.congr {In' : Nat → Prop} (hi : ∀ x, In x ↔ In' x) {x : Nat} (h : Mor G In Z A x) : Mor G In' Z A x := by
  have e : In = In' := funext fun x => propext (hi x)
  rw [← e]; exact h
theorem Hit.swap {Ab : Nat → Prop} (hA : AbOk G Z Ab) (hAb : ∀ x, Ab x ↔ Up G Z x) (h : Hit G Z Ab A B) : Hit G Z Ab B A := by
  rw [moral_iff hA hAb] at h ⊢
  obtain ⟨a, ha, hm⟩ := Mor.swap (fun a ha => .base (.inl ha)) h
  exact ⟨a, ha, hm.congr InM_comm⟩
end
theorem ap_up {G : List (List Nat)} {given : List Int} (hg : GoodG G) (hin : ∀ z, z ∈ given → 0 ≤ z ∧ z < (G.length : Int)) (x : Nat) : Ap G given x ↔ Up G (Zp given) x := by
  have hs : ∀ x, x ∈ given.map Int.toNat → x < G.length := fun x hx => by
    obtain ⟨y, hy, rfl⟩ := List.mem_map.1 hx
    have := hin y hy
    omega
  unfold Ap aB
  rw [decide_eq_true_iff, mem_castL, mem_upList hg hs]
  have e : ∀ x, x ∈ given.map Int.toNat ↔ Zp given x := fun x => by
    unfold Zp zB
    rw [decide_eq_true_iff, List.mem_map]
    constructor
    · rintro ⟨y, hy, rfl⟩
      have := hin y hy
      rwa [Int.toNat_of_nonneg this.1]
    · intro h; exact ⟨_, h, by simp⟩
  constructor <;> exact fun h => Up.mono (fun y hy => by first | exact (e y).1 hy | exact (e y).2 hy) h
section
variable {Ps : List (List Int)} {a b given : List Int}
/-- points of n -/
def InN (n : Nat) (l : List Int) : Prop := ∀ x, x ∈ l → 0 ≤ x ∧ x < (n : Int)
theorem InN.row {n : Nat} {l : List Int} (h : InN n l) : inRow n l = true := inRow_iff.2 h
theorem mem_toldC {x : Int} : x ∈ toldC Ps a given ↔ ∃ z : Nat, x = (z : Int) ∧ z < Ps.length ∧ (∃ u, CameS (toG Ps) given (a.map Int.toNat) (z, u)) ∧ zB given z = false := by
  unfold toldC castL toldL
  rw [List.mem_map]
  constructor
  · rintro ⟨z, hz, rfl⟩
    obtain ⟨h1, h2, h3⟩ := mem_ptsOf.1 hz
    rw [toG_length] at h1
    exact ⟨z, rfl, h1, h2, h3⟩
  · rintro ⟨z, rfl, h1, h2, h3⟩
    exact ⟨z, mem_ptsOf.2 ⟨by rw [toG_length]; exact h1, h2, h3⟩, rfl⟩
theorem mem_toldC_one {x : Int} : x ∈ toldC Ps a given ↔ ∃ p, p ∈ a ∧ x ∈ toldC Ps [p] given := by
  constructor
  · intro h
    obtain ⟨z, rfl, h1, ⟨u, q, m, hq, hz, hg⟩, h3⟩ := mem_toldC.1 h
    obtain ⟨p, hp, rfl⟩ := List.mem_map.1 hq
    exact ⟨p, hp, mem_toldC.2 ⟨z, rfl, h1, ⟨u, _, m, by simp, hz, hg⟩, h3⟩⟩
  · rintro ⟨p, hp, h⟩
    obtain ⟨z, rfl, h1, ⟨u, q, m, hq, hz, hg⟩, h3⟩ := mem_toldC.1 h
    simp only [List.map_cons, List.map_nil, List.mem_singleton] at hq
    subst hq
    exact mem_toldC.2 ⟨z, rfl, h1, ⟨u, _, m, List.mem_map.2 ⟨p, hp, rfl⟩, hz, hg⟩, h3⟩
theorem mend_check (h : Mend Ps) : checkP Ps = 0 := by
  have hin : inR Ps = true := by
    unfold inR
    rw [List.all_eq_true]
    intro l hl
    obtain ⟨i, hi, rfl⟩ := mem_nth hl
    exact inRow_iff.2 fun p hp => by have := (h i hi).1 p hp; omega
  refine checkP_0 hin ?_ ⟨id, fun i hi p hp => ?_⟩
  · rw [List.any_eq_false]
    intro l hl
    obtain ⟨i, hi, rfl⟩ := mem_nth hl
    rw [nodup_dup (h i hi).2.1]; simp
  · rw [toG_length] at hi
    rw [nth_toG hi] at hp
    obtain ⟨q, hq, rfl⟩ := List.mem_map.1 hp
    have := (h i hi).1 q hq
    show q.toNat < i
    omega
theorem mend_look (h : Mend Ps) {named : List Int} (h1 : InN Ps.length given) (h2 : InN Ps.length named) : lookE Ps given named = 0 := lookE_ok (mend_check h) h1.row h2.row
theorem InN.app {n : Nat} {l m : List Int} (h : InN n l) (k : InN n m) : InN n (l ++ m) := fun x hx => by
  rcases List.mem_append.1 hx with h1 | h1
  · exact h x h1
  · exact k x h1
/-- apart, of points that may be -/
theorem apart_iff (hl : lookE Ps given (a ++ b) = 0) : apartB Ps a b given = true ↔ ∀ y, y ∈ b → y ∉ toldC Ps a given := by
  unfold apartB; rw [if_pos hl, decide_eq_true_iff]
/-- some of b are told of, as a hit -/
theorem told_hit (hb : InN Ps.length b) : (∃ y, y ∈ b ∧ y ∈ toldC Ps a given) ↔ Hit (toG Ps) (Zp given) (Ap (toG Ps) given) (· ∈ a.map Int.toNat) (· ∈ b.map Int.toNat) := by
  constructor
  · rintro ⟨y, hy, ht⟩
    obtain ⟨z, rfl, _, ⟨u, q, m, hq, hz, hg⟩, h3⟩ := mem_toldC.1 ht
    exact ⟨z, u, List.mem_map.2 ⟨_, hy, by simp⟩, (fun h => by unfold Zp at h; rw [h3] at h; cases h), q, m, hq, (fun h => by unfold Zp at h; rw [hz] at h; cases h), hg⟩
  · rintro ⟨z, u, hzb, hz, q, m, hq, hqz, hg⟩
    obtain ⟨y, hy, rfl⟩ := List.mem_map.1 hzb
    have hyr := hb y hy
    refine ⟨y, hy, mem_toldC.2 ⟨y.toNat, by omega, by omega, ⟨u, q, m, hq, ?_, hg⟩, ?_⟩⟩
    · cases h : zB given q
      · rfl
      · exact absurd h hqz
    · cases h : zB given y.toNat
      · rfl
      · exact absurd h hz
theorem apart_even (hc : checkP Ps = 0) (ha : InN Ps.length a) (hb : InN Ps.length b) (hg : InN Ps.length given) : apartB Ps a b given = apartB Ps b a given := by
  have hl1 := lookE_ok hc hg.row (ha.app hb).row
  have hl2 := lookE_ok hc hg.row (hb.app ha).row
  have hgood := good_toG (checkP_ok hc).1
  have hin : ∀ z, z ∈ given → 0 ≤ z ∧ z < ((toG Ps).length : Int) := fun z hz => by rw [toG_length]; exact hg z hz
  have key : ∀ {x y : List Int}, InN Ps.length x → InN Ps.length y → (∃ z, z ∈ y ∧ z ∈ toldC Ps x given) → ∃ z, z ∈ x ∧ z ∈ toldC Ps y given := fun {x y} hx hy h => by
    rw [told_hit hy] at h
    rw [told_hit hx]
    exact Hit.swap (abOk hgood hin) (ap_up hgood hin) h
  rw [Bool.eq_iff_iff, apart_iff hl1, apart_iff hl2]
  constructor
  · intro h y hy ht
    obtain ⟨z, hz, hz2⟩ := key hb ha ⟨y, hy, ht⟩
    exact h z hz hz2
  · intro h y hy ht
    obtain ⟨z, hz, hz2⟩ := key ha hb ⟨y, hy, ht⟩
    exact h z hz hz2
theorem apart_one {x y : Int} (hl : lookE Ps given ([x] ++ [y]) = 0) : apartB Ps [x] [y] given = !decide (y ∈ toldC Ps [x] given) := by
  rw [Bool.eq_iff_iff, apart_iff hl, Bool.not_eq_true', decide_eq_false_iff_not]
  simp
/-- apart, point by point -/
theorem apart_all (hl : lookE Ps given (a ++ b) = 0) : apartB Ps a b given = decide (∀ x, x ∈ a → ∀ y, y ∈ b → y ∉ toldC Ps [x] given) := by
  rw [Bool.eq_iff_iff, apart_iff hl, decide_eq_true_iff]
  constructor
  · intro h x hx y hy ht
    exact h y hy (mem_toldC_one.2 ⟨x, hx, ht⟩)
  · intro h y hy ht
    obtain ⟨x, hx, ht2⟩ := mem_toldC_one.1 ht
    exact h x hx y hy ht2
end
end Go.Proofs.Ytaibdlnolpbpiaa
