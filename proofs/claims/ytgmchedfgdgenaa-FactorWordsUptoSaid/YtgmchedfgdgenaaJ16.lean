/- Joined by program out of: Own, ROut. What each says stands at its own head. -/
import Derived.Test.YtgmchedfgdgenaaJ15
import Derived.Test.YtgmchedfgdgenaaJ1
import Derived.Laws.OwnMore
import Derived.Test.YtgmchedfgdgenaaROutM
import Derived.Test.YtgmchedfgdgenaaDrop13
import Derived.Test.YtgmchedfgdgenaaJ12
import Derived.Test.YtgmchedfgdgenaaJ14
import Derived.Test.YtgmchedfgdgenaaCheck
import Derived.Deep.RegionHeld3
/- Memory of the call's own: make and append with an element type's facts in one word; a row of slices that each own a row. Conditions: lengths within Go's bound. -/
namespace Go.Proofs.Ytgmchedfgdgenaa
open Go.RowKit

theorem eiInt : EI Try.prog 22 3 (.int .i64 0) 8 := .mk' Try.underlying22 (by kernel_rfl) rfl (by omega)
theorem eiRows : EI Try.prog 113 22 (.slice none 0 0) 24 := .mk' Try.underlying113 (by kernel_rfl) rfl (by omega)

/-- block g is a row of n slices, each owning a row among the blocks from g + 1 on, no two the same one; slice p holds f p -/
structure Owns {α : Type} (enc : α → Value) (w : World) (g : Nat) (te e : TypeId) (n : Nat) (vs : List (Option Addr × Nat × Nat)) (f : Nat → List α) : Prop where
  row : RowAt eS w g te vs []
  len : vs.length = n
  own : ∀ p, p < n → OwnR enc w (g + 1) e (nth vs p).1 (nth vs p).2.1 (nth vs p).2.2 (f p)
  far : ∀ p q, p < n → q < n → p ≠ q → ∀ b, (nth vs p).1 = some ⟨b, 0, none⟩ → (nth vs q).1 ≠ some ⟨b, 0, none⟩
section
variable {α : Type} {enc : α → Value} {w w' : World} {g n : Nat} {te e : TypeId} {vs : List (Option Addr × Nat × Nat)} {f : Nat → List α}
theorem Owns.start (h : RowAt eS w g te (List.replicate n (none, 0, 0)) []) : Owns enc w g te e n (List.replicate n (none, 0, 0)) (fun _ => []) := by
  have hn : ∀ p, p < n → nth (List.replicate n ((none : Option Addr), 0, 0)) p = (none, 0, 0) := fun p hp => by rw [nth_eq (by simpa using hp)]; simp
  exact ⟨h, by simp, fun p hp => by rw [hn p hp]; exact OwnR.nil _ _ _ _, fun p q hp hq _ b e => by rw [hn p hp] at e; cases e⟩
theorem Owns.below (h : Owns enc w g te e n vs f) (hb : Below w.heap.size w w') : Owns enc w' g te e n vs f :=
  ⟨h.row.below hb h.row.lt, h.len, fun p hp => (h.own p hp).below (Nat.le_refl _) hb, h.far⟩
instance : Stable (fun w => Owns enc w g te e n vs f) := ⟨fun hb h => h.below hb⟩
theorem Owns.cell (h : Owns enc w g te e n vs f) {p : Nat} (hp : p < n) : w.cell? ⟨g, p, none⟩ = some (.slice (nth vs p).1 (nth vs p).2.1 (nth vs p).2.2) := h.row.cell (by rw [h.len]; exact hp)
theorem Owns.rows [Inhabited α] (h : Owns enc w g te e n vs f) (hn : n ≤ 140737488351232) (hl : ∀ p, p < n → (f p).length ≤ 140737488351232) : Rows enc w (some ⟨g, 0, none⟩) n ((List.range n).map f) := by
  refine ⟨⟨vs, ?_, fun i hi => ?_⟩, by simp⟩
  · have := h.row.sl (by rw [h.len]; exact hn); rw [h.len] at this; exact this
  · rw [nth_map _ (by simpa using hi)]
    have e : nth (List.range n) i = i := by rw [nth_eq (by simpa using hi)]; simp
    rw [e]
    have h1 := (h.own i hi).length
    have h2 := hl i hi
    exact ⟨(h.own i hi).sl (by omega), (h.own i hi).cap⟩
theorem Owns.rowsF [Inhabited α] (h : Owns enc w g te e n vs f) (hn : n ≤ 140737488351232) (hl : ∀ p, p < n → (f p).length ≤ 140737488351232) : RowsF g enc w (some ⟨g, 0, none⟩) n ((List.range n).map f) := by
  refine ⟨⟨vs, ?_, fun b off e => by injection e with e; injection e with e; omega, fun i hi => ⟨?_, ((h.own i hi).fr).mono (Nat.le_succ g), (h.own i hi).cap⟩⟩, by simp⟩
  · have := h.row.sl (by rw [h.len]; exact hn); rw [h.len] at this; exact this
  · rw [nth_map _ (by simpa using hi)]
    have e : nth (List.range n) i = i := by rw [nth_eq (by simpa using hi)]; simp
    rw [e]
    have h1 := (h.own i hi).length
    have h2 := hl i hi
    exact (h.own i hi).sl (by omega)
/-- behind an append onto slice p: what has turned is its own row, or a new one -/
theorem Owns.append (h : Owns enc w g te e n vs f) {p : Nat} (hp : p < n) {A' : Option Addr} {m' c' : Nat} {ys : List α} (hown : OwnR enc w' (g + 1) e A' m' c' ys)
    (hg : w.grownBy w' (Value.slice (nth vs p).1 (nth vs p).2.1 (nth vs p).2.2).ownBlock) (hd : (Value.slice A' m' c').ownBlock = (Value.slice (nth vs p).1 (nth vs p).2.1 (nth vs p).2.2).ownBlock ∨ ∃ b, (Value.slice A' m' c').ownBlock = some b ∧ w.heap.size ≤ b) :
    Owns enc (w'.setCell ⟨g, p, none⟩ (.slice A' m' c')) g te e n (vs.set p (A', m', c')) (fun x => if x = p then ys else f x) := by
  have hne : ∀ b, (nth vs p).1 = some ⟨b, 0, none⟩ → g < b := fun b e => by
    rcases (h.own p hp).at_row with h1 | ⟨g', h1, h2, _⟩
    · rw [e] at h1; cases h1
    · rw [e] at h1; injection h1 with h1; injection h1 with h1; omega
  have hob : ∀ b, (Value.slice (nth vs p).1 (nth vs p).2.1 (nth vs p).2.2).ownBlock = some b → (nth vs p).1 = some ⟨b, 0, none⟩ := fun b e => by
    rcases (h.own p hp).at_row with h1 | ⟨g', h1, _⟩
    · rw [h1] at e; cases e
    · rw [h1] at e ⊢; injection e with e; rw [← e]
  have hrow : RowAt eS w' g te vs [] := h.row.grown hg fun e => by
    have := hne g (hob g e.symm)
    omega
  have hset := hrow.set (j := p) (by rw [h.len]; exact hp) (A', m', c')
  have hA : ∀ b, A' = some ⟨b, 0, none⟩ → g < b ∧ ((nth vs p).1 = some ⟨b, 0, none⟩ ∨ w.heap.size ≤ b) := fun b e => by
    have h1 : g < b := by
      rcases hown.at_row with h1 | ⟨g', h1, h2, _⟩
      · rw [e] at h1; cases h1
      · rw [e] at h1; injection h1 with h1; injection h1 with h1; omega
    refine ⟨h1, ?_⟩
    have h2 : (Value.slice A' m' c').ownBlock = some b := by rw [e]; rfl
    rcases hd with hd | hd
    · exact .inl (hob b (by rw [← hd]; exact h2))
    · obtain ⟨b', hd, hle⟩ := hd
      rw [h2] at hd; injection hd with hd; subst hd; exact .inr hle
  refine ⟨hset, by simpa using h.len, fun q hq => ?_, fun q r hq hr hqr b e1 e2 => ?_⟩
  · by_cases hqp : q = p
    · subst hqp
      rw [nth_set_same (by rw [h.len]; exact hq), if_pos rfl]
      exact hown.setFar (fun b e => by have := (hA b e).1; simp; omega) _
    · rw [nth_set_other (fun e => hqp e.symm), if_neg hqp]
      refine ((h.own q hq).grown hg fun b e e2 => ?_).setFar (fun b e => ?_) _
      · exact h.far q p hq hp hqp b e (hob b e2)
      · rcases (h.own q hq).at_row with h1 | ⟨g', h1, h2, _⟩
        · rw [e] at h1; cases h1
        · rw [e] at h1; injection h1 with h1; injection h1 with h1; simp; omega
  · have hlt : ∀ q b, q < n → (nth vs q).1 = some ⟨b, 0, none⟩ → b < w.heap.size := fun q b hq e => by
      rcases (h.own q hq).at_row with h1 | ⟨g', h1, _, h3⟩
      · rw [e] at h1; cases h1
      · rw [e] at h1; injection h1 with h1; injection h1 with h1; omega
    by_cases hqp : q = p
    · subst hqp
      rw [nth_set_same (by rw [h.len]; exact hq)] at e1
      rw [nth_set_other hqr] at e2
      rcases (hA b e1).2 with h1 | h1
      · exact h.far q r hq hr hqr b h1 e2
      · have := hlt r b hr e2; omega
    · rw [nth_set_other (fun e => hqp e.symm)] at e1
      by_cases hrp : r = p
      · subst hrp
        rw [nth_set_same (by rw [h.len]; exact hr)] at e2
        rcases (hA b e2).2 with h1 | h1
        · exact h.far q r hq hr hqr b e1 h1
        · have := hlt q b hq e1; omega
      · rw [nth_set_other (fun e => hrp e.symm)] at e2
        exact h.far q r hq hr hqr b e1 e2
end
end Go.Proofs.Ytgmchedfgdgenaa
/- The reference's Out, walked. Conditions: the lists read, within Go's bound. -/
namespace Go.Proofs.Ytgmchedfgdgenaa
open Go.RowKit
attribute [local go_sem] Oper.semAt_some

theorem isIn_mem {v : Int} {S : List Int} : isIn cmpI v S = true ↔ v ∈ S := by
  rw [isIn_iff]
  constructor
  · rintro ⟨y, hy, h0⟩
    rw [cmpI_zero] at h0
    subst h0
    exact hy
  · intro h
    exact ⟨v, h, by rw [cmpI_zero]⟩
def ROutPost (S Z : List Int) (m : Nat) (v : Int) (w : World) (e : Ending) (w' : World) : Prop :=
  (outErr S Z m v ≠ 0 ∧ e = .returned (.tuple #[.agg #[.slice none 0 0, .slice none 0 0, .int .i64 0], .slice none 0 0, .int .i64 (outErr S Z m v)]) ∧ Below w.heap.size w w') ∨
  (outErr S Z m v = 0 ∧ ∃ p z step P : Nat, OutAt S Z v m p z step P ∧ ∃ A c B d C k, e = .returned (.tuple #[.agg #[.slice A (S.length - 1) c, .slice B (S.length - 1) d, .int .i64 ((P * step : Nat) : Int)], .slice C (P * step) k, .int .i64 0]) ∧
    OwnR (Value.int .i64) w' w.heap.size 3 A (S.length - 1) c (S.take p ++ S.drop (p + 1)) ∧ OwnR (Value.int .i64) w' w.heap.size 3 B (S.length - 1) d (Z.take p ++ Z.drop (p + 1)) ∧ RowsF w.heap.size (Value.int .i64) w' C (P * step) ((List.range (P * step)).map (rowL z step m)) ∧ Below w.heap.size w w')
set_option maxRecDepth 100000 in
set_option maxHeartbeats 4000000 in
theorem rout_any (A1 A2 : Option Addr) (n1 c1 n2 c2 m : Nat) (S Z : List Int) (v : Int) (w : World) (h1 : Sl (Value.int .i64) w A1 n1 S) (h2 : Sl (Value.int .i64) w A2 n2 Z) (hb : (n1 + 1) * 8 ≤ 140737488351232) :
    Calls Try.prog 54 #[.agg #[.slice A1 n1 c1, .slice A2 n2 c2, .int .i64 (m : Int)], .int .i64 v] w (ROutPost S Z m v w) := by
  have HL := Lib.hid (And.intro h1.len h2.len)
  have H0 := ((((Held.init w).sl h1).sl h2).new 29 [.slice A1 n1 c1, .slice A2 n2 c2, .int .i64 (m : Int)]).new 29 [.slice none 0 0, .slice none 0 0, .int .i64 0]
  simp only [World.size_alloc] at H0
  clear h1 h2
  have a0 := H0.has.2.1.cell 0
  have a1 := H0.has.2.1.cell 1
  have a2 := H0.has.2.1.cell 2
  go_enter Try.func54, Try.ntmps54
  go_wp2_with fail
  refine (rcheck_any A1 A2 n1 c1 n2 c2 (m : Int) S Z _ H0.has.2.2.2.1 H0.has.2.2.1).mono ?_
  rintro e w1 ⟨rfl, hb1⟩
  have H1 := H0.step hb1
  clear H0 hb1 a0 a1 a2
  generalize hck1 : checkC S Z m = ck1 at *
  have HK := Lib.hid hck1
  clear hck1
  by_cases hk1 : ck1 = 0
  · subst hk1
    obtain ⟨T, hN⟩ := checkC_ok HK.out
    obtain rfl : n2 = n1 := by have := T.len; have := HL.out.1; have := HL.out.2; omega
    have HT := Lib.hid (And.intro T hN)
    clear T hN
    have a0 := H1.has.2.1.cell 0
    go_wp2_with fail
    refine (find_any A1 n2 c1 S v _ H1.has.2.2.2.1).mono ?_
    rintro e w2 ⟨rfl, rfl⟩
    by_cases hin : v ∈ S
    · obtain ⟨p, hp, hv⟩ := mem_nth hin
      rw [findF_at (asc_nodup HT.out.1.asc) hp hv]
      have hpn : p < n2 := by rw [← HL.out.1]; exact hp
      obtain ⟨z, step, P, hO⟩ := outAt_of HT.out.1 HT.out.2 hp
      rw [hv] at hO
      have hz1 := hO.z1
      have hs1 := hO.s1
      have hz := hO.size
      have hmm := hO.m
      have hm31 : m ≤ 2147483647 := by have := HT.out.1.cnt; have := HT.out.2; omega
      have hq : m / z = P * step := by rw [hmm, ← Nat.mul_assoc]; exact Nat.mul_div_cancel _ (by omega)
      obtain ⟨Q, hQ⟩ : ∃ Q, Q = P * step := ⟨_, rfl⟩
      rw [← hQ] at hq
      have hQm : Q ≤ m := by rw [← hq]; exact Nat.div_le_self _ _
      have herr : outErr S Z m v = 0 := by unfold outErr; rw [HK.out, isIn_mem.2 hin]; simp
      have hpx : decide ((p : Int) < 0) = false := by simp
      have HO := Lib.hid (And.intro hO (And.intro hz (And.intro hq (And.intro hQ (And.intro herr (And.intro hp hv))))))
      have a1 := H1.has.2.1.cell 1
      have a2 := H1.has.2.1.cell 2
      clear hO hz hmm hq hQ herr hp hv hin
      go_wp2_with fail
      refine (drop_any A1 A2 n2 c1 c2 m p z S Z _ H1.has.2.2.2.1 H1.has.2.2.1 (by omega) hpn HO.out.2.1 hz1 (by omega)).mono ?_
      rintro e w3 ⟨A, c, B, d, rfl, oA, oB, hb3⟩
      rw [HO.out.2.2.1]
      have H3 := (((H1.step hb3).own oA).own oB).new 29 [.slice A (n2 - 1) c, .slice B (n2 - 1) d, .int .i64 (Q : Int)]
      have HC := Lib.hid H3
      have hw1 : w.heap.size + 1 < w1.heap.size := H1.has.1.lt
      have hw3 := hb3.size
      have s2 := H3.has.1.cell 2
      have hmk : 24 * Q ≤ 281474976710656 := by omega
      clear oA oB hb3 H1 H3 a0 a1 a2
      go_wp2_with (first
        | (at_make; refine wpList_mk _ eiRows eS (none, 0, 0) rfl rfl _ _ rfl Q rfl rfl hmk ?_)
        | fail)
      intro w5 hr hb5
      obtain ⟨g, hg⟩ : ∃ g, g = w3.heap.size + 1 := ⟨_, rfl⟩
      rw [← hg] at hr hb5 ⊢
      obtain ⟨w4, hw4⟩ : ∃ w4, w4 = w3.alloc (.cells [.slice A (n2 - 1) c, .slice B (n2 - 1) d, .int .i64 (Q : Int)].toArray 29) := ⟨_, rfl⟩
      have hg4 : w4.heap.size = g := by rw [hw4, hg]; simp
      have H4 : Held w _ w4 := hw4 ▸ HC.out
      have hb5 : Below g w4 w5 := hw4 ▸ hb5
      have hO := Owns.start (enc := Value.int .i64) (e := 3) hr
      have HS := Lib.hid (And.intro hO (And.intro hb5 (And.intro hg hg4)))
      have HC := Lib.hid H4
      clear hr hb5 hg hw4 hg4 H4 hO s2
      go_wp2_with fail
      go_loopw [11] (fun x wr => ∃ (i : Nat) (vs : List (Option Addr × Nat × Nat)), i ≤ m ∧ x = .int .i64 (i : Nat) ∧ Owns (Value.int .i64) wr g 22 3 Q vs (rowL z step i) ∧ Below w4.heap.size w4 wr) (fun x _ => m - (intOf x).toNat)
      case atStart => exact ⟨0, _, Nat.zero_le _, rfl, HS.out.1, by rw [HS.out.2.2.2]; exact HS.out.2.1⟩
      case round =>
        obtain ⟨i, vs, hi, rfl, hO, hbr⟩ := hrel
        have H := Held.and (Q := fun w => Below w4.heap.size w4 w) (Held.and (Q := fun w => Owns (Value.int .i64) w g 22 3 Q vs (rowL z step i)) (HC.out.step hbr) hO) hbr
        have a2 := H.has.2.2.2.2.2.2.1.cell 2
        by_cases hlt : i < m
        · have hdg := HO.out.1.digits HT.out.1 HT.out.2 hlt
          have htd := take_drop_asg (asc_nodup HT.out.1.asc) (show S.length = (dgL Z i).length by rw [dgL_length, HT.out.1.len]) p
          have hzd : ∀ y, y ∈ Z.take p ++ Z.drop (p + 1) → 1 ≤ y := fun y hy => by
            rcases List.mem_append.1 hy with h | h
            · exact HT.out.1.one y (List.mem_of_mem_take h)
            · exact HT.out.1.one y (List.mem_of_mem_drop h)
          have hat : atC (Z.take p ++ Z.drop (p + 1)) ((S.take p ++ S.drop (p + 1)).map (asg S (dgL Z i))) = (((keyF z step i : Nat) : Int), 0) := by
            rw [htd, atC_ok (by simp [dgL_length]) (fun j hj => ?_)]
            · rw [hdg.1]
            · have hll : (Z.take p).length = p := by rw [List.length_take]; have := HL.out.2; omega
              have hld : ((dgL Z i).take p).length = p := by rw [List.length_take, dgL_length]; have := HL.out.2; omega
              rw [List.length_append, hll, List.length_drop] at hj
              have hZl := HL.out.2
              by_cases hjp : j < p
              · rw [nth_append_left (by omega), nth_append_left (by omega), nth_take hjp, nth_take hjp]
                exact dgL_range HT.out.1.one i (by omega)
              · rw [nth_append_right (by omega), nth_append_right (by omega), nth_drop, nth_drop, hld, hll]
                exact dgL_range HT.out.1.one i (by omega)
          obtain ⟨k, hk⟩ : ∃ k, k = keyF z step i := ⟨_, rfl⟩
          have hkQ : k < Q := by rw [hk, HO.out.2.2.2.1]; exact hdg.2
          rw [← hk] at hat
          have HA := Lib.hid (And.intro hat (And.intro hk hzd))
          have hcnt : sufP (Z.take p ++ Z.drop (p + 1)) 0 ≤ 2147483647 := by
            have h1 := sufP_pos HT.out.1.one p
            have h2 : sufP Z 0 = sufP (Z.take p) 0 * sufP (Z.drop p) 0 := by rw [← sufP_append, List.take_append_drop]
            have hpZ : p < Z.length := by rw [HL.out.2]; exact hpn
            rw [sufP_append, sufP_drop]
            rw [sufP_drop, sufP_step hpZ] at h2
            have h3 := HT.out.1.one _ (nth_mem hpZ)
            have h4 := sufP_pos (Z := Z.take p) (fun y hy => HT.out.1.one y (List.mem_of_mem_take hy)) 0
            have h5 := sufP_pos HT.out.1.one (p + 1)
            have h6 : 1 * sufP Z (p + 1) ≤ nth Z p * sufP Z (p + 1) := Int.mul_le_mul_of_nonneg_right h3 (by omega)
            have h7 := Int.mul_le_mul_of_nonneg_left h6 (show 0 ≤ sufP (Z.take p) 0 by omega)
            have h8 := HT.out.1.cnt
            rw [Int.one_mul] at h7
            omega
          have HCN := Lib.hid hcnt
          have a1 := H.has.2.2.2.2.2.2.1.cell 1
          clear hdg htd hzd hat hk hcnt
          go_wp2_with fail
          refine (rdig_any A2 n2 c2 Z i _ H.has.2.2.2.2.2.2.2.1 (by omega) HT.out.1.one HT.out.1.cnt (by rw [HT.out.2]; omega)).mono ?_
          rintro e w6 ⟨V, rfl, sV, hb6⟩
          have H6 := (H.step hb6).sl sV
          have HD := Lib.hid H6.drew
          have s0 := H6.has.2.2.2.1.cell 0
          have s1 := H6.has.2.2.2.1.cell 1
          have b0 := H6.has.2.2.2.2.2.2.2.1.cell 0
          clear H H6 sV hb6 a1 a2 hO hbr
          go_wp2_with fail
          go_region_held3 (fun w' => w'.cell? ⟨w3.heap.size, 0, none⟩ = some (.slice A (n2 - 1) c) ∧ w'.cell? ⟨w3.heap.size, 1, none⟩ = some (.slice B (n2 - 1) d) ∧ w'.cell? ⟨w.heap.size, 0, none⟩ = some (.slice A1 n2 c1)) (first | assumption | exact ⟨s0, s1, b0⟩ | go_keep)
            (first
              | ((go_at_call 79); (refine (part_any A1 V A n2 c1 n2 (n2 - 1) c S (dgL Z i) (S.take p ++ S.drop (p + 1)) _ HD.out.has.2.2.2.2.2.2.2.2.2.1 HD.out.has.1 (HD.out.has.2.2.2.2.2.1.sl (by omega)) (by omega) (asc_nodup HT.out.1.asc) (fun x hx => by rcases List.mem_append.1 hx with h | h; exact List.mem_of_mem_take h; exact List.mem_of_mem_drop h)).mono ?_); (rintro e w7 ⟨D7, q7, rfl, hoD, hbD⟩); (have GS := (HD.out.step hbD).own hoD); (have s0 := GS.has.2.2.2.2.1.cell 0); (have s1 := GS.has.2.2.2.2.1.cell 1); (have b0 := GS.has.2.2.2.2.2.2.2.2.1.cell 0))
              | ((go_at_call 78); (refine (rat_any B D7 (n2 - 1) d (n2 - 1) q7 (Z.take p ++ Z.drop (p + 1)) ((S.take p ++ S.drop (p + 1)).map (asg S (dgL Z i))) _ (GS.has.2.2.2.2.2.1.sl (by omega)) (GS.has.1.sl (by omega)) HA.out.2.2 HCN.out).mono ?_); (rintro e w8 ⟨rfl, qq, rfl⟩); (rw [HA.out.1]); (have GC := GS.drewN qq); (have s0 := GC.has.2.2.2.2.1.cell 0); (have s1 := GC.has.2.2.2.2.1.cell 1); (have b0 := GC.has.2.2.2.2.2.2.2.2.1.cell 0)))
          clear s0 s1 b0 GS hoD hbD
          obtain ⟨wc, hwc⟩ : ∃ wc, wc = w7.drewN qq := ⟨_, rfl⟩
          rw [← hwc] at GC ⊢
          clear hwc
          have hown := GC.has.2.2.2.1
          have hbr := GC.has.2.2.1
          have hbase := GC.bel
          have g3 := hown.cell hkQ
          have f3 := hown.row.frozen k
          have hos := (hown.own k hkQ).alloc (.cells #[.int .i64 (i : Int)] 3)
          have hol := hos.length
          have hlen := rowL_length z step i k
          have hHO := Lib.hid (And.intro hown (And.intro hbr hbase))
          have hpz : g ≤ wc.heap.size := by have := hbr.size; have := HS.out.2.2.2; omega
          have hpl := hown.row.lt
          have hq8 : ((nth vs k).2.1 + 1) * 8 ≤ 140737488355328 := by omega
          have hsz : g + 1 ≤ (wc.alloc (.cells #[.int .i64 (i : Int)] 3)).heap.size := by simp at hpl ⊢; omega
          clear GC hown hbr hbase
          go_wp2_with (first
            | (at_builtin; refine wpList_app _ eiI (Value.int .i64) (fun _ => rfl) rfl _ _ rfl (g + 1) _ _ _ _ rfl hos _ _ _ _ rfl (Sl.one (enc := Value.int .i64) _ _ _) hq8 hsz ?_)
            | fail)
          intro A9 c9 w9 ho9 hg9 _ hd9
          have ho10 := hHO.out.1.append hkQ (by simpa using ho9) (grown_trans (World.grownBy_alloc wc (.cells #[.int .i64 (i : Int)] 3) _) hg9) (hd9.imp id fun e => ⟨_, e, by simp⟩)
          have hb10 := ((hHO.out.2.1.alloc hHO.out.2.1.size (.cells #[.int .i64 (i : Int)] 3)).grown hg9 (by have := hHO.out.2.1.size; simp; omega) (fun b e => by
            have h8 := HS.out.2.2.2
            have h9 := (hHO.out.1.own k hkQ).geT ((hHO.out.1.own k hkQ).block_eq e)
            omega)).setCell (p := ⟨g, k, none⟩) (by show w4.heap.size ≤ g; have := HS.out.2.2.2; omega) (.slice A9 ((nth vs k).2.1 + 1) c9)
          have hr9 : RowAt eS w9 g 22 vs [] := (hHO.out.1.row.alloc _).grown hg9 fun e => by have := (hHO.out.1.own k hkQ).at_row; rcases this with e2 | ⟨g', e2, e3, _⟩ <;> rw [e2] at e <;> cases e; exact absurd e3 (Nat.not_succ_le_self _)
          have c9' := hr9.cell (j := k) (by rw [hHO.out.1.len]; exact hkQ)
          have f9 := hr9.frozen k
          have hsuc : (fun x => if x = k then rowL z step i k ++ [(i : Int)] else rowL z step i x) = rowL z step (i + 1) := by
            funext x
            rw [rowL_succ, ← HA.out.2.1]
            by_cases hx : x = k
            · rw [if_pos hx, if_pos hx, hx]
            · rw [if_neg hx, if_neg hx]
          rw [hsuc] at ho10
          have H9 := Lib.hid (And.intro ho10 hb10)
          clear ho10 hb10 hr9 ho9 hg9 hd9 hsuc hos
          go_wp2_with fail
          exact ⟨⟨i + 1, _, by omega, by go_num, H9.out.1, H9.out.2⟩, by simp [intOf]; omega⟩
        · obtain rfl : i = m := by omega
          have hres := H.has.2.2.2.2.2.1
          have x0 := hres.cell 0
          have x1 := hres.cell 1
          have x2 := hres.cell 2
          have f0 := hres.frozen 0
          have f1 := hres.frozen 1
          have f2 := hres.frozen 2
          have s0 := H.has.2.2.1.cell 0
          have s1 := H.has.2.2.1.cell 1
          have s2 := H.has.2.2.1.cell 2
          have HE := Lib.hid H
          clear H hO hbr hres
          go_wp2_with fail
          obtain ⟨wz, hwz⟩ : ∃ wz, wz = (((wr.setCell ⟨w.heap.size + 1, 0, none⟩ (.slice A (n2 - 1) c)).setCell ⟨w.heap.size + 1, 1, none⟩ (.slice B (n2 - 1) d)).setCell ⟨w.heap.size + 1, 2, none⟩ (.int .i64 (Q : Int))) := ⟨_, rfl⟩
          obtain ⟨y0, y1, y2, hbz, htz⟩ := set3 HE.out.bel HE.out.has.2.2.2.2.2.1 (by omega) hwz
          rw [← hwz]
          have hoA := HE.out.has.2.2.2.2.1
          have hoB := HE.out.has.2.2.2.1
          refine bodyPost_ret (v := .tuple #[.agg #[.slice A (n2 - 1) c, .slice B (n2 - 1) d, .int .i64 (Q : Int)], .slice (some ⟨g, 0, none⟩) Q Q, .int .i64 0]) (by simp [results, Try.results54, go_sem, y0, y1, y2]) rfl (.inr ⟨HO.out.2.2.2.2.1, p, z, step, P, HO.out.1, A, c, B, d, some ⟨g, 0, none⟩, Q, ?_, ?_, ?_, ?_, hbz⟩)
          · rw [HL.out.1, HO.out.2.2.2.1]
          · rw [HL.out.1]
            exact (hoA.turn htz (fun q e e2 => by have := hoA.geT e; omega)).mono (by omega)
          · rw [HL.out.1]
            exact (hoB.turn htz (fun q e e2 => by have := hoB.geT e; omega)).mono (by omega)
          · rw [← HO.out.2.2.2.1]
            have hR := HE.out.has.2.1
            have hg5 := HS.out.2.2.1
            have hOw : Owns (Value.int .i64) wz g 22 3 Q vs (rowL z step i) := ⟨hR.row.turn htz (by omega), hR.len, fun q hq => (hR.own q hq).turn htz (fun b e e2 => by have := (hR.own q hq).geT e; omega), hR.far⟩
            exact (hOw.rowsF (by omega) (fun q _ => by have := rowL_length z step i q; omega)).mono (by omega)
    · rw [findF_none hin]
      have hq : outErr S Z m v = 61 := by
        unfold outErr
        rw [HK.out]
        have : isIn cmpI v S = false := by
          rcases h : isIn cmpI v S with _ | _
          · rfl
          · exact absurd (isIn_mem.1 h) hin
        simp [this]
      have HQ := Lib.hid hq
      have hnz : (61 : Int) ≠ 0 := by decide
      clear hq hin a0
      have x0 := H1.has.1.cell 0
      have x1 := H1.has.1.cell 1
      have x2 := H1.has.1.cell 2
      have f0 := H1.has.1.frozen 0
      have f1 := H1.has.1.frozen 1
      have f2 := H1.has.1.frozen 2
      have HE := Lib.hid H1
      clear H1
      go_wp2_with fail
      obtain ⟨wz, hwz⟩ : ∃ wz, wz = (((w1.setCell ⟨w.heap.size + 1, 0, none⟩ (.slice none 0 0)).setCell ⟨w.heap.size + 1, 1, none⟩ (.slice none 0 0)).setCell ⟨w.heap.size + 1, 2, none⟩ (.int .i64 0)) := ⟨_, rfl⟩
      obtain ⟨y0, y1, y2, hbz, htz⟩ := set3 HE.out.bel HE.out.has.1 (by omega) hwz
      rw [← hwz]
      exact bodyPost_ret (v := .tuple #[.agg #[.slice none 0 0, .slice none 0 0, .int .i64 0], .slice none 0 0, .int .i64 61]) (by simp [results, Try.results54, go_sem, y0, y1, y2]) rfl (.inl ⟨by rw [HQ.out]; exact hnz, by rw [HQ.out], hbz⟩)
  · have hnz := hk1
    have hne : decide (ck1 = 0) = false := by simpa using hk1
    have hq : outErr S Z m v = ck1 := by unfold outErr; rw [HK.out]; simp [hk1]
    have HQ := Lib.hid hq
    clear hq hk1
    have x0 := H1.has.1.cell 0
    have x1 := H1.has.1.cell 1
    have x2 := H1.has.1.cell 2
    have f0 := H1.has.1.frozen 0
    have f1 := H1.has.1.frozen 1
    have f2 := H1.has.1.frozen 2
    have HE := Lib.hid H1
    clear H1
    go_wp2_with fail
    obtain ⟨wz, hwz⟩ : ∃ wz, wz = (((w1.setCell ⟨w.heap.size + 1, 0, none⟩ (.slice none 0 0)).setCell ⟨w.heap.size + 1, 1, none⟩ (.slice none 0 0)).setCell ⟨w.heap.size + 1, 2, none⟩ (.int .i64 0)) := ⟨_, rfl⟩
    obtain ⟨y0, y1, y2, hbz, htz⟩ := set3 HE.out.bel HE.out.has.1 (by omega) hwz
    rw [← hwz]
    exact bodyPost_ret (v := .tuple #[.agg #[.slice none 0 0, .slice none 0 0, .int .i64 0], .slice none 0 0, .int .i64 ck1]) (by simp [results, Try.results54, go_sem, y0, y1, y2]) rfl (.inl ⟨by rw [HQ.out]; exact hnz, by rw [HQ.out], hbz⟩)
end Go.Proofs.Ytgmchedfgdgenaa
