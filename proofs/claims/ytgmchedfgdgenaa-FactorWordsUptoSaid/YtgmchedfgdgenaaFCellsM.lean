/- FactorCells in plain words: what mended tables, their product and their cells come to. No condition. -/
import Derived.Test.YtgmchedfgdgenaaMend13
import Derived.Test.YtgmchedfgdgenaaJ14
import Derived.Test.YtgmchedfgdgenaaTimesI
namespace Go.Proofs.Ytgmchedfgdgenaa
open Go.RowKit

theorem qF_snoc {Z : List Int} {z : Int} {a : Nat} : ∀ {k : Nat}, k ≤ Z.length → qF (Z ++ [z]) a (k + 1) = qF Z (a / z.toNat) k
  | 0, _ => by
    show a / (nth (Z ++ [z]) ((Z ++ [z]).length - 1 - 0)).toNat = a / z.toNat
    rw [show (Z ++ [z]).length - 1 - 0 = Z.length by simp, nth_append_right (Nat.le_refl _), Nat.sub_self]
    rfl
  | k + 1, h => by
    show qF (Z ++ [z]) a (k + 1) / (nth (Z ++ [z]) ((Z ++ [z]).length - 1 - (k + 1))).toNat = qF Z (a / z.toNat) k / (nth Z (Z.length - 1 - k)).toNat
    rw [qF_snoc (by omega), show (Z ++ [z]).length - 1 - (k + 1) = Z.length - 1 - k by simp; omega, nth_append_left (by omega)]
theorem dgL_snoc (Z : List Int) (z : Int) (a : Nat) : dgL (Z ++ [z]) a = dgL Z (a / z.toNat) ++ [((a % z.toNat : Nat) : Int)] := by
  apply nth_ext
  · simp [dgL]
  · intro j hj
    have hj' : j < Z.length + 1 := by simpa [dgL] using hj
    rw [nth_dgL (by simpa using hj')]
    by_cases h : j < Z.length
    · rw [nth_append_left (by simpa [dgL] using h), nth_dgL h]
      unfold dgAt
      rw [show (Z ++ [z]).length - 1 - j = (Z.length - 1 - j) + 1 by simp; omega, qF_snoc (by omega), nth_append_left h]
    · obtain rfl : j = Z.length := by omega
      rw [nth_append_right (by simp [dgL]), dgL_length, Nat.sub_self]
      unfold dgAt
      rw [show (Z ++ [z]).length - 1 - Z.length = 0 by simp, nth_append_right (Nat.le_refl _), Nat.sub_self]
      rfl
theorem snoc_ind {α : Type} {P : List α → Prop} (h0 : P []) (h1 : ∀ l x, P l → P (l ++ [x])) (l : List α) : P l := by
  have : ∀ n, ∀ l : List α, l.length = n → P l := by
    intro n
    induction n with
    | zero => intro l hl; rw [List.eq_nil_of_length_eq_zero hl]; exact h0
    | succ n ih =>
      intro l hl
      have hne : l ≠ [] := by rintro rfl; simp at hl
      rw [← List.dropLast_concat_getLast hne]
      exact h1 _ _ (ih _ (by rw [List.length_dropLast, hl]; rfl))
  exact this _ l rfl
theorem atS_dgL {Z : List Int} : (∀ z, z ∈ Z → 1 ≤ z) → ∀ a : Nat, (a : Int) < sufP Z 0 → atS Z (dgL Z a) = (a : Int) := by
  refine snoc_ind (P := fun Z => (∀ z, z ∈ Z → 1 ≤ z) → ∀ a : Nat, (a : Int) < sufP Z 0 → atS Z (dgL Z a) = (a : Int)) ?_ ?_ Z
  · intro _ a ha
    have : sufP [] 0 = 1 := rfl
    rw [this] at ha
    obtain rfl : a = 0 := by omega
    rfl
  · intro Z z ih hz a ha
    have hz1 := hz z (by simp)
    rw [sufP_snoc] at ha
    rw [dgL_snoc, atS_snoc (by rw [dgL_length]), ih (fun y hy => hz y (by simp [hy]))]
    · have e1 : ((z.toNat : Nat) : Int) = z := by omega
      have h2 := Nat.div_add_mod a z.toNat
      have h3 : ((z.toNat * (a / z.toNat) + a % z.toNat : Nat) : Int) = (a : Int) := by rw [h2]
      rw [Int.natCast_add, Int.natCast_mul, e1, Int.mul_comm] at h3
      exact h3
    · have e1 : ((z.toNat : Nat) : Int) = z := by omega
      have h4 : a < (sufP Z 0).toNat * z.toNat := by
        have h5 := sufP_pos (Z := Z) (fun y hy => hz y (by simp [hy])) 0
        have e2 : (((sufP Z 0).toNat : Nat) : Int) = sufP Z 0 := by omega
        have h6 : ((a : Nat) : Int) < (((sufP Z 0).toNat * z.toNat : Nat) : Int) := by rw [Int.natCast_mul, e1, e2]; exact ha
        exact Int.ofNat_lt.1 h6
      have h7 : a / z.toNat < (sufP Z 0).toNat := Nat.div_lt_of_lt_mul (by rw [Nat.mul_comm]; exact h4)
      have h8 := sufP_pos (Z := Z) (fun y hy => hz y (by simp [hy])) 0
      generalize a / z.toNat = q at h7 ⊢
      omega
theorem someIn_none {U d : List Int} {x : Int} : ∀ {k : Nat}, k ≤ U.length → (∀ j, j < k → nth U j ≠ x) → someIn U d x k = []
  | 0, _, _ => rfl
  | k + 1, h, hn => by
    rw [someIn_succ, someIn_none (by omega) (fun j hj => hn j (by omega)), if_neg (hn k (by omega))]
    rfl
theorem someIn_one {U d : List Int} (hn : U.Nodup) {p : Nat} (hp : p < U.length) : ∀ {k : Nat}, k ≤ U.length → p < k → someIn U d (nth U p) k = [nth d p]
  | 0, _, h => by omega
  | k + 1, h, hk => by
    rw [someIn_succ]
    by_cases hq : p = k
    · subst hq
      rw [someIn_none (by omega) (fun j hj e => by
        rw [nth_eq (by omega), nth_eq hp] at e
        have := (List.getElem_inj hn).1 e
        omega), if_pos rfl]
      rfl
    · rw [someIn_one hn hp (by omega) (by omega), if_neg (fun e => by
        rw [nth_eq (by omega), nth_eq hp] at e
        have := (List.getElem_inj hn).1 e
        omega)]
      rfl
theorem some_map {U d of : List Int} (hn : U.Nodup) (hl : U.length = d.length) (hs : ∀ x, x ∈ of → x ∈ U) : ∀ i, i ≤ of.length → someF U d of i = (of.take i).map (asg U d)
  | 0, _ => rfl
  | i + 1, h => by
    rw [someF_succ, some_map hn hl hs i (by omega), take_snoc (by omega), List.map_append]
    obtain ⟨p, hp, he⟩ := mem_nth (hs _ (nth_mem (show i < of.length by omega)))
    rw [← he, someIn_one hn hp (Nat.le_refl _) hp, List.map_cons, List.map_nil, asg_nth hn hl hp]
theorem all_same {α : Type} {f g : α → Bool} : ∀ {l : List α}, (∀ x, x ∈ l → f x = g x) → l.all f = l.all g
  | [], _ => rfl
  | x :: l, h => by rw [List.all_cons, List.all_cons, h x (by simp), all_same fun y hy => h y (by simp [hy])]
theorem checkC_of {S Z : List Int} {m : Int} (hl : S.length = Z.length) (hok : okAt S Z S.length = true) (hz : ∀ z, z ∈ Z → 1 ≤ z) (hm : sufP Z 0 = m) (hm2 : m ≤ 2147483647) : checkC S Z m = 0 := by
  unfold checkC
  have hc : cntC Z = (sufP Z 0, 0) := by rw [cntC_eq hz, if_neg (by omega)]
  rw [if_neg (by simpa using hl), if_neg (by rw [hok]; simp), hc]
  simp [hm]
def riseS (f : Nat → Bool) (v : Nat) : List Int := ((List.range v).filter f).map fun v : Nat => (v : Int)
def riseZ (f : Nat → Bool) (v : Nat) : List Int := ((List.range v).filter f).map fun v : Nat => (v : Int) % 3 + 1
theorem riseS_succ (f : Nat → Bool) (v : Nat) : riseS f (v + 1) = if f v = true then riseS f v ++ [(v : Int)] else riseS f v := by
  unfold riseS; rw [List.range_succ, List.filter_append, List.map_append]
  by_cases h : f v = true <;> simp [h]
theorem riseZ_succ (f : Nat → Bool) (v : Nat) : riseZ f (v + 1) = if f v = true then riseZ f v ++ [(v : Int) % 3 + 1] else riseZ f v := by
  unfold riseZ; rw [List.range_succ, List.filter_append, List.map_append]
  by_cases h : f v = true <;> simp [h]
theorem rise_length (f : Nat → Bool) (v : Nat) : (riseS f v).length = (riseZ f v).length := by simp [riseS, riseZ]
theorem riseZ_one (f : Nat → Bool) (v : Nat) : ∀ z, z ∈ riseZ f v → 1 ≤ z := by
  intro z hz
  obtain ⟨u, _, rfl⟩ := List.mem_map.1 hz
  omega
theorem riseS_length_le (f : Nat → Bool) (v : Nat) : (riseS f v).length ≤ v := by
  unfold riseS; rw [List.length_map]; exact Nat.le_trans (List.length_filter_le _ _) (by simp)
theorem mend_is (S : List Int) (v : Nat) : mendS S v = riseS (inB S) v ∧ mendZ S v = riseZ (inB S) v := ⟨rfl, rfl⟩
theorem rise_rise (f : Nat → Bool) : ∀ v, okAt (riseS f v) (riseZ f v) (riseS f v).length = true ∧ ∀ x, x ∈ riseS f v → x < (v : Int)
  | 0 => ⟨rfl, fun x hx => by simp [riseS] at hx⟩
  | v + 1 => by
    obtain ⟨h1, h2⟩ := rise_rise f v
    have hlt := riseS_succ f v
    have hzt := riseZ_succ f v
    rcases hin : f v with _ | _
    · rw [hin] at hlt hzt
      simp only [Bool.false_eq_true, if_false] at hlt hzt
      rw [hlt, hzt]
      exact ⟨h1, fun x hx => by have := h2 x hx; omega⟩
    · rw [hin] at hlt hzt
      simp only [if_true] at hlt hzt
      rw [hlt, hzt]
      refine ⟨?_, fun x hx => ?_⟩
      · have hml := rise_length f v
        rw [List.length_append, List.length_cons, List.length_nil, Nat.zero_add, okAt_succ]
        have e1 : okAt (riseS f v ++ [(v : Int)]) (riseZ f v ++ [(v : Int) % 3 + 1]) (riseS f v).length = true := by
          rw [← h1]
          unfold okAt
          refine all_same fun j hj => ?_
          have hj' := List.mem_range.1 hj
          have e6 : nth (riseZ f v ++ [(v : Int) % 3 + 1]) j = nth (riseZ f v) j := nth_append_left (by omega)
          rw [nth_append_left hj', e6]
          by_cases hj0 : j = 0
          · subst hj0; rfl
          · rw [nth_append_left (by omega)]
        have e4 : nth (riseS f v ++ [(v : Int)]) (riseZ f v).length = (v : Int) := by rw [← hml, nth_append_right (Nat.le_refl _), Nat.sub_self]; rfl
        have e5 : nth (riseZ f v ++ [(v : Int) % 3 + 1]) (riseZ f v).length = (v : Int) % 3 + 1 := by rw [nth_append_right (Nat.le_refl _), Nat.sub_self]; rfl
        rw [e1, hml, e4, e5]
        have d1 : decide (0 ≤ (v : Int)) = true := by simp
        have d2 : decide (1 ≤ (v : Int) % 3 + 1) = true := by simp; omega
        have d3 : ((riseZ f v).length == 0 || decide (nth (riseS f v ++ [(v : Int)]) ((riseZ f v).length - 1) < (v : Int))) = true := by
          by_cases h0 : (riseZ f v).length = 0
          · simp [h0]
          · have hlt2 : (riseZ f v).length - 1 < (riseS f v).length := by omega
            rw [nth_append_left hlt2]
            have := h2 _ (nth_mem hlt2)
            simp [this]
        rw [d1, d2, d3]
        rfl
      · rcases List.mem_append.1 hx with h | h
        · have := h2 x h; omega
        · obtain rfl : x = (v : Int) := by simpa using h
          omega
theorem mem_mendS {S : List Int} {x : Int} : x ∈ mendS S 8 ↔ ∃ v : Nat, v < 8 ∧ inB S v = true ∧ x = (v : Int) := by
  unfold mendS
  simp only [List.mem_map, List.mem_filter, List.mem_range]
  constructor
  · rintro ⟨v, ⟨h1, h2⟩, rfl⟩; exact ⟨v, h1, h2, rfl⟩
  · rintro ⟨v, h1, h2, rfl⟩; exact ⟨v, ⟨h1, h2⟩, rfl⟩
theorem prod3_le : ∀ l : List Nat, sufP (l.map fun v : Nat => (v : Int) % 3 + 1) 0 ≤ (3 : Int) ^ l.length ∧ 1 ≤ sufP (l.map fun v : Nat => (v : Int) % 3 + 1) 0
  | [] => by simp [sufP]
  | v :: l => by
    obtain ⟨h1, h2⟩ := prod3_le l
    have e : sufP ((v :: l).map fun v : Nat => (v : Int) % 3 + 1) 0 = ((v : Int) % 3 + 1) * sufP (l.map fun v : Nat => (v : Int) % 3 + 1) 0 := by simp [sufP]
    rw [e, List.length_cons, Int.pow_succ, Int.mul_comm ((3 : Int) ^ l.length) 3]
    have h3 : (v : Int) % 3 + 1 ≤ 3 := by omega
    have h4 : 1 ≤ (v : Int) % 3 + 1 := by omega
    have h5 := Int.mul_le_mul h3 h1 (by omega) (by omega)
    have h6 := Int.mul_le_mul h4 h2 (by omega) (by omega)
    exact ⟨h5, by omega⟩
theorem rise_cells (f : Nat → Bool) : 1 ≤ sufP (riseZ f 8) 0 ∧ sufP (riseZ f 8) 0 ≤ 6561 := by
  have h := prod3_le ((List.range 8).filter f)
  refine ⟨h.2, Int.le_trans h.1 ?_⟩
  have hl : ((List.range 8).filter f).length ≤ 8 := by
    have := List.length_filter_le f (List.range 8)
    simpa using this
  have : ∀ k, k ≤ 8 → (3 : Int) ^ k ≤ 6561 := by decide
  exact this _ hl
theorem rise_check {f : Nat → Bool} {N : Nat} (hN : (N : Int) = sufP (riseZ f 8) 0) : checkC (riseS f 8) (riseZ f 8) N = 0 :=
  checkC_of (rise_length f 8) (rise_rise f 8).1 (riseZ_one f 8) hN.symm (by have := rise_cells f; omega)
theorem mend_check {S : List Int} {N : Nat} (hN : (N : Int) = sufP (mendZ S 8) 0) : checkC (mendS S 8) (mendZ S 8) N = 0 := rise_check (f := inB S) hN
theorem mendZ_nth {S : List Int} {i : Nat} (h : i < (mendS S 8).length) : nth (mendZ S 8) i = nth (mendS S 8) i % 3 + 1 := by
  unfold mendS at h ⊢
  unfold mendZ
  rw [List.length_map] at h
  rw [nth_map _ h, nth_map _ h]
theorem mendZ_map (S : List Int) : mendZ S 8 = (mendS S 8).map fun x => x % 3 + 1 := by
  unfold mendS mendZ
  rw [List.map_map]
  rfl
section
variable {S1 S2 : List Int}
theorem mend_size {x : Int} (h : x ∈ uniL (mendS S1 8) (mendS S2 8)) : sizeF (mendS S1 8) (mendZ S1 8) (mendS S2 8) (mendZ S2 8) x = x % 3 + 1 := by
  unfold sizeF
  rcases h1 : (mendS S1 8).idxOf? x with _ | i
  · simp only
    rcases h2 : (mendS S2 8).idxOf? x with _ | j
    · exfalso
      rcases mem_uni.1 h with h | h
      · exact idxOf_none.1 h1 h
      · exact idxOf_none.1 h2 h
    · have := idxOf_some h2
      simp only
      rw [mendZ_nth this.1, this.2]
  · have := idxOf_some h1
    simp only
    rw [mendZ_nth this.1, this.2]
theorem mend_clash : (uniL (mendS S1 8) (mendS S2 8)).any (clash (mendS S1 8) (mendZ S1 8) (mendS S2 8) (mendZ S2 8)) = false := by
  rw [List.any_eq_false]
  intro x _
  unfold clash
  rcases h1 : (mendS S1 8).idxOf? x with _ | i
  · simp
  · rcases h2 : (mendS S2 8).idxOf? x with _ | j
    · simp
    · have e1 := idxOf_some h1
      have e2 := idxOf_some h2
      simp only
      rw [mendZ_nth e1.1, e1.2, mendZ_nth e2.1, e2.2]
      simp
theorem mend_uniZ : uniZ (mendS S1 8) (mendZ S1 8) (mendS S2 8) (mendZ S2 8) = (uniL (mendS S1 8) (mendS S2 8)).map fun x => x % 3 + 1 := by
  unfold uniZ
  exact List.map_congr_left fun x hx => mend_size hx
theorem mend_uni : uniL (mendS S1 8) (mendS S2 8) = riseS (fun v => inB S1 v || inB S2 v) 8 := by
  unfold riseS
  refine Asc.ext cmpokI (asc_uni _ _) ?_ fun x => ?_
  · unfold Asc
    rw [List.pairwise_map]
    refine List.Pairwise.imp (fun {a b} hab => ?_) (List.Pairwise.filter _ (List.pairwise_lt_range (n := 8)))
    rw [cmpI_neg]; omega
  · rw [mem_uni, mem_mendS, mem_mendS]
    simp only [List.mem_map, List.mem_filter, List.mem_range, Bool.or_eq_true]
    constructor
    · rintro (⟨v, h1, h2, rfl⟩ | ⟨v, h1, h2, rfl⟩)
      · exact ⟨v, ⟨h1, .inl h2⟩, rfl⟩
      · exact ⟨v, ⟨h1, .inr h2⟩, rfl⟩
    · rintro ⟨v, ⟨h1, h2 | h2⟩, rfl⟩
      · exact .inl ⟨v, h1, h2, rfl⟩
      · exact .inr ⟨v, h1, h2, rfl⟩
theorem mend_uniZ' : uniZ (mendS S1 8) (mendZ S1 8) (mendS S2 8) (mendZ S2 8) = riseZ (fun v => inB S1 v || inB S2 v) 8 := by
  rw [mend_uniZ, mend_uni]
  unfold riseS riseZ
  rw [List.map_map]
  rfl
theorem mend_cells : 1 ≤ sufP (uniZ (mendS S1 8) (mendZ S1 8) (mendS S2 8) (mendZ S2 8)) 0 ∧ sufP (uniZ (mendS S1 8) (mendZ S1 8) (mendS S2 8) (mendZ S2 8)) 0 ≤ 6561 := by
  rw [mend_uniZ']
  exact rise_cells _
theorem mend_err {N1 N2 : Nat} (h1 : (N1 : Int) = sufP (mendZ S1 8) 0) (h2 : (N2 : Int) = sufP (mendZ S2 8) 0) : timesErr (mendS S1 8) (mendZ S1 8) N1 (mendS S2 8) (mendZ S2 8) N2 = 0 := by
  have hc := mend_cells (S1 := S1) (S2 := S2)
  unfold uniZ at hc
  unfold timesErr
  rw [mend_check h1, mend_check h2, mend_clash]
  simp
  omega
end
/-- the digits at which a part's cell is asked fit -/
theorem part_atC {U S Z : List Int} {F : Int → Int} (hU : Asc cmpI U) (T : TabOk S Z) (hSU : ∀ x, x ∈ S → x ∈ U) (hF : ∀ i, i < S.length → F (nth S i) = nth Z i) (hone : ∀ z, z ∈ U.map F → 1 ≤ z) (k : Nat) :
    (atC Z (S.map (asg U (dgL (U.map F) k)))).2 = 0 := by
  have hn : U.Nodup := asc_nodup hU
  have hlen : U.length = (dgL (U.map F) k).length := by rw [dgL_length, List.length_map]
  rw [atC_ok (by rw [List.length_map, T.len])]
  intro i hi
  have hi2 : i < S.length := by have := T.len; omega
  rw [nth_map _ hi2]
  obtain ⟨p, hp, he⟩ := mem_nth (hSU _ (nth_mem hi2))
  rw [← he, asg_nth hn hlen hp]
  have h1 := dgL_range hone k (i := p) (by rw [List.length_map]; exact hp)
  rw [nth_map _ hp, he, hF i hi2] at h1
  exact h1
theorem rise_asc (f : Nat → Bool) : Asc cmpI (riseS f 8) := by
  unfold Asc riseS
  rw [List.pairwise_map]
  refine List.Pairwise.imp (fun {a b} hab => ?_) (List.Pairwise.filter _ (List.pairwise_lt_range (n := 8)))
  rw [cmpI_neg]; omega
theorem rise_tab {f : Nat → Bool} : TabOk (riseS f 8) (riseZ f 8) :=
  ⟨rise_asc f, (rise_length f 8).symm, riseZ_one f 8, by have := rise_cells f; omega, fun v hv => by
    obtain ⟨u, _, rfl⟩ := List.mem_map.1 hv
    omega⟩
theorem riseZ_map (f : Nat → Bool) : (riseS f 8).map (fun x => x % 3 + 1) = riseZ f 8 := by
  unfold riseS riseZ; rw [List.map_map]; rfl
theorem part_law {f g : Nat → Bool} (hfg : ∀ v, g v = true → f v = true) {N : Nat} (hN : (N : Int) = sufP (riseZ g 8) 0) (q : Nat) :
    someF (riseS f 8) (dgL (riseZ f 8) q) (riseS g 8) (riseS g 8).length = (riseS g 8).map (asg (riseS f 8) (dgL (riseZ f 8) q)) ∧
      cellErr_i (riseS g 8) (riseZ g 8) N ((riseS g 8).map (asg (riseS f 8) (dgL (riseZ f 8) q))) = 0 := by
  have hsub : ∀ x, x ∈ riseS g 8 → x ∈ riseS f 8 := fun x hx => by
    unfold riseS at hx ⊢
    obtain ⟨v, hv, rfl⟩ := List.mem_map.1 hx
    obtain ⟨h1, h2⟩ := List.mem_filter.1 hv
    exact List.mem_map.2 ⟨v, List.mem_filter.2 ⟨h1, hfg v h2⟩, rfl⟩
  refine ⟨?_, ?_⟩
  · rw [some_map (asc_nodup (rise_asc f)) (by rw [dgL_length, rise_length]) hsub _ (Nat.le_refl _), List.take_length]
  · unfold cellErr_i
    rw [rise_check hN]
    simp only [ne_eq, not_true_eq_false, if_false]
    have h := part_atC (F := fun x => x % 3 + 1) (rise_asc f) (rise_tab (f := g)) hsub (fun i hi => by
      rw [← riseZ_map g, nth_map _ hi]) (by rw [riseZ_map]; exact riseZ_one f 8) q
    rw [riseZ_map] at h
    exact h
theorem whole_law {f : Nat → Bool} {N : Nat} (hN : (N : Int) = sufP (riseZ f 8) 0) {q : Nat} (hq : q < N) : cellErr_i (riseS f 8) (riseZ f 8) N (dgL (riseZ f 8) q) = 0 ∧ (atS (riseZ f 8) (dgL (riseZ f 8) q)).toNat = q := by
  refine ⟨?_, ?_⟩
  · unfold cellErr_i
    rw [rise_check hN]
    simp only [ne_eq, not_true_eq_false, if_false]
    rw [atC_ok (dgL_length _ _) (fun i hi => dgL_range (riseZ_one f 8) q hi)]
  · rw [atS_dgL (riseZ_one f 8) q (by omega)]
    simp
theorem prod_nth {S1 Z1 L1 S2 Z2 L2 : List Int} {N q : Nat} (hq : q < N) : nth (prod_i S1 Z1 L1 S2 Z2 L2 N) q = pcell_i S1 Z1 L1 S2 Z2 L2 q := by
  unfold prod_i
  rw [nth_map _ (by simpa using hq), nth_eq (by simpa using hq)]
  simp
theorem prod_length {S1 Z1 L1 S2 Z2 L2 : List Int} {N : Nat} : (prod_i S1 Z1 L1 S2 Z2 L2 N).length = N := by simp [prod_i]
/-- a part's values, asked of the whole's -/
def partD (f g : Nat → Bool) (q : Nat) : List Int := (riseS g 8).map (asg (riseS f 8) (dgL (riseZ f 8) q))
theorem some_part {f g : Nat → Bool} (hfg : ∀ v, g v = true → f v = true) {N : Nat} (hN : (N : Int) = sufP (riseZ g 8) 0) (q : Nat) (A B C : Option Addr) (u c c2 x c3 : Nat) (hx : x = (riseS g 8).length) (hu : u = (riseS f 8).length) (w : World)
    (hU : Sl (Value.int .i64) w A u (riseS f 8)) (hd : Sl (Value.int .i64) w B u (dgL (riseZ f 8) q)) (ho : Sl (Value.int .i64) w C x (riseS g 8)) :
    Calls Try.prog 26 #[.slice A u c, .slice B u c2, .slice C x c3] w fun e w' => ∃ D k, e = .returned (.slice D x k) ∧ OwnR (Value.int .i64) w' w.heap.size 3 D x k (partD f g q) ∧ Below w.heap.size w w' := by
  have h1 := riseS_length_le f 8
  have h2 := riseS_length_le g 8
  have h3 : x * u ≤ 64 := by
    have := Nat.mul_le_mul (show x ≤ 8 by omega) (show u ≤ 8 by omega)
    omega
  refine (some_any A B C u c c2 x c3 (riseS f 8) (dgL (riseZ f 8) q) (riseS g 8) w hU hd ho (by omega)).mono ?_
  rintro e w' ⟨D, k, rfl, h4, h5⟩
  rw [hx, (part_law hfg hN q).1] at h4 ⊢
  have hl : ((riseS g 8).map (asg (riseS f 8) (dgL (riseZ f 8) q))).length = (riseS g 8).length := List.length_map _
  rw [hl] at h4 ⊢
  exact ⟨D, k, rfl, h4, h5⟩
theorem cell_part {f g : Nat → Bool} (hfg : ∀ v, g v = true → f v = true) {N : Nat} (hN : (N : Int) = sufP (riseZ g 8) 0) (q : Nat) (A1 A2 A3 A : Option Addr) (n1 c1 n2 c2 c3 n c : Nat) (L : List Int) (hL : L.length = N) (w : World)
    (h1 : Sl (Value.int .i64) w A1 n1 (riseS g 8)) (h2 : Sl (Value.int .i64) w A2 n2 (riseZ g 8)) (h3 : Sl (Value.int .i64) w A3 N L) (hd : Sl (Value.int .i64) w A n (partD f g q)) :
    Calls Try.prog 25 #[.agg #[.slice A1 n1 c1, .slice A2 n2 c2, .slice A3 N c3], .slice A n c] w fun e w' => e = .returned (.tuple #[.int .i64 (nth L (atS (riseZ g 8) (partD f g q)).toNat), .int .i64 0]) ∧ Below w.heap.size w w' := by
  refine (cell_i A1 A2 A3 A n1 c1 n2 c2 N c3 n c (riseS g 8) (riseZ g 8) L (partD f g q) w h1 h2 h3 hd).mono ?_
  rintro e w' ⟨hp, hb⟩
  have he := (part_law hfg hN q).2
  rw [hL] at hp
  rcases hp with ⟨h, _⟩ | ⟨_, h⟩
  · exact absurd he h
  · exact ⟨h, hb⟩
end Go.Proofs.Ytgmchedfgdgenaa
