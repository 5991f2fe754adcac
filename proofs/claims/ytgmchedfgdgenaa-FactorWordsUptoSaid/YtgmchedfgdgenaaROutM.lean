/- The reference's Out, in plain words. No condition. -/
import Derived.Test.YtgmchedfgdgenaaJ10
import Derived.Test.YtgmchedfgdgenaaFCellsM
namespace Go.Proofs.Ytgmchedfgdgenaa
open Go.RowKit

/-- to which cell of the answer a cell goes -/
def keyF (z step i : Nat) : Nat := i / (step * z) * step + i % step
theorem sufP_append (A B : List Int) : sufP (A ++ B) 0 = sufP A 0 * sufP B 0 := by
  unfold sufP
  rw [List.drop_zero, List.drop_zero, List.drop_zero]
  induction A with
  | nil => simp
  | cons x A ih => rw [List.cons_append, List.foldr_cons, List.foldr_cons, ih, Int.mul_assoc]
theorem atS_append : ∀ {A a : List Int} (B b : List Int), A.length = a.length → atS (A ++ B) (a ++ b) = atS A a * sufP B 0 + atS B b
  | [], [], B, b, _ => by simp [atS]
  | x :: A, y :: a, B, b, h => by
    have h1 : A.length = a.length := by simpa using h
    rw [List.cons_append, List.cons_append, atS_cons, atS_cons, atS_append B b h1, sufP_append, Int.add_mul, Int.mul_right_comm, Int.add_assoc]
  | [], _ :: _, _, _, h => by simp at h
  | _ :: _, [], _, _, h => by simp at h
theorem sufP_drop (Z : List Int) (p : Nat) : sufP (Z.drop p) 0 = sufP Z p := by unfold sufP; simp
section
variable {S Z : List Int} {v : Int} {m p z step P : Nat}
theorem OutAt.digits (h : OutAt S Z v m p z step P) (T : TabOk S Z) (hm : sufP Z 0 = (m : Int)) {i : Nat} (hi : i < m) :
    atS (Z.take p ++ Z.drop (p + 1)) ((dgL Z i).take p ++ (dgL Z i).drop (p + 1)) = (keyF z step i : Int) ∧ keyF z step i < P * step := by
  have hpZ : p < Z.length := by rw [T.len]; exact h.lt
  have hpd : p < (dgL Z i).length := by rw [dgL_length]; exact hpZ
  have hat := atS_dgL T.one i (by rw [hm]; omega)
  have hs := h.apart
  have e1 : Z.drop p = (z : Int) :: Z.drop (p + 1) := by rw [List.drop_eq_getElem_cons hpZ, ← nth_eq hpZ, h.size]
  obtain ⟨x, hx⟩ : ∃ x, x = nth (dgL Z i) p := ⟨_, rfl⟩
  have e2 : (dgL Z i).drop p = x :: (dgL Z i).drop (p + 1) := by rw [List.drop_eq_getElem_cons hpd, ← nth_eq hpd, hx]
  have hxr := dgL_range T.one i hpZ
  rw [← hx, h.size] at hxr
  have hlen : (Z.take p).length = ((dgL Z i).take p).length := by rw [List.length_take, List.length_take, dgL_length]
  have hlen2 : (Z.drop (p + 1)).length = ((dgL Z i).drop (p + 1)).length := by rw [List.length_drop, List.length_drop, dgL_length]
  have h1 : atS Z (dgL Z i) = atS (Z.take p) ((dgL Z i).take p) * sufP (Z.drop p) 0 + atS (Z.drop p) ((dgL Z i).drop p) := by
    rw [← atS_append _ _ hlen, List.take_append_drop, List.take_append_drop]
  have hlo := atS_range hlen2 (fun y hy => T.one y (List.mem_of_mem_drop hy)) (fun j hj => by
    rw [nth_drop, nth_drop]
    rw [List.length_drop] at hj
    exact dgL_range T.one i (by omega))
  have hhi := atS_range hlen (fun y hy => T.one y (List.mem_of_mem_take hy)) (fun j hj => by
    rw [List.length_take] at hj
    rw [nth_take (by omega), nth_take (by omega)]
    exact dgL_range T.one i (by omega))
  rw [sufP_drop, hs] at hlo
  obtain ⟨lo, hlo'⟩ : ∃ lo : Nat, atS (Z.drop (p + 1)) ((dgL Z i).drop (p + 1)) = (lo : Int) := ⟨(atS (Z.drop (p + 1)) ((dgL Z i).drop (p + 1))).toNat, by omega⟩
  obtain ⟨hi', hhi'⟩ : ∃ hi' : Nat, atS (Z.take p) ((dgL Z i).take p) = (hi' : Int) := ⟨(atS (Z.take p) ((dgL Z i).take p)).toNat, by omega⟩
  obtain ⟨xn, hxn⟩ : ∃ xn : Nat, x = (xn : Int) := ⟨x.toNat, by omega⟩
  rw [hat, sufP_drop, sufP_step hpZ, h.size, hs, e1, e2, atS_cons, sufP_drop, hs, hlo', hhi', hxn] at h1
  have h2 : i = hi' * (z * step) + (step * xn + lo) := by
    have : ((i : Nat) : Int) = ((hi' * (z * step) + (step * xn + lo) : Nat) : Int) := by rw [h1]; simp [Int.natCast_mul, Int.natCast_add]
    exact Int.ofNat.inj this
  have hlol : lo < step := by omega
  have hxz : xn < z := by omega
  have hin : step * xn + lo < step * z := by
    have : step * (xn + 1) ≤ step * z := Nat.mul_le_mul_left _ hxz
    rw [Nat.mul_add, Nat.mul_one] at this
    omega
  have k1 : i / (step * z) = hi' := by
    rw [h2, Nat.mul_comm z step, Nat.mul_comm hi', Nat.mul_add_div (by have := h.s1; have := h.z1; exact Nat.mul_pos h.s1 h.z1), Nat.div_eq_of_lt hin, Nat.add_zero]
  have k2 : i % step = lo := by
    rw [h2, Nat.mul_comm z step, ← Nat.mul_assoc, Nat.mul_comm hi' step, Nat.mul_assoc, ← Nat.add_assoc, ← Nat.mul_add, Nat.mul_add_mod, Nat.mod_eq_of_lt hlol]
  have key : keyF z step i = hi' * step + lo := by unfold keyF; rw [k1, k2]
  refine ⟨?_, ?_⟩
  · rw [atS_append _ _ hlen, sufP_drop, hs, hlo', hhi', key]; simp [Int.natCast_mul, Int.natCast_add]
  · rw [key]
    have hPm := h.m
    have h3 : hi' < P := by
      rw [← k1]
      exact Nat.div_lt_of_lt_mul (by rw [Nat.mul_comm, ← hPm]; exact hi)
    have h4 : (hi' + 1) * step ≤ P * step := Nat.mul_le_mul_right _ h3
    rw [Nat.add_mul, Nat.one_mul] at h4
    omega
/-- the cells that go to cell t, in order -/
def rowL (z step i t : Nat) : List Int := ((List.range i).filter fun x => keyF z step x == t).map fun x : Nat => (x : Int)
theorem rowL_succ (z step i t : Nat) : rowL z step (i + 1) t = if t = keyF z step i then rowL z step i t ++ [(i : Int)] else rowL z step i t := by
  unfold rowL
  rw [List.range_succ, List.filter_append, List.map_append]
  by_cases h : t = keyF z step i
  · rw [if_pos h, h]; simp
  · rw [if_neg h]
    have : (keyF z step i == t) = false := by rw [beq_eq_false_iff_ne]; exact fun e => h e.symm
    simp [this]
theorem rowL_length (z step i t : Nat) : (rowL z step i t).length ≤ i := by
  unfold rowL
  rw [List.length_map]
  exact Nat.le_trans (List.length_filter_le _ _) (by simp)
theorem keyF_at {z step t j : Nat} (hs : 1 ≤ step) (hj : j < z) : keyF z step (t / step * (step * z) + t % step + j * step) = t := by
  unfold keyF
  have h1 : t % step < step := Nat.mod_lt _ hs
  have h2 : t % step + j * step < step * z := by
    have : step * (j + 1) ≤ step * z := Nat.mul_le_mul_left _ hj
    rw [Nat.mul_add, Nat.mul_one, Nat.mul_comm step j] at this
    omega
  have k1 : (t / step * (step * z) + t % step + j * step) / (step * z) = t / step := by
    rw [Nat.add_assoc, Nat.mul_comm (t / step), Nat.mul_add_div (Nat.mul_pos hs (by omega)), Nat.div_eq_of_lt h2, Nat.add_zero]
  have k2 : (t / step * (step * z) + t % step + j * step) % step = t % step := by
    rw [Nat.mul_comm (t / step), Nat.mul_assoc, Nat.add_assoc, Nat.mul_add_mod, Nat.add_mul_mod_self_right, Nat.mod_mod]
  rw [k1, k2, Nat.mul_comm]
  exact Nat.div_add_mod t step
theorem OutAt.rows (h : OutAt S Z v m p z step P) {t : Nat} (ht : t < P * step) : rowL z step m t = (List.range z).map fun j : Nat => (((firstF z step t).toNat + j * step : Nat) : Int) := by
  have hf : (firstF z step t).toNat = t / step * (step * z) + t % step := by unfold firstF; exact Int.toNat_natCast _
  refine Asc.ext cmpokI ?_ ?_ fun x => ?_
  · unfold Asc rowL
    rw [List.pairwise_map]
    refine List.Pairwise.imp (fun {a b} hab => ?_) (List.Pairwise.filter _ (List.pairwise_lt_range (n := m)))
    rw [cmpI_neg]; omega
  · unfold Asc
    rw [List.pairwise_map]
    refine List.Pairwise.imp (fun {a b} hab => ?_) (List.pairwise_lt_range (n := z))
    rw [cmpI_neg]
    have h1 : (a + 1) * step ≤ b * step := Nat.mul_le_mul_right _ hab
    rw [Nat.add_mul, Nat.one_mul] at h1
    have := h.s1
    omega
  · unfold rowL
    simp only [List.mem_map, List.mem_filter, List.mem_range, beq_iff_eq]
    constructor
    · rintro ⟨i, ⟨hi, hk⟩, rfl⟩
      refine ⟨i / step % z, Nat.mod_lt _ h.z1, ?_⟩
      congr 1
      rw [hf, ← hk]
      unfold keyF
      have hs := h.s1
      have h1 : i % step < step := Nat.mod_lt _ hs
      have k1 : (i / (step * z) * step + i % step) / step = i / (step * z) := by
        rw [Nat.mul_comm, Nat.mul_add_div (by omega), Nat.div_eq_of_lt h1, Nat.add_zero]
      have k2 : (i / (step * z) * step + i % step) % step = i % step := by rw [Nat.mul_comm, Nat.mul_add_mod, Nat.mod_mod]
      rw [k1, k2]
      have a1 := Nat.div_add_mod i step
      have a2 := Nat.div_add_mod (i / step) z
      rw [Nat.div_div_eq_div_mul] at a2
      have a3 : step * (z * (i / (step * z)) + i / step % z) + i % step = i := by rw [a2]; exact a1
      rw [Nat.mul_add, ← Nat.mul_assoc] at a3
      rw [Nat.mul_comm (i / (step * z)) (step * z), Nat.mul_comm (i / step % z) step]
      omega
    · rintro ⟨j, hj, rfl⟩
      refine ⟨(firstF z step t).toNat + j * step, ⟨h.first_lt ht hj, ?_⟩, rfl⟩
      rw [hf]
      exact keyF_at h.s1 hj
end
theorem take_drop_asg {S d : List Int} (hn : S.Nodup) (hl : S.length = d.length) (p : Nat) : (S.take p ++ S.drop (p + 1)).map (asg S d) = d.take p ++ d.drop (p + 1) := by
  rw [List.map_append, List.map_take, List.map_drop, asg_map hn hl]
end Go.Proofs.Ytgmchedfgdgenaa
