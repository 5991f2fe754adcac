/- slices.Grow of the nil slice, slices.Concat, at ints, walked. Conditions: lengths within Go's bound. -/
import Derived.Test.YtaibdlnolpbpiaaSetAll
import Derived.Lib.AppendZerosOnto
namespace Go.Proofs.Ytaibdlnolpbpiaa
open Go.RowKit

theorem wpList_append_ran (w : World) {ops : Array Oper} {rest : List Oper} {o : Oper} {a : Act} {Q : Exit → Act → World → Prop} (hg : o.guard = none) (s x : Operand) (t1 t2 : TypeId)
    (ho : o.op = .call { callee := .builtin .append, args := #[s, x], argTypes := #[t1, t2] }) (u v r : Value) (w' : World) (hs : a.eval s = u) (hx : a.eval x = v)
    (hrun : ∀ ty, (Builtin.append_ #[t1, t2] ty #[u, v]).run Try.prog w = .ok r w') (h : wpList Try.prog ops Q rest (a.put o.dst r) w') : wpList Try.prog ops Q (o :: rest) a w := by
  refine wpList_plain hg fun K hK => ?_
  unfold Oper.wp execOp
  simp only [ho, resolve, invoke, builtin, Sem.run_bind, Sem.run_pure, Result.andThen_ok, List.map_toArray, List.map_cons, List.map_nil, hs, hx, hrun]
  exact hK _ _ h
set_option maxRecDepth 100000 in
set_option maxHeartbeats 800000 in
theorem grow_nil (n : Nat) (w : World) (hn : n * 8 ≤ 140737488355328) :
    Calls Try.prog 70 #[.slice none 0 0, .int .i64 n] w fun e w' => ∃ A c, e = .returned (.slice A 0 c) ∧ OwnR (Value.int .i64) w' w.heap.size 3 A 0 c ([] : List Int) ∧ Below w.heap.size w w' := by
  obtain ⟨wa, hwa⟩ : ∃ wa : World, wa = w := ⟨_, rfl⟩
  subst hwa
  rcases Nat.eq_zero_or_pos n with rfl | h0
  · go_enter Try.func70, Try.ntmps70
    go_wp2_with fail
    go_ret
    exact ⟨none, 0, rfl, OwnR.nil _ _ _ _, Below.refl _ _⟩
  · obtain ⟨⟨i, e1, e2, e3, e4, e5⟩, hz, hp⟩ := eiInt
    have hold : (Builtin.firstCells i.size 0 (.slice none 0 0)).run Try.prog wa.drew = .ok ([] : List Value).toArray wa.drew := run_firstCells_none wa.drew i.size 0 0 0
    have hge := grownCap_ge wa n 0 3
    have hle := grownCap_le_maxLen wa n 0 3 (by unfold maxLen; omega)
    have hr := fun ty => Lib.run_append_grow_zeros (P := Try.prog) wa 23 3 ty 3 i (.int .i64 0) .i64 .i64 e1 Try.underlying3 e2 e3 none 0 0 [] hold n h0 (by omega) (by omega) (by omega) (by rw [e5]; omega)
      (by rw [Nat.zero_add, e5]; exact growslice_fits (by omega) hn)
    simp only [Nat.zero_add] at hr
    have HR := Lib.hid hr
    clear hr
    have hr := HR.out
    clear HR
    generalize grownCap wa n 0 3 = cap at *
    have hz8 : ∀ k, (Builtin.zeroCells (Value.int .i64 0).cells k).size = k := fun k => by simp [size_zeroCells, Value.cells]
    have hrow : RowAt (Value.int .i64) (wa.drew.alloc (.cells (([] : List Value).toArray ++ Builtin.zeroCells (Value.int .i64 0).cells n ++ Builtin.zeroCells (Value.int .i64 0).cells (cap - n)) 3)) wa.heap.size 3 ([] : List Int)
        (([] : List Value).toArray ++ Builtin.zeroCells (Value.int .i64 0).cells n ++ Builtin.zeroCells (Value.int .i64 0).cells (cap - n)).toList := by
      have := heap_alloc_new wa.drew (.cells (([] : List Value).toArray ++ Builtin.zeroCells (Value.int .i64 0).cells n ++ Builtin.zeroCells (Value.int .i64 0).cells (cap - n)) 3)
      unfold RowAt
      rw [List.map_nil, List.nil_append, Array.toArray_toList]
      exact this
    have hown := OwnR.of_row' hrow (Nat.le_refl _) (k := 0) (cap := cap) (by simp [hz8]; omega) hle rfl
    have hbel : Below wa.heap.size wa (wa.drew.alloc (.cells (([] : List Value).toArray ++ Builtin.zeroCells (Value.int .i64 0).cells n ++ Builtin.zeroCells (Value.int .i64 0).cells (cap - n)) 3)) :=
      (below_refl_drewN wa.heap.size wa 1).alloc (Nat.le_refl _) _
    have hcap : cap ≤ 9223372036854775807 := by unfold maxLen at hle; omega
    have h5 : ¬ ((n : Int) < 0) := by omega
    have h6 : (n : Int) > 0 := by omega
    generalize wa.drew.alloc (.cells (([] : List Value).toArray ++ Builtin.zeroCells (Value.int .i64 0).cells n ++ Builtin.zeroCells (Value.int .i64 0).cells (cap - n)) 3) = wb at *
    have HO := Lib.hid (And.intro hown hbel)
    have HR := Lib.hid hr
    clear hown hbel hrow hold hz8 hle hge hr
    go_enter Try.func70, Try.ntmps70
    go_wp2_with (first
      | (at_builtin; refine wpList_append_ran _ rfl _ _ 23 3 rfl _ _ _ _ rfl rfl HR.out ?_)
      | fail)
    go_ret
    exact ⟨_, cap, rfl, HO.out.1, HO.out.2⟩

def sumL (Ps : List (List Int)) : Nat := Ps.flatten.length
theorem sumL_succ {Ps : List (List Int)} {k : Nat} (h : k < Ps.length) : (Ps.take (k + 1)).flatten = (Ps.take k).flatten ++ nth Ps k := by
  rw [take_snoc h]; simp
theorem sumL_le {Ps : List (List Int)} (k : Nat) : (Ps.take k).flatten.length ≤ Ps.flatten.length := by
  conv => rhs; rw [← List.take_append_drop k Ps, List.flatten_append, List.length_append]
  omega

set_option maxRecDepth 100000 in
set_option maxHeartbeats 800000 in
theorem concat_any (A : Option Addr) (n c : Nat) (Ps : List (List Int)) (w : World) (h : Rows (Value.int .i64) w A n Ps) (hs : Ps.flatten.length * 8 ≤ 140737488355328) :
    Calls Try.prog 48 #[.slice A n c] w fun e w' => ∃ B k d, e = .returned (.slice B k d) ∧ OwnR (Value.int .i64) w' w.heap.size 3 B k d Ps.flatten ∧ Below w.heap.size w w' := by
  obtain ⟨wa, hwa⟩ : ∃ wa : World, wa = w := ⟨_, rfl⟩
  subst hwa
  have hbig := h.big
  have hlen := h.len
  have HL := Lib.hid (And.intro h hs)
  clear h
  go_enter Try.func48, Try.ntmps48
  go_wp2_with fail
  go_loopw [3, 11] (fun z i wr => ∃ k : Nat, i = .int .i64 (k : Nat) ∧ z = .int .i64 (((Ps.take k).flatten.length : Nat) : Int) ∧ k ≤ n ∧ wr = wa) (fun _ i _ => n - (intOf i).toNat)
  case atStart => exact ⟨0, rfl, rfl, Nat.zero_le _, rfl⟩
  case round =>
    obtain ⟨k, rfl, rfl, hk, hwr⟩ := hrel
    have hwr := hwr.symm
    subst hwr
    by_cases hlt : k < n
    · obtain ⟨b, off, B, m, d, rfl, _, g0, hrow⟩ := HL.out.1.row hlt
      have hsu := sumL_succ (Ps := Ps) (k := k) (by omega)
      have hle := sumL_le (Ps := Ps) (k + 1)
      rw [hsu, List.length_append, hrow.len] at hle
      have hml : (Ps.take (k + 1)).flatten.length = (Ps.take k).flatten.length + m := by rw [hsu, List.length_append, hrow.len]
      have HS := Lib.hid hml
      clear hsu hrow hml
      generalize (Ps.take k).flatten.length = sz at *
      have q1 : ¬ ((sz : Int) + (m : Int) < 0) := by omega
      go_wp2_with fail
      exact ⟨⟨k + 1, by go_num, by rw [HS.out]; go_num, by omega, trivial⟩, by simp [intOf]; omega⟩
    · obtain rfl : k = n := by omega
      have e1 : (Ps.take k).flatten.length = Ps.flatten.length := by rw [← hlen, List.take_length]
      rw [e1]
      generalize hsz : Ps.flatten.length = sz at *
      have HZ := Lib.hid hsz
      clear hsz e1
      go_wp2_with fail
      refine (grow_nil sz _ hs).mono ?_
      rintro e w1 ⟨X, cx, rfl, hX, hb1⟩
      have H1 := Lib.hid (And.intro hX hb1)
      clear hX hb1
      go_wp2_with fail
      go_loopw [6, 27] (fun v i wr => ∃ (j q d : Nat) (B : Option Addr), i = .int .i64 (j : Nat) ∧ v = .slice B q d ∧ j ≤ k ∧ OwnR (Value.int .i64) wr wa.heap.size 3 B q d (Ps.take j).flatten ∧ Below wa.heap.size wa wr) (fun _ i _ => k - (intOf i).toNat)
      case atStart => exact ⟨0, 0, cx, X, rfl, rfl, Nat.zero_le _, H1.out.1, H1.out.2⟩
      case round =>
        obtain ⟨j, q, d, B, rfl, rfl, hj, ho, hb⟩ := hrel
        obtain ⟨wb, hwb⟩ : ∃ wb : World, wb = wr := ⟨_, rfl⟩
        subst hwb
        by_cases hlt : j < k
        · obtain ⟨b, off, C, m, dc, rfl, _, g0, hrow⟩ := (HL.out.1.below (Nat.le_refl _) hb).row hlt
          have hsu := sumL_succ (Ps := Ps) (k := j) (by omega)
          have hle := sumL_le (Ps := Ps) (j + 1)
          have hql := ho.length
          rw [hsu, List.length_append, hrow.len, hql] at hle
          have hsz := hb.size
          have hz := HZ.out
          have HS := Lib.hid (And.intro hsu hb)
          clear hsu hb
          have hqm : (q + m) * 8 ≤ 140737488355328 := by omega
          go_wp2_with (first
            | (at_builtin; refine wpList_app _ eiInt (Value.int .i64) (fun _ => rfl) rfl _ _ rfl wa.heap.size _ _ _ _ rfl ho _ _ _ _ rfl hrow hqm hsz ?_)
            | fail)
          intro A9 c9 w9 ho9 _ hb9 _
          have hbf := HS.out.2.trans hb9
          rw [← HS.out.1] at ho9
          have H9 := Lib.hid (And.intro ho9 hbf)
          clear ho9 hb9 hbf ho hrow
          go_wp2_with fail
          exact ⟨⟨j + 1, q + m, c9, A9, by go_num, rfl, by omega, H9.out.1, H9.out.2⟩, by simp [intOf]; omega⟩
        · obtain rfl : j = k := by omega
          have e1 : (Ps.take j).flatten = Ps.flatten := by rw [← hlen, List.take_length]
          rw [e1] at ho
          have H9 := Lib.hid (And.intro ho hb)
          clear ho hb e1
          go_wp2_with fail
          go_ret
          exact ⟨B, q, d, rfl, H9.out.1, H9.out.2⟩
end Go.Proofs.Ytaibdlnolpbpiaa
