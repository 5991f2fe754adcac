/- credencelaw13.alive, walked: it returns true. No condition. -/
import Derived.Test.YtgmchedfgdgenaaAlive13M
namespace Go.Proofs.Ytgmchedfgdgenaa
open Go.RowKit
attribute [local go_sem] Oper.semAt_some

theorem Held.lit {w0 w : World} {P : World → Prop} [Stable P] (h : Held w0 P w) (xs : List Int) (hl : xs.length ≤ 140737488351232) : Held w0 (fun w' => Sl (Value.int .i64) w' (some ⟨w.heap.size, 0, none⟩) xs.length xs ∧ P w') (w.alloc (.cells (xs.map (Value.int .i64)).toArray 3)) :=
  (h.alloc _).sl (Sl.litM (Value.int .i64) w 3 xs hl)
set_option maxRecDepth 100000 in
set_option maxHeartbeats 1600000 in
theorem alive13_any (w : World) : Calls Try.prog 20 #[] w fun e w' => e = .returned (.bool true) ∧ Below w.heap.size w w' := by
  obtain ⟨wa, hwa⟩ : ∃ wa : World, wa = w := ⟨_, rfl⟩
  subst hwa
  have H0 := ((((((((Held.init wa).lit [0] (by simp)).lit [2] (by simp)).lit [1, 2] (by simp)).new 24 [.slice (some ⟨wa.heap.size, 0, none⟩) 1 1, .slice (some ⟨wa.heap.size + 1, 0, none⟩) 1 1, .slice (some ⟨wa.heap.size + 1 + 1, 0, none⟩) 2 2]).lit [1] (by simp)).lit [2] (by simp)).lit [3, 4] (by simp)).new 24 [.slice (some ⟨wa.heap.size + 1 + 1 + 1 + 1, 0, none⟩) 1 1, .slice (some ⟨wa.heap.size + 1 + 1 + 1 + 1 + 1, 0, none⟩) 1 1, .slice (some ⟨wa.heap.size + 1 + 1 + 1 + 1 + 1 + 1, 0, none⟩) 2 2]
  simp only [World.size_alloc, List.map_cons, List.map_nil] at H0
  have a0 := H0.has.2.2.2.2.1.cell 0
  have a1 := H0.has.2.2.2.2.1.cell 1
  have a2 := H0.has.2.2.2.2.1.cell 2
  have b0 := H0.has.1.cell 0
  have b1 := H0.has.1.cell 1
  have b2 := H0.has.1.cell 2
  go_enter Try.func20, Try.ntmps20
  go_wp2_with fail
  refine (times_i (some ⟨wa.heap.size + 1 + 1 + 1 + 1, 0, none⟩) (some ⟨wa.heap.size + 1 + 1 + 1 + 1 + 1, 0, none⟩) (some ⟨wa.heap.size + 1 + 1 + 1 + 1 + 1 + 1, 0, none⟩) (some ⟨wa.heap.size, 0, none⟩) (some ⟨wa.heap.size + 1, 0, none⟩) (some ⟨wa.heap.size + 1 + 1, 0, none⟩) 1 1 1 1 2 2 1 1 1 1 2 2 [1] [2] [0] [2] [3, 4] [1, 2] _ H0.has.2.2.2.1 H0.has.2.2.1 H0.has.2.1 H0.has.2.2.2.2.2.2.2.1 H0.has.2.2.2.2.2.2.1 H0.has.2.2.2.2.2.1 (by omega) (fun _ _ _ _ => trivial)).mono ?_
  intro e w1 hp
  unfold TimesPost_i at hp
  rcases hp with ⟨h, _⟩ | ⟨_, A, c, B, d, C, k, N, hN, rfl, tr, hb⟩
  · exact absurd al_err h
  rw [al_uniZ, al_suf] at hN
  obtain rfl : N = 4 := by omega
  rw [al_uni, al_uniZ, al_prod] at tr
  rw [al_uni]
  have H1 := (((H0.step hb).own tr.o1).own tr.o2).own tr.o3
  clear H0 hb a0 a1 a2 b0 b1 b2 tr hN
  have tr2 := H1.has.2.1
  have H2 := H1.new 24 [.slice A 2 c, .slice B 2 d, .slice C 4 k]
  have p0 := H2.has.1.cell 0
  have p1 := H2.has.1.cell 1
  have p2 := H2.has.1.cell 2
  go_wp2_with fail
  have hd2 := tr2.cap
  refine (out_i A B C 2 c 2 d 4 k [0, 1] [2, 2] [3, 4, 6, 8] 0 _ (H2.has.2.2.2.1.sl (by simp)) (H2.has.2.2.1.sl (by simp)) (H2.has.2.1.sl (by simp)) (by omega) hd2 (fun _ _ _ _ _ _ _ _ _ => trivial)).mono ?_
  intro e w3 hp
  unfold OutPost_i at hp
  rcases hp with ⟨h, _⟩ | ⟨_, i, z, step, P, ho, A', c', B', d', C', k', rfl, tr, hb⟩
  · exact absurd al_out h
  have hi : i < 2 := ho.lt
  have h0 := ho.is
  obtain rfl : i = 0 := by
    rcases Nat.eq_zero_or_pos i with h | h
    · exact h
    · obtain rfl : i = 1 := by omega
      exact absurd h0 (by decide)
  have hz := ho.size
  have hs := ho.apart
  have hm := ho.m
  obtain rfl : z = 2 := by
    have h1 : nth ([2, 2] : List Int) 0 = 2 := by decide
    rw [h1] at hz; omega
  obtain rfl : step = 2 := by
    have h1 : sufP ([2, 2] : List Int) (0 + 1) = 2 := by decide
    rw [h1] at hs; omega
  obtain rfl : P = 1 := by
    have h1 : ([3, 4, 6, 8] : List Int).length = 4 := rfl
    rw [h1] at hm; omega
  have tr3 := tr.o3
  rw [Nat.one_mul] at tr3
  rw [al_sum] at tr3
  rw [Nat.one_mul]
  have H3 := (H2.step hb).own tr3
  clear H2 hb p0 p1 p2 tr tr3 ho hz hs hm h0 hi hd2 tr2
  have H4 := H3.new 24 [.slice A' 1 c', .slice B' 1 d', .slice C' 2 k']
  have q2 := H4.has.1.cell 2
  have p0 := H4.has.2.2.1.cell 0
  have p1 := H4.has.2.2.1.cell 1
  have p2 := H4.has.2.2.1.cell 2
  obtain ⟨gp, rp, rfl, _, hrp, _⟩ := H4.has.2.2.2.1.row (by omega)
  obtain ⟨gq, rq, rfl, _, hrq, _⟩ := H4.has.2.1.row (by omega)
  have v0 := hrp.cell (j := 0) (by decide)
  have v1 := hrp.cell (j := 1) (by decide)
  have v2 := hrp.cell (j := 2) (by decide)
  have u0 := hrq.cell (j := 0) (by decide)
  have u1 := hrq.cell (j := 1) (by decide)
  clear hrp hrq
  go_wp2_with fail
  refine (sameT_any_i A B (some ⟨gp, 0, none⟩) A B (some ⟨gp, 0, none⟩) 2 c 2 d 4 k 2 c 2 d 4 k [0, 1] [2, 2] [0, 1] [2, 2] [3, 4, 6, 8] [3, 4, 6, 8] _ (H4.has.2.2.2.2.2.1.sl (by simp)) (H4.has.2.2.2.2.1.sl (by simp)) (H4.has.2.2.2.1.sl (by simp)) (H4.has.2.2.2.2.2.1.sl (by simp)) (H4.has.2.2.2.2.1.sl (by simp)) (H4.has.2.2.2.1.sl (by simp))).mono ?_
  rintro e w5 ⟨rfl, hb5⟩
  rw [al_same]
  have HB := Lib.hid (H4.step hb5).bel
  clear H4 hb5 p0 p1 p2 q2 v0 v1 v2 u0 u1
  go_wp2_with fail
  go_ret
  exact ⟨rfl, HB.out⟩
end Go.Proofs.Ytgmchedfgdgenaa
