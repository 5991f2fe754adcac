/- sep.Trail's closure, walked: the least point among those that are one step nearer. Conditions: the captured variables are the call's own. -/
import Derived.Test.YtdlnglffimcopaaFarLaw
namespace Go.Proofs.Ytdlnglffimcopaa
open Go.RowKit

/-- the better one of two states -/
def best1 (O : St → Option Nat) (m : Nat) (t s : St) : St := if O s = some m ∧ s.1 < t.1 then s else t
def bestF (n : Nat) (O : St → Option Nat) (m : Nat) (L : List St) : St := L.foldl (best1 O m) (n, false)
theorem bestF_snoc (n : Nat) (O : St → Option Nat) (m : Nat) (L : List St) (s : St) : bestF n O m (L ++ [s]) = best1 O m (bestF n O m L) s := by simp [bestF]
theorem bestF_le (n : Nat) (O : St → Option Nat) (m : Nat) (L : List St) : (bestF n O m L).1 ≤ n := by
  obtain ⟨k, hk⟩ : ∃ k, k = L.length := ⟨_, rfl⟩
  induction k generalizing L with
  | zero => rw [List.eq_nil_of_length_eq_zero hk.symm]; exact Nat.le_refl _
  | succ k ih =>
    rcases List.eq_nil_or_concat L with rfl | ⟨L', s, rfl⟩
    · simp at hk
    · rw [List.concat_eq_append, bestF_snoc]
      have := ih L' (by simpa using hk)
      unfold best1
      split
      · rename_i h; omega
      · exact this
theorem bestF_spec (n : Nat) (O : St → Option Nat) (m : Nat) (L : List St) : (∀ r, r ∈ L → O r = some m → (bestF n O m L).1 ≤ r.1) ∧ (bestF n O m L = (n, false) ∨ (bestF n O m L ∈ L ∧ O (bestF n O m L) = some m)) := by
  obtain ⟨k, hk⟩ : ∃ k, k = L.length := ⟨_, rfl⟩
  induction k generalizing L with
  | zero => rw [List.eq_nil_of_length_eq_zero hk.symm]; exact ⟨by simp, .inl rfl⟩
  | succ k ih =>
    rcases List.eq_nil_or_concat L with rfl | ⟨L', s, rfl⟩
    · simp at hk
    · rw [List.concat_eq_append, bestF_snoc]
      obtain ⟨h1, h2⟩ := ih L' (by simpa using hk)
      unfold best1
      split
      · rename_i h
        refine ⟨fun r hr hO => ?_, .inr ⟨by simp, h.1⟩⟩
        rcases List.mem_append.1 hr with hr | hr
        · have := h1 r hr hO; omega
        · rw [List.mem_singleton] at hr; subst hr; exact Nat.le_refl _
      · rename_i h
        refine ⟨fun r hr hO => ?_, ?_⟩
        · rcases List.mem_append.1 hr with hr | hr
          · exact h1 r hr hO
          · rw [List.mem_singleton] at hr; subst hr
            rcases Nat.lt_or_ge r.1 (bestF n O m L').1 with h3 | h3
            · exact absurd ⟨hO, h3⟩ h
            · exact h3
        · rcases h2 with h2 | h2
          · exact .inl h2
          · exact .inr ⟨by simp [h2.1], h2.2⟩
theorem MapS.look_run {w : World} {b n : Nat} {g : St → Option Int} (h : MapS 66 3 w b n g) {s : St} (hok : okS s) {c : Int} (hc : g s = some c) : (Instr.lookup 63 (.map (some b)) (.agg #[.int .i64 (s.1 : Int), .bool s.2]) false).run Try.prog w = .ok (.int .i64 c) w := by
  obtain ⟨D, hD, q⟩ := h
  obtain ⟨d, hrun, hat, _⟩ := hD.lookup_int law66 Try.underlying63 Try.underlying3 (zeroI w) (keyOf_sV hok)
  rw [(q (kS s)).2, liftS_kS _ hok, hc] at hat
  have : d = c := (Lit.int.inj (DataW.lit.inj hat)).2.symm
  rw [← this]; exact hrun
/-- what the closure finds and leaves -/
structure Tb (B n ob cnt fvb nb bb : Nat) (O : St → Option Nat) (s0 : St) (K : Nat → Prop) (t : St) (w : World) : Prop where
  map : MapS 66 3 w ob cnt (intO O)
  fv : RowC w fvb 63 [.map (some ob)]
  now : RowC w nb 66 [.int .i64 (s0.1 : Int), .bool s0.2]
  best : RowC w bb 66 [.int .i64 (t.1 : Int), .bool t.2]
  ne1 : ob ≠ bb
  ne2 : fvb ≠ bb
  ne3 : nb ≠ bb
  le : B ≤ bb
  far : ∀ b, K b → b < w.heap.size ∧ b ≠ bb
section
variable {B n ob cnt fvb nb bb : Nat} {O : St → Option Nat} {s0 t : St} {K K' : Nat → Prop} {w w' : World}
theorem Tb.step (h : Tb B n ob cnt fvb nb bb O s0 K t w) (hb : Below w.heap.size w w') : Tb B n ob cnt fvb nb bb O s0 (fun b => K b ∨ (w.heap.size ≤ b ∧ b < w'.heap.size)) t w' := by
  have h1 := h.best.lt
  refine ⟨h.map.below hb, h.fv.below' hb, h.now.below' hb, h.best.below' hb, h.ne1, h.ne2, h.ne3, h.le, fun b hk => ?_⟩
  rcases hk with hk | hk
  · obtain ⟨f1, f2⟩ := h.far b hk
    exact ⟨Nat.lt_of_lt_of_le f1 hb.size, f2⟩
  · exact ⟨hk.2, by omega⟩
theorem Tb.weak (h : Tb B n ob cnt fvb nb bb O s0 K t w) (hk : ∀ b, K' b → K b) : Tb B n ob cnt fvb nb bb O s0 K' t w := ⟨h.map, h.fv, h.now, h.best, h.ne1, h.ne2, h.ne3, h.le, fun b hb => h.far b (hk b hb)⟩
theorem Tb.put (h : Tb B n ob cnt fvb nb bb O s0 K t w) (s : St) : Tb B n ob cnt fvb nb bb O s0 K s ((w.setCell ⟨bb, 0, none⟩ (.int .i64 (s.1 : Int))).setCell ⟨bb, 1, none⟩ (.bool s.2)) := by
  refine ⟨(h.map.setCell (by simpa using h.ne1) _).setCell (by simpa using h.ne1) _, (h.fv.far (by simpa using h.ne2) _).far (by simpa using h.ne2) _, (h.now.far (by simpa using h.ne3) _).far (by simpa using h.ne3) _, (h.best.put 0 _).put 1 _, h.ne1, h.ne2, h.ne3, h.le, fun b hk => ?_⟩
  obtain ⟨f1, f2⟩ := h.far b hk
  exact ⟨by simpa [World.setCell] using f1, f2⟩
end
def BestPost (B n ob cnt fvb nb bb m : Nat) (O : St → Option Nat) (s0 : St) (K : Nat → Prop) (t s : St) (w : World) (e : Ending) (w' : World) : Prop :=
  e = .returned (.tuple #[]) ∧ Tb B n ob cnt fvb nb bb O s0 K (best1 O m t s) w' ∧ Below B w w' ∧ ∀ b, K b → w'.heap[b]? = w.heap[b]?

set_option maxRecDepth 100000 in
set_option maxHeartbeats 800000 in
theorem best_any (B n ob cnt fvb nb bb m : Nat) (O : St → Option Nat) (s0 : St) (K : Nat → Prop) (t s : St) (w : World) (hn : n * 64 ≤ 140737488351232) (hs : s.1 < n) (hs0 : s0.1 < n) (h0 : O s0 = some (m + 1)) (hm : m < n) (hOn : ∀ x k, O x = some k → k < n) (h : Tb B n ob cnt fvb nb bb O s0 K t w) :
    Calls Try.prog 54 #[sV s, .pointer (some ⟨fvb, 0, none⟩), .pointer (some ⟨nb, 0, none⟩), .pointer (some ⟨bb, 0, none⟩)] w (BestPost B n ob cnt fvb nb bb m O s0 K t s w) := by
  obtain ⟨wa, hwa⟩ : ∃ wa : World, wa = w := ⟨_, rfl⟩
  subst hwa
  have hok : okS s := by unfold okS; omega
  have hok0 : okS s0 := by unfold okS; omega
  have hb0 : Below wa.heap.size wa (wa.alloc (.cells #[.int .i64 (s.1 : Int), .bool s.2] 66)) := (Below.refl _ _).alloc (Nat.le_refl _) _
  have H1 := h.step hb0
  have hBs : B ≤ wa.heap.size := by have := h.le; have := h.best.lt; omega
  have hbn := RowC.new wa 66 [.int .i64 (s.1 : Int), .bool s.2]
  have q0 := hbn.cell 0
  have q1 := hbn.cell 1
  have f0 := H1.fv.cell 0
  have n0 := H1.now.cell 0
  have n1 := H1.now.cell 1
  have b0 := H1.best.cell 0
  have b1 := H1.best.cell 1
  have z0 := H1.best.frozen 0
  have z1 := H1.best.frozen 1
  simp only [List.getElem?_cons_zero, List.getElem?_cons_succ] at q0 q1 f0 n0 n1 b0 b1
  have hmap := H1.map
  have hlk := hmap.look_run hok0 (intO_some h0)
  have hwr : IntKind.i64.wrap (((m + 1 : Nat) : Int) - 1) = (m : Int) := by rw [IntKind.wrap_i64]; omega
  have hbm := hb0.mono hBs
  have hK0 : ∀ b, K b → (wa.alloc (.cells #[.int .i64 (s.1 : Int), .bool s.2] 66)).heap[b]? = wa.heap[b]? := fun b hk => hb0.block b (h.far b hk).1
  have HH := Lib.hid (And.intro H1 (And.intro hbm (And.intro hK0 (And.intro h.le hBs))))
  clear H1 hbm hK0 hb0 h hbn hBs
  have hdone : ∀ x, best1 O m t s = x → Tb B n ob cnt fvb nb bb O s0 K x (wa.alloc (.cells #[.int .i64 (s.1 : Int), .bool s.2] 66)) → BestPost B n ob cnt fvb nb bb m O s0 K t s wa (.returned (.tuple #[])) (wa.alloc (.cells #[.int .i64 (s.1 : Int), .bool s.2] 66)) := by
    rintro x rfl hx
    exact ⟨rfl, hx, HH.out.2.1, HH.out.2.2.1⟩
  have HDn := Lib.hid hdone
  clear hdone
  cases hO : O s with
  | none =>
    have hl := Lib.hid (intO_none hO)
    have hbe : best1 O m t s = t := by unfold best1; rw [if_neg (fun h => by rw [hO] at h; cases h.1)]
    have HB := Lib.hid hbe
    clear hO hbe
    go_enter Try.func54, Try.ntmps54
    go_wp2_with (first
      | (at_lookup; refine wpList_look_ok_S _ rfl _ _ 63 rfl 3 Try.underlying63 Try.underlying3 (zeroI _) ob _ _ rfl hmap s rfl hok ?_; rw [hl.out])
      | fail)
    go_end0
    exact HDn.out t HB.out (HH.out.1.weak fun b hb => .inl hb)
  | some k =>
    have hl := Lib.hid (intO_some hO)
    have hkn := hOn s k hO
    by_cases hkm : k = m
    · subst hkm
      by_cases hlt : s.1 < t.1
      · have hbe : best1 O k t s = s := by unfold best1; rw [if_pos ⟨hO, hlt⟩]
        have hp := (HH.out.1.put s).weak fun b hb => .inl hb
        have hbp : Below B wa (((wa.alloc (.cells #[.int .i64 (s.1 : Int), .bool s.2] 66)).setCell ⟨bb, 0, none⟩ (.int .i64 (s.1 : Int))).setCell ⟨bb, 1, none⟩ (.bool s.2)) :=
          (HH.out.2.1.setCell (p := ⟨bb, 0, none⟩) HH.out.2.2.2.1 _).setCell (p := ⟨bb, 1, none⟩) HH.out.2.2.2.1 _
        have hkp : ∀ b, K b → (((wa.alloc (.cells #[.int .i64 (s.1 : Int), .bool s.2] 66)).setCell ⟨bb, 0, none⟩ (.int .i64 (s.1 : Int))).setCell ⟨bb, 1, none⟩ (.bool s.2)).heap[b]? = wa.heap[b]? := fun b hb => by
          have hne := (HH.out.1.far b (.inl hb)).2
          rw [← HH.out.2.2.1 b hb]
          exact (Below.heap_setCell _ _ _ _ hne).trans (Below.heap_setCell _ _ _ _ hne)
        have HP := Lib.hid (And.intro hbe (And.intro hp (And.intro hbp hkp)))
        have hlt' : ((s.1 : Nat) : Int) < ((t.1 : Nat) : Int) := by omega
        clear hO hbe hp hbp hkp hkn
        go_enter Try.func54, Try.ntmps54
        go_wp2_with (first
          | (at_lookup; refine wpList_look_ok_S _ rfl _ _ 63 rfl 3 Try.underlying63 Try.underlying3 (zeroI _) ob _ _ rfl hmap s rfl hok ?_; rw [hl.out])
          | fail)
        go_end0
        exact ⟨rfl, by rw [HP.out.1]; exact HP.out.2.1, HP.out.2.2.1, HP.out.2.2.2⟩
      · have hbe : best1 O k t s = t := by unfold best1; rw [if_neg (fun h => hlt h.2)]
        have HP := Lib.hid hbe
        have hlt' : ¬ ((s.1 : Nat) : Int) < ((t.1 : Nat) : Int) := by omega
        clear hO hbe hkn
        go_enter Try.func54, Try.ntmps54
        go_wp2_with (first
          | (at_lookup; refine wpList_look_ok_S _ rfl _ _ 63 rfl 3 Try.underlying63 Try.underlying3 (zeroI _) ob _ _ rfl hmap s rfl hok ?_; rw [hl.out])
          | fail)
        go_end0
        exact HDn.out t HP.out (HH.out.1.weak fun b hb => .inl hb)
    · have hbe : best1 O m t s = t := by unfold best1; rw [if_neg (fun h => hkm (by rw [hO] at h; injection h.1))]
      have HP := Lib.hid hbe
      have hne : ¬ ((k : Nat) : Int) = ((m : Nat) : Int) := by omega
      clear hO hbe hkn
      go_enter Try.func54, Try.ntmps54
      go_wp2_with (first
        | (at_lookup; refine wpList_look_ok_S _ rfl _ _ 63 rfl 3 Try.underlying63 Try.underlying3 (zeroI _) ob _ _ rfl hmap s rfl hok ?_; rw [hl.out])
        | fail)
      go_end0
      exact HDn.out t HP.out (HH.out.1.weak fun b hb => .inl hb)
end Go.Proofs.Ytdlnglffimcopaa
