/- dag.heap's push and pop, walked: what is in it, in whatever order. Conditions: the heap's cell and its row are the call's own. -/
import Derived.Test.YtaibdlnolpbpiaaOwn
import Derived.IntWalk
import Derived.BigRegion
import Derived.StillTailTactics
namespace Go.Proofs.Ytaibdlnolpbpiaa
open Go.RowKit

/-- what has turned between two worlds: blocks of S, and new ones -/
structure Turn (w w' : World) (S : Nat → Prop) : Prop where
  os : w'.os = w.os
  tape : w'.tape = w.tape
  output : w'.output = w.output
  size : w.heap.size ≤ w'.heap.size
  block : ∀ b, b < w.heap.size → ¬ S b → w'.heap[b]? = w.heap[b]?
section
variable {a b c w w' : World} {S T : Nat → Prop}
theorem Turn.refl (w : World) (S : Nat → Prop) : Turn w w S := ⟨rfl, rfl, rfl, Nat.le_refl _, fun _ _ _ => rfl⟩
theorem Turn.trans (h : Turn a b S) (k : Turn b c T) (hT : ∀ x, x < a.heap.size → T x → S x) : Turn a c S :=
  ⟨k.os.trans h.os, k.tape.trans h.tape, k.output.trans h.output, Nat.le_trans h.size k.size, fun i hi hn => (k.block i (Nat.lt_of_lt_of_le hi h.size) fun ht => hn (hT i hi ht)).trans (h.block i hi hn)⟩
theorem Turn.mono (h : Turn a b S) (hT : ∀ x, x < a.heap.size → S x → T x) : Turn a b T := ⟨h.os, h.tape, h.output, h.size, fun i hi hn => h.block i hi fun ht => hn (hT i hi ht)⟩
theorem Turn.of_grown {row : Option Nat} (h : a.grownBy b row) : Turn a b (fun x => row = some x) := ⟨h.os, h.tape, h.output, h.size, fun i hi hn => h.block i hi fun e => hn e.symm⟩
theorem Turn.of_below (h : Below a.heap.size a b) (S : Nat → Prop) : Turn a b S := ⟨h.os, h.tape, h.output, h.size, fun i hi _ => h.block i hi⟩
theorem Turn.drewN (h : Turn a b S) (k : Nat) : Turn a (b.drewN k) S := ⟨h.os, h.tape, h.output, h.size, h.block⟩
theorem Turn.drew (h : Turn a b S) : Turn a b.drew S := h.drewN 1
theorem Turn.alloc (h : Turn a b S) (o : Obj) : Turn a (b.alloc o) S := h.trans (Turn.of_below ((Below.refl _ _).alloc (Nat.le_refl _) o) (fun _ => False)) fun _ _ e => e.elim
theorem Turn.setCell (h : Turn a b S) (p : Addr) (hp : p.block < a.heap.size → S p.block) (v : Value) : Turn a (b.setCell p v) S :=
  ⟨h.os, h.tape, h.output, by have := h.size; simpa [World.setCell] using this, fun i hi hn => (Below.heap_setCell b p v i (fun e => hn (by rw [e] at hi ⊢; exact hp hi))).trans (h.block i hi hn)⟩
theorem Turn.below (h : Turn a b S) {B : Nat} (hB : B ≤ a.heap.size) (hS : ∀ x, x < B → ¬ S x) : Below B a b := ⟨h.os, h.tape, h.output, h.size, fun k hk => h.block k (by omega) (hS k hk)⟩
theorem OwnR.turn {α : Type} {enc : α → Value} {base : Nat} {e : TypeId} {A : Option Addr} {n c : Nat} {xs : List α} (h : OwnR enc a base e A n c xs) (ht : Turn a b S) (hS : ∀ g, A = some ⟨g, 0, none⟩ → ¬ S g) : OwnR enc b base e A n c xs := by
  refine ⟨h.1, ?_⟩
  rcases h.2 with h2 | ⟨g, cap, cur, h1, hb, hh, r⟩
  · exact .inl h2
  · have e1 : A = some ⟨g, 0, none⟩ := by injection h1
    exact .inr ⟨g, cap, cur, h1, hb, (ht.block g (Array.getElem?_eq_some_iff.1 hh).1 (hS g e1)).trans hh, r⟩
theorem RowC.turn {g : Nat} {e : TypeId} {cs : List Value} (h : RowC a g e cs) (ht : Turn a b S) (hS : ¬ S g) : RowC b g e cs := (ht.block g h.lt hS).trans h
theorem RowAt.turn {α : Type} {enc : α → Value} {g : Nat} {e : TypeId} {xs : List α} {rest : List Value} (h : RowAt enc a g e xs rest) (ht : Turn a b S) (hS : ¬ S g) : RowAt enc b g e xs rest := (ht.block g h.lt hS).trans h
end
theorem eiHeap : EI Try.prog 105 3 (.int .i64 0) 8 := .mk' Try.underlying105 (by kernel_rfl) rfl (by omega)
theorem drew_eq (w : World) : w.drew = w.drewN 1 := rfl

set_option maxRecDepth 100000 in
set_option maxHeartbeats 1600000 in
theorem push_any (hb : Nat) (A : Option Addr) (m c : Nat) (L : List Nat) (x : Nat) (w : World) (h1 : RowC w hb 105 [.slice A m c]) (h2 : OwnR eN w (hb + 1) 3 A m c L) (hm : (m + 1) * 8 ≤ 140737488355328) :
    Calls Try.prog 98 #[.pointer (some ⟨hb, 0, none⟩), .int .i64 (x : Int)] w fun e w' => ∃ A' c' L', e = .returned (.tuple #[]) ∧ RowC w' hb 105 [.slice A' (m + 1) c'] ∧ OwnR eN w' (hb + 1) 3 A' (m + 1) c' L' ∧ L'.Perm (x :: L) ∧
      Turn w w' (fun b => b = hb ∨ A = some ⟨b, 0, none⟩) ∧ ∀ b, A' = some ⟨b, 0, none⟩ → A = some ⟨b, 0, none⟩ ∨ w.heap.size ≤ b := by
  obtain ⟨wa, hwa⟩ : ∃ wa : World, wa = w := ⟨_, rfl⟩
  subst hwa
  have r0 := h1.cell 0
  have hlt := h1.lt
  have hos := h2.alloc (.cells #[.int .i64 (x : Int)] 3)
  have HH := Lib.hid (And.intro h1 h2); clear h1 h2
  go_enter Try.func98, Try.ntmps98
  go_wp2_with (first
    | (at_builtin; refine wpList_app _ eiHeap eN one_eN rfl _ _ rfl (hb + 1) _ _ _ _ rfl hos _ _ _ _ rfl (Sl.one (enc := eN) _ _ _) (by omega) (by simp; omega) ?_)
    | fail)
  intro A9 c9 w9 ho9 hg9 _ hd9
  have hne : ∀ g, A = some ⟨g, 0, none⟩ → hb < g := fun g e => by
    rcases HH.out.2.at_row with h1 | ⟨g', h1, h2, _⟩
    · rw [e] at h1; cases h1
    · rw [e] at h1; injection h1 with h1; injection h1 with h1; omega
  have hob : (Value.slice A m c).ownBlock ≠ some hb := fun e => by
    rcases HH.out.2.at_row with h1 | ⟨g', h1, h2, _⟩
    · rw [h1] at e; cases e
    · rw [h1] at e; injection e with e; have := hne g' h1; have e' : g' = hb := e; omega
  have hT : Turn wa w9 (fun b => b = hb ∨ A = some ⟨b, 0, none⟩) := ((Turn.refl wa _).alloc (.cells #[.int .i64 (x : Int)] 3)).trans (Turn.of_grown hg9) fun b _ e => by
    rcases HH.out.2.at_row with h1 | ⟨g', h1, h2, _⟩
    · rw [h1] at e; cases e
    · rw [h1] at e; injection e with e; right; have e' : g' = b := e; rw [h1, e']
  have hC : RowC w9 hb 105 [.slice A m c] := (HH.out.1.alloc _).grown hg9 fun e => hob e.symm
  have r9 := hC.cell 0
  have f9 := hC.frozen 0
  have hC2 := hC.put 0 (.slice A9 (m + 1) c9)
  have hT2 := hT.setCell ⟨hb, 0, none⟩ (fun _ => .inl rfl) (.slice A9 (m + 1) c9)
  obtain ⟨g, rest, hA9, hbg, hr9, hcr⟩ := ho9.row (by omega)
  have hr10 : RowAt eN (w9.setCell ⟨hb, 0, none⟩ (.slice A9 (m + 1) c9)) g 3 (L ++ [x]) rest := hr9.far (by simp; omega) _
  have hA : ∀ b, A9 = some ⟨b, 0, none⟩ → A = some ⟨b, 0, none⟩ ∨ wa.heap.size ≤ b := fun b e => by
    have h2 : (Value.slice A9 (m + 1) c9).ownBlock = some b := by rw [e]; rfl
    rcases hd9 with hd | hd
    · rw [h2] at hd
      rcases HH.out.2.at_row with h1 | ⟨g', h1, _⟩
      · rw [h1] at hd; cases hd
      · rw [h1] at hd; injection hd with hd; left; have e' : g' = b := hd.symm; rw [h1, e']
    · rw [h2] at hd; injection hd with hd; right; rw [hd]; simp
  have hl9 := ho9.length
  have hcap := ho9.capmax
  have H9 := Lib.hid (And.intro hC2 (And.intro hT2 (And.intro hr10 (And.intro hA (And.intro hcr (And.intro hcap hl9)))))); clear hC hT hC2 hT2 hr9 hr10 hA hcr hcap hl9 hg9 hd9 ho9 hob hne
  subst hA9
  go_wp2_with fail
  generalize w9.setCell ⟨hb, 0, none⟩ (.slice (some ⟨g, 0, none⟩) (m + 1) c9) = wx at *
  clear r9 f9 r0
  go_loopw [4] (fun i wr => ∃ (k : Nat) (L' : List Nat), i = .int .i64 (k : Nat) ∧ k ≤ m ∧ L'.length = m + 1 ∧ L'.Perm (L ++ [x]) ∧ RowC wr hb 105 [.slice (some ⟨g, 0, none⟩) (m + 1) c9] ∧ RowAt eN wr g 3 L' rest ∧ Turn wa wr (fun b => b = hb ∨ A = some ⟨b, 0, none⟩)) (fun i _ => (intOf i).toNat)
  case atStart => exact ⟨m, L ++ [x], by go_num, Nat.le_refl _, H9.out.2.2.2.2.2.2, List.Perm.refl _, H9.out.1, H9.out.2.2.1, H9.out.2.1⟩
  case round =>
    obtain ⟨k, L', rfl, hk, hlen, hperm, hrc, hra, hturn⟩ := hrel
    obtain ⟨wb, hwb⟩ : ∃ wb : World, wb = wr := ⟨_, rfl⟩
    subst hwb
    have r0 := hrc.cell 0
    have HL := Lib.hid (And.intro hlen (And.intro hperm (And.intro hrc (And.intro hra hturn)))); clear hlen hperm hrc hturn
    by_cases hk0 : k = 0
    · subst hk0
      have q5 : decide ((0 : Int) < ((0 : Nat) : Int)) = false := by decide
      have q6 : decide (0 < (0 : Nat)) = false := by decide
      clear hra
      go_wp2_with fail
      go_quiet (fail)
      go_wp2_with fail
      go_end0
      obtain ⟨hr1, hr2, hr3, hr4, hr5⟩ := HL.out
      refine ⟨_, _, L', rfl, hr3, OwnR.of_row' hr4 hbg (by rw [hr1]; exact H9.out.2.2.2.2.1) H9.out.2.2.2.2.2.1 hr1, hr2.trans List.perm_append_comm, hr5.drewN _, H9.out.2.2.2.1⟩
    · have q1 : (0 : Int) ≤ (k : Nat) := by omega
      have q2 : ((k : Nat) : Int) < ((m : Nat) : Int) + 1 := by omega
      have q3 : (0 : Int) ≤ ((k : Nat) : Int) - 1 := by omega
      have q4 : (0 : Int) ≤ (((k : Nat) : Int) - 1) / 2 := by omega
      have q5 : (((k : Nat) : Int) - 1) / 2 < ((m : Nat) : Int) + 1 := by omega
      have q6 : ((((k : Nat) : Int) - 1) / 2).toNat = (k - 1) / 2 := by omega
      have q7 : decide ((0 : Int) < ((k : Nat) : Int)) = true := by simp; omega
      have q8 : decide (0 < k) = true := by simp; omega
      have g1 := hra.cell (j := k) (by rw [HL.out.1]; omega)
      have g2 := hra.cell (j := (k - 1) / 2) (by rw [HL.out.1]; omega)
      have f1 := hra.frozen k
      have f2 := hra.frozen ((k - 1) / 2)
      clear hra
      generalize hs : nth L' k = s at *
      generalize ht : nth L' ((k - 1) / 2) = t at *
      have HE := Lib.hid (And.intro hs ht); clear hs ht
      by_cases hst : s < t
      · have hst' : decide ((s : Int) < (t : Int)) = true := by simp; omega
        go_wp2_with fail
        go_quiet (fail)
        go_wp2_with fail
        generalize hwq : wb.drewN _ = wq
        have r0' : wq.cell? ⟨hb, 0, none⟩ = some (.slice (some ⟨g, 0, none⟩) (m + 1) c9) := by rw [← hwq]; exact r0
        have g1' : wq.cell? ⟨g, k, none⟩ = some (.int .i64 (s : Int)) := by rw [← hwq]; exact g1
        have g2' : wq.cell? ⟨g, (k - 1) / 2, none⟩ = some (.int .i64 (t : Int)) := by rw [← hwq]; exact g2
        have f1' : wq.frozen? ⟨g, k, none⟩ = false := by rw [← hwq]; exact f1
        have f2' : wq.frozen? ⟨g, (k - 1) / 2, none⟩ = false := by rw [← hwq]; exact f2
        have HW := Lib.hid hwq; clear hwq r0 g1 g2 f1 f2
        go_region
        go_wp2_with fail
        obtain ⟨hr1, hr2, hr3, hr4, hr5⟩ := HL.out
        have hr4' : RowAt eN wq g 3 L' rest := by rw [← HW.out]; exact hr4
        have hr3' : RowC wq hb 105 [.slice (some ⟨g, 0, none⟩) (m + 1) c9] := by rw [← HW.out]; exact hr3
        have hr5' : Turn wa wq (fun b => b = hb ∨ A = some ⟨b, 0, none⟩) := by rw [← HW.out]; exact hr5.drewN _
        have hSg : g < wa.heap.size → (g = hb ∨ A = some ⟨g, 0, none⟩) := fun hlt => by
          rcases H9.out.2.2.2.1 g rfl with h1 | h1
          · exact .inr h1
          · omega
        have hw1 := (hr4'.set (j := k) (by rw [hr1]; omega) t).set (j := (k - 1) / 2) (by simp; omega) s
        refine ⟨⟨(k - 1) / 2, swapL L' k ((k - 1) / 2), by congr 1; omega, by omega, by rw [swapL_length]; exact hr1, (swapL_perm (by omega) (by omega)).trans hr2, ?_, ?_, ?_⟩, by simp [intOf]; omega⟩
        · exact (hr3'.far (by simp; omega) _).far (by simp; omega) _
        · unfold swapL; rw [HE.out.1, HE.out.2]; exact hw1
        · exact (hr5'.setCell _ hSg _).setCell _ hSg _ |>.drew
      · have hst' : decide ((s : Int) < (t : Int)) = false := by simp; omega
        go_wp2_with fail
        go_quiet (fail)
        go_wp2_with fail
        go_end0
        obtain ⟨hr1, hr2, hr3, hr4, hr5⟩ := HL.out
        refine ⟨_, _, L', rfl, hr3, OwnR.of_row' hr4 hbg (by rw [hr1]; exact H9.out.2.2.2.2.1) H9.out.2.2.2.2.2.1 hr1, hr2.trans List.perm_append_comm, hr5.drewN _, H9.out.2.2.2.1⟩
end Go.Proofs.Ytaibdlnolpbpiaa
