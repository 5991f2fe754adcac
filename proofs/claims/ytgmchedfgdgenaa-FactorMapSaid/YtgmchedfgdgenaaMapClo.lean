/- The function that FactorMap hands to Map, walked: it writes down what it was called with, and gives the count's digits. Conditions: what it captured is the call's own; within Go's bound. -/
import Derived.Test.YtgmchedfgdgenaaSpo
import Derived.Test.YtgmchedfgdgenaaDigits
namespace Go.Proofs.Ytgmchedfgdgenaa
open Go.RowKit

/-- the box of a list that the call owns -/
structure Seen (w : World) (base s : Nat) (V : Option Addr) (t e : Nat) (xs : List Int) : Prop where
  row : RowC w s 22 [.slice V t e]
  own : OwnR (Value.int .i64) w base 3 V t e xs
  lt : s < base
  hb : base ≤ w.heap.size
set_option maxRecDepth 100000 in
set_option maxHeartbeats 400000 in
theorem clo_any (base s : Nat) (V : Option Addr) (t e : Nat) (xs : List Int) (x : Int) (w : World) (h : Seen w base s V t e xs) (hq : (t + 1) * 8 ≤ 140737488355328) :
    Calls Try.prog 11 #[.int .i64 x, .pointer (some ⟨s, 0, none⟩)] w fun o w' => ∃ V' e', o = .returned (.string (digT (t + 1))) ∧ Seen w' base s V' (t + 1) e' (xs ++ [x]) ∧ Turn w w' (fun y => y = s ∨ V = some ⟨y, 0, none⟩) ∧
      ((Value.slice V' (t + 1) e').ownBlock = (Value.slice V t e).ownBlock ∨ ∀ g, (Value.slice V' (t + 1) e').ownBlock = some g → w.heap.size ≤ g) := by
  have r0 := h.row.cell 0
  have ho1 := h.own.alloc (.cells #[.int .i64 x] 3)
  have hbase : base ≤ (w.alloc (.cells #[.int .i64 x] 3)).heap.size := by have := h.hb; simp; omega
  have HH := Lib.hid (And.intro h ho1)
  clear h ho1
  obtain ⟨wa, hwa⟩ : ∃ wa : World, wa = w := ⟨_, rfl⟩
  subst hwa
  go_enter Try.func11, Try.ntmps11
  go_wp2_with (first
    | (at_builtin; refine wpList_app _ eiI (Value.int .i64) (fun _ => rfl) rfl _ _ rfl base _ _ _ _ rfl HH.out.2 _ _ _ _ rfl (Sl.one (enc := Value.int .i64) _ _ _) hq hbase ?_)
    | fail)
  intro V' e' w4 ho hgr hb hd
  clear hbase r0
  have hrow := (HH.out.1.row.alloc (.cells #[.int .i64 x] 3)).below hb HH.out.1.lt
  have f0 := hrow.frozen 0
  have r0 := hrow.cell 0
  have hsr := hrow.put 0 (.slice V' (t + 1) e')
  have hos := ho.setFar (p := ⟨s, 0, none⟩) (fun g e1 => by
    rcases ho.at_row with h1 | ⟨g', h1, h2, _⟩
    · rw [e1] at h1; cases h1
    · rw [e1] at h1; injection h1 with h1; injection h1 with h1; have := HH.out.1.lt; simp; omega) (.slice V' (t + 1) e')
  have hsz : base ≤ (w4.setCell ⟨s, 0, none⟩ (.slice V' (t + 1) e')).heap.size := by have := hgr.size; have := HH.out.1.hb; simp [World.setCell] at *; omega
  have htu : Turn wa (w4.setCell ⟨s, 0, none⟩ (.slice V' (t + 1) e')) (fun y => y = s ∨ V = some ⟨y, 0, none⟩) :=
    ((((Turn.refl wa (fun y => y = s ∨ V = some ⟨y, 0, none⟩)).alloc (.cells #[.int .i64 x] 3)).trans (Turn.of_grown hgr) (fun y _ e1 => .inr (HH.out.2.block_eq e1))).setCell ⟨s, 0, none⟩ (fun _ => .inl rfl) _)
  have HS := Lib.hid (And.intro hsr (And.intro hos (And.intro hsz (And.intro htu hd))))
  clear hrow hsr hos hsz htu hd ho hgr hb
  have r1 := HS.out.1.cell 0
  go_wp2_with fail
  refine (digits_any (t + 2) (t + 1) (by omega) (by omega) _).mono ?_
  rintro o w5 ⟨rfl, hb5⟩
  have HT := Lib.hid hb5
  clear hb5
  go_wp2_with fail
  go_ret
  refine ⟨V', e', rfl, ⟨HS.out.1.below' HT.out, HS.out.2.1.below (Nat.le_refl _) HT.out, HH.out.1.lt, Nat.le_trans HS.out.2.2.1 HT.out.size⟩, HS.out.2.2.2.1.trans (Turn.of_below HT.out (fun _ => False)) (fun _ _ h => h.elim), ?_⟩
  rcases HS.out.2.2.2.2 with h1 | h1
  · exact .inl h1
  · refine .inr fun g e1 => ?_
    rw [h1] at e1
    injection e1 with e1
    omega
end Go.Proofs.Ytgmchedfgdgenaa
