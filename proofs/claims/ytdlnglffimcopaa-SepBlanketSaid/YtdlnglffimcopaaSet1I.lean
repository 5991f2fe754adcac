/- set.Of, List, Len at int, walked. Conditions: the slice reads as a list, of a length that Go's bound lets in. -/
import Derived.Test.YtdlnglffimcopaaSort5I
import Derived.Test.YtdlnglffimcopaaSl1I
import Derived.Outline
namespace Go.Proofs.Ytdlnglffimcopaa
open Go.RowKit
namespace SoI

theorem swo : Swo lt := cmpokI.swo

set_option maxHeartbeats 400000 in
theorem of_any (A : Option Addr) (n c : Nat) (xs : List Int) (w : World) (hx : Sl (Value.int .i64) w A n xs) (hb : n * 8 ≤ 140737488355328) :
    Calls Try.prog 49 #[.slice A n c] w fun e w' => ∃ A' k c', e = .returned (.agg #[.slice A' k c']) ∧ OwnR (Value.int .i64) w' (w.heap.size + 1) 3 A' k c' (setOf cmpI xs) ∧ Below w.heap.size w w' := by
  have hbig := hx.big
  go_enter Try.func49, Try.ntmps49
  go_wp2_with fail
  refine (clone_any A n c xs _ (hx.alloc _) hb).mono ?_
  rintro e w1 ⟨A1, c1, rfl, how1, hb1⟩
  go_wp2_with fail
  have hs1 : w.heap.size + 1 ≤ w1.heap.size := by have := hb1.size; simpa using this
  simp only [World.size_alloc] at how1 hb1
  refine (sort_any swo (w.heap.size + 1) A1 n c1 xs _ how1 hbig hs1).mono ?_
  rintro e w2 ⟨rfl, ⟨S, hS1, hS2, how2⟩, hb2⟩
  go_wp2_with fail
  have hs2 : w.heap.size + 1 ≤ w2.heap.size := Nat.le_trans hs1 hb2.size
  refine (compact_any (w.heap.size + 1) A1 n c1 _ _ how2 hbig hs2).mono ?_
  rintro e w3 ⟨k, rfl, how3, hb3⟩
  have hb13 := (hb1.trans hb2).trans hb3
  have hbox : RowC w3 w.heap.size 58 [.slice none 0 0] := (RowC.new w 58 [.slice none 0 0]).below hb13 (Nat.lt_succ_self _)
  have r1 := hbox.cell 0
  have r2 := hbox.frozen 0
  have r3 : (w3.setCell ⟨w.heap.size, 0, none⟩ (.slice A1 k c1)).cell? ⟨w.heap.size, 0, none⟩ = some (.slice A1 k c1) := (hbox.put 0 _).cell 0
  have hfin : OwnR (Value.int .i64) (w3.setCell ⟨w.heap.size, 0, none⟩ (.slice A1 k c1)) (w.heap.size + 1) 3 A1 k c1 (setOf cmpI xs) := by
    have h := dd_setOf cmpokI hS1 hS2
    rw [← h]
    exact ownsRow_setCell_below how3 (Nat.lt_succ_self _) _
  have hbel : Below w.heap.size w (w3.setCell ⟨w.heap.size, 0, none⟩ (.slice A1 k c1)) :=
    (((Below.refl _ _).alloc (Nat.le_refl _) _).trans (hb13.mono (Nat.le_succ _))).setCell (Nat.le_refl _) _
  go_wp2_with fail
  exact bodyPost_ret (v := .agg #[.slice A1 k c1]) (by simp [results, Try.results49, go_sem, r3]) rfl ⟨A1, k, c1, rfl, hfin, hbel⟩

/-- List: a new slice of the things -/
theorem list_any (A : Option Addr) (n c : Nat) (xs : List Int) (w : World) (hx : Sl (Value.int .i64) w A n xs) (hb : n * 8 ≤ 140737488355328) :
    Calls Try.prog 50 #[.agg #[.slice A n c]] w fun e w' => ∃ A' c', e = .returned (.slice A' n c') ∧ OwnR (Value.int .i64) w' (w.heap.size + 1) 3 A' n c' xs ∧ Below w.heap.size w w' := by
  have hbig := hx.big
  obtain ⟨i0, hi, hz0, hz1, hz2⟩ := info_parts info
  have hbox := RowC.new w 58 [.slice A n c]
  have r1 := hbox.cell 0
  have r2 := hbox.frozen 0
  have how := OwnR.nil (Value.int .i64) (w.alloc (.cells #[.slice A n c] 58)) (w.heap.size + 1) 3
  go_enter Try.func50, Try.ntmps50
  go_wp2_with (first
    | (at_builtin; refine wpList_append_sl _ (Value.int .i64) one rfl _ _ 23 rfl (w.heap.size + 1) 3 i0 (.int .i64 0) 8 Try.underlying23 hi hz0 hz1 hz2 rfl _ _ _ _ rfl how _ _ _ _ rfl (hx.alloc _) ?c1 ?c2 ?c3 ?_)
    | fail)
  case c1 => unfold maxLen; omega
  case c2 => omega
  case c3 => simp
  intro A' c' w' how' hg hb' _
  go_wp2_with fail
  go_ret
  exact ⟨A', c', rfl, by simpa using how', ((Below.refl _ _).alloc (Nat.le_refl _) _).trans (hb'.mono (Nat.le_succ _))⟩
/-- Len -/
theorem len_any (A : Option Addr) (n c : Nat) (w : World) :
    Calls Try.prog 57 #[.agg #[.slice A n c]] w fun e w' => e = .returned (.int .i64 n) ∧ Below w.heap.size w w' := by
  have hbox := RowC.new w 58 [.slice A n c]
  have r1 := hbox.cell 0
  go_enter Try.func57, Try.ntmps57
  go_wp2_with fail
  go_ret
  exact ⟨rfl, (Below.refl _ _).alloc (Nat.le_refl _) _⟩
end SoI
end Go.Proofs.Ytdlnglffimcopaa
