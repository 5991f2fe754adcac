/- Join, Meet, Minus, Within, Same at int, walked. Conditions: both lists rise; their lengths together are within Go's bound. -/
import Derived.Test.YtdlnglffimcopaaSet4I
namespace Go.Proofs.Ytdlnglffimcopaa
open Go.RowKit
namespace SoI

/-- two boxes and a third one for the answer -/
theorem boxes (A A' : Option Addr) (n m c c' : Nat) (s o : List Int) (w w0 : World) (hw0 : w0 = ((w.alloc (.cells #[.slice A n c] 58)).alloc (.cells #[.slice A' m c'] 58)).alloc (.cells #[.slice none 0 0] 58))
    (hs : Sl (Value.int .i64) w A n s) (ho : Sl (Value.int .i64) w A' m o) : w0.heap.size = w.heap.size + 3 ∧ Sl (Value.int .i64) w0 A n s ∧ Sl (Value.int .i64) w0 A' m o ∧ Below w.heap.size w w0 ∧ RowC w0 w.heap.size 58 [.slice A n c] ∧
      RowC w0 (w.heap.size + 1) 58 [.slice A' m c'] ∧ RowC w0 (w.heap.size + 2) 58 [.slice none 0 0] := by
  subst hw0
  refine ⟨by simp, ((hs.alloc _).alloc _).alloc _, ((ho.alloc _).alloc _).alloc _, (((Below.refl _ _).alloc (Nat.le_refl _) _).alloc (by simp) _).alloc (by simp; omega) _, ((RowC.new w 58 [.slice A n c]).alloc _).alloc _, ?_, ?_⟩
  · have h := (RowC.new (w.alloc (.cells #[.slice A n c] 58)) 58 [.slice A' m c']).alloc (.cells #[.slice none 0 0] 58)
    simpa using h
  · have h := RowC.new ((w.alloc (.cells #[.slice A n c] 58)).alloc (.cells #[.slice A' m c'] 58)) 58 [.slice none 0 0]
    simpa using h

set_option maxHeartbeats 800000 in
theorem join_any (A A' : Option Addr) (n m c c' : Nat) (s o : List Int) (w : World) (hs : Sl (Value.int .i64) w A n s) (ho : Sl (Value.int .i64) w A' m o) (hsa : Asc cmpI s) (hoa : Asc cmpI o) (hb : (n + m) * 8 ≤ 140737488355328) :
    Calls Try.prog 60 #[.agg #[.slice A n c], .agg #[.slice A' m c']] w fun e w' => ∃ Ao k co out, e = .returned (.agg #[.slice Ao k co]) ∧ Chosen cmpI true true true s o out ∧
      Sl (Value.int .i64) w' Ao k out ∧ Below w.heap.size w w' := by
  obtain ⟨w0, hw0⟩ : ∃ w0 : World, w0 = ((w.alloc (.cells #[.slice A n c] 58)).alloc (.cells #[.slice A' m c'] 58)).alloc (.cells #[.slice none 0 0] 58) := ⟨_, rfl⟩
  obtain ⟨hsz, hs0, ho0, hbw, q1, q2, q3⟩ := boxes A A' n m c c' s o w w0 hw0 hs ho
  have r1 := q1.cell 0
  have r2 := q2.cell 0
  have HB := Lib.hid hbw; clear hbw
  go_enter Try.func60, Try.ntmps60
  go_wp2_with fail
  rw [← hw0]
  rw [show w.heap.size + 1 + 1 = w.heap.size + 2 from rfl]
  refine (choose_any A A' n m c c' s o true true true w0 hs0 ho0 hsa hoa hb).mono ?_
  rintro e w1 ⟨Ao, k, co, out, rfl, hch, how, hbel⟩
  have HC := Lib.hid hch
  have p3 := q3.below' hbel
  have r3 := p3.cell 0
  have r4 := p3.frozen 0
  have r5 : (w1.setCell ⟨w.heap.size + 2, 0, none⟩ (.slice Ao k co)).cell? ⟨w.heap.size + 2, 0, none⟩ = some (.slice Ao k co) := (p3.put 0 _).cell 0
  have hk : k ≤ n + m := by have h1 := hch.len; have h2 := how.length; have h3 := hs.len; have h4 := ho.len; omega
  clear hch
  go_wp2_with fail
  have hfin : Below w.heap.size w (w1.setCell ⟨w.heap.size + 2, 0, none⟩ (.slice Ao k co)) := (HB.out.trans (hbel.mono (by omega))).setCell (show w.heap.size ≤ w.heap.size + 2 by omega) _
  exact bodyPost_ret (v := .agg #[.slice Ao k co]) (by simp [results, Try.results60, go_sem, r5]) rfl ⟨Ao, k, co, out, rfl, HC.out, OwnR.sl (ownsRow_setCell_below how (show w.heap.size + 2 < w0.heap.size + 3 by omega) _) (by omega), hfin⟩

set_option maxHeartbeats 800000 in
theorem meet_any (A A' : Option Addr) (n m c c' : Nat) (s o : List Int) (w : World) (hs : Sl (Value.int .i64) w A n s) (ho : Sl (Value.int .i64) w A' m o) (hsa : Asc cmpI s) (hoa : Asc cmpI o) (hb : (n + m) * 8 ≤ 140737488355328) :
    Calls Try.prog 56 #[.agg #[.slice A n c], .agg #[.slice A' m c']] w fun e w' => ∃ Ao k co out, e = .returned (.agg #[.slice Ao k co]) ∧ Chosen cmpI false true false s o out ∧
      Sl (Value.int .i64) w' Ao k out ∧ Below w.heap.size w w' := by
  obtain ⟨w0, hw0⟩ : ∃ w0 : World, w0 = ((w.alloc (.cells #[.slice A n c] 58)).alloc (.cells #[.slice A' m c'] 58)).alloc (.cells #[.slice none 0 0] 58) := ⟨_, rfl⟩
  obtain ⟨hsz, hs0, ho0, hbw, q1, q2, q3⟩ := boxes A A' n m c c' s o w w0 hw0 hs ho
  have r1 := q1.cell 0
  have r2 := q2.cell 0
  have HB := Lib.hid hbw; clear hbw
  go_enter Try.func56, Try.ntmps56
  go_wp2_with fail
  rw [← hw0]
  rw [show w.heap.size + 1 + 1 = w.heap.size + 2 from rfl]
  refine (choose_any A A' n m c c' s o false true false w0 hs0 ho0 hsa hoa hb).mono ?_
  rintro e w1 ⟨Ao, k, co, out, rfl, hch, how, hbel⟩
  have HC := Lib.hid hch
  have p3 := q3.below' hbel
  have r3 := p3.cell 0
  have r4 := p3.frozen 0
  have r5 : (w1.setCell ⟨w.heap.size + 2, 0, none⟩ (.slice Ao k co)).cell? ⟨w.heap.size + 2, 0, none⟩ = some (.slice Ao k co) := (p3.put 0 _).cell 0
  have hk : k ≤ n + m := by have h1 := hch.len; have h2 := how.length; have h3 := hs.len; have h4 := ho.len; omega
  clear hch
  go_wp2_with fail
  have hfin : Below w.heap.size w (w1.setCell ⟨w.heap.size + 2, 0, none⟩ (.slice Ao k co)) := (HB.out.trans (hbel.mono (by omega))).setCell (show w.heap.size ≤ w.heap.size + 2 by omega) _
  exact bodyPost_ret (v := .agg #[.slice Ao k co]) (by simp [results, Try.results56, go_sem, r5]) rfl ⟨Ao, k, co, out, rfl, HC.out, OwnR.sl (ownsRow_setCell_below how (show w.heap.size + 2 < w0.heap.size + 3 by omega) _) (by omega), hfin⟩

end SoI
end Go.Proofs.Ytdlnglffimcopaa
