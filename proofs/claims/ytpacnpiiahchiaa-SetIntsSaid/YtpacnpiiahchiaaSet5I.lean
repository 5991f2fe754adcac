/- Join, Meet, Minus, Within, Same at int, walked. Conditions: both lists rise; their lengths together are within Go's bound. -/
import Derived.Test.YtpacnpiiahchiaaSet4I
namespace Go.Proofs.Ytpacnpiiahchiaa
open Go.RowKit
namespace SoI

/-- two boxes and a third one for the answer -/
theorem boxes (A A' : Option Addr) (n m c c' : Nat) (s o : List Int) (w w0 : World) (hw0 : w0 = ((w.alloc (.cells #[.slice A n c] 25)).alloc (.cells #[.slice A' m c'] 25)).alloc (.cells #[.slice none 0 0] 25))
    (hs : Sl (Value.int .i64) w A n s) (ho : Sl (Value.int .i64) w A' m o) : w0.heap.size = w.heap.size + 3 ∧ Sl (Value.int .i64) w0 A n s ∧ Sl (Value.int .i64) w0 A' m o ∧ Below w.heap.size w w0 ∧ RowC w0 w.heap.size 25 [.slice A n c] ∧
      RowC w0 (w.heap.size + 1) 25 [.slice A' m c'] ∧ RowC w0 (w.heap.size + 2) 25 [.slice none 0 0] := by
  subst hw0
  refine ⟨by simp, ((hs.alloc _).alloc _).alloc _, ((ho.alloc _).alloc _).alloc _, (((Below.refl _ _).alloc (Nat.le_refl _) _).alloc (by simp) _).alloc (by simp; omega) _, ((RowC.new w 25 [.slice A n c]).alloc _).alloc _, ?_, ?_⟩
  · have h := (RowC.new (w.alloc (.cells #[.slice A n c] 25)) 25 [.slice A' m c']).alloc (.cells #[.slice none 0 0] 25)
    simpa using h
  · have h := RowC.new ((w.alloc (.cells #[.slice A n c] 25)).alloc (.cells #[.slice A' m c'] 25)) 25 [.slice none 0 0]
    simpa using h

set_option maxHeartbeats 800000 in
theorem join_any (A A' : Option Addr) (n m c c' : Nat) (s o : List Int) (w : World) (hs : Sl (Value.int .i64) w A n s) (ho : Sl (Value.int .i64) w A' m o) (hsa : Asc cmpI s) (hoa : Asc cmpI o) (hb : (n + m) * 8 ≤ 140737488355328) :
    Calls Try.prog 16 #[.agg #[.slice A n c], .agg #[.slice A' m c']] w fun e w' => ∃ Ao k co out, e = .returned (.agg #[.slice Ao k co]) ∧ Chosen cmpI true true true s o out ∧
      Sl (Value.int .i64) w' Ao k out ∧ Below w.heap.size w w' := by
  obtain ⟨w0, hw0⟩ : ∃ w0 : World, w0 = ((w.alloc (.cells #[.slice A n c] 25)).alloc (.cells #[.slice A' m c'] 25)).alloc (.cells #[.slice none 0 0] 25) := ⟨_, rfl⟩
  obtain ⟨hsz, hs0, ho0, hbw, q1, q2, q3⟩ := boxes A A' n m c c' s o w w0 hw0 hs ho
  have r1 := q1.cell 0
  have r2 := q2.cell 0
  have HB := Lib.hid hbw; clear hbw
  go_enter Try.func16, Try.ntmps16
  go_wp2_with fail
  rw [← hw0]
  rw [show w.heap.size + 1 + 1 = w.heap.size + 2 from rfl]
  refine (choose_any A A' n m c c' s o true true true w0 hs0 ho0 hsa hoa hb).mono ?_
  rintro e w1 ⟨Ao, k, co, out, rfl, hch, how, hbel⟩
  have HC := Lib.hid hch
  have p3 := q3.below' hbel
  have r3 := p3.cell 0
  have r4 := p3.frozen 0
  have r5 : (w1.setCell ⟨w.heap.size + 2, 0, none⟩ (.slice Ao k co)).cell? ⟨w.heap.size + 2, 0, none⟩ = some (.slice Ao k co) := (p3.put 0 _).cell 0
  have hk : k ≤ n + m := by have h1 := hch.len; have h2 := how.length; have h3 := hs.len; have h4 := ho.len; omega
  clear hch
  go_wp2_with fail
  have hfin : Below w.heap.size w (w1.setCell ⟨w.heap.size + 2, 0, none⟩ (.slice Ao k co)) := (HB.out.trans (hbel.mono (by omega))).setCell (show w.heap.size ≤ w.heap.size + 2 by omega) _
  exact bodyPost_ret (v := .agg #[.slice Ao k co]) (by simp [results, Try.results16, go_sem, r5]) rfl ⟨Ao, k, co, out, rfl, HC.out, OwnR.sl (ownsRow_setCell_below how (show w.heap.size + 2 < w0.heap.size + 3 by omega) _) (by omega), hfin⟩

set_option maxHeartbeats 800000 in
theorem meet_any (A A' : Option Addr) (n m c c' : Nat) (s o : List Int) (w : World) (hs : Sl (Value.int .i64) w A n s) (ho : Sl (Value.int .i64) w A' m o) (hsa : Asc cmpI s) (hoa : Asc cmpI o) (hb : (n + m) * 8 ≤ 140737488355328) :
    Calls Try.prog 18 #[.agg #[.slice A n c], .agg #[.slice A' m c']] w fun e w' => ∃ Ao k co out, e = .returned (.agg #[.slice Ao k co]) ∧ Chosen cmpI false true false s o out ∧
      Sl (Value.int .i64) w' Ao k out ∧ Below w.heap.size w w' := by
  obtain ⟨w0, hw0⟩ : ∃ w0 : World, w0 = ((w.alloc (.cells #[.slice A n c] 25)).alloc (.cells #[.slice A' m c'] 25)).alloc (.cells #[.slice none 0 0] 25) := ⟨_, rfl⟩
  obtain ⟨hsz, hs0, ho0, hbw, q1, q2, q3⟩ := boxes A A' n m c c' s o w w0 hw0 hs ho
  have r1 := q1.cell 0
  have r2 := q2.cell 0
  have HB := Lib.hid hbw; clear hbw
  go_enter Try.func18, Try.ntmps18
  go_wp2_with fail
  rw [← hw0]
  rw [show w.heap.size + 1 + 1 = w.heap.size + 2 from rfl]
  refine (choose_any A A' n m c c' s o false true false w0 hs0 ho0 hsa hoa hb).mono ?_
  rintro e w1 ⟨Ao, k, co, out, rfl, hch, how, hbel⟩
  have HC := Lib.hid hch
  have p3 := q3.below' hbel
  have r3 := p3.cell 0
  have r4 := p3.frozen 0
  have r5 : (w1.setCell ⟨w.heap.size + 2, 0, none⟩ (.slice Ao k co)).cell? ⟨w.heap.size + 2, 0, none⟩ = some (.slice Ao k co) := (p3.put 0 _).cell 0
  have hk : k ≤ n + m := by have h1 := hch.len; have h2 := how.length; have h3 := hs.len; have h4 := ho.len; omega
  clear hch
  go_wp2_with fail
  have hfin : Below w.heap.size w (w1.setCell ⟨w.heap.size + 2, 0, none⟩ (.slice Ao k co)) := (HB.out.trans (hbel.mono (by omega))).setCell (show w.heap.size ≤ w.heap.size + 2 by omega) _
  exact bodyPost_ret (v := .agg #[.slice Ao k co]) (by simp [results, Try.results18, go_sem, r5]) rfl ⟨Ao, k, co, out, rfl, HC.out, OwnR.sl (ownsRow_setCell_below how (show w.heap.size + 2 < w0.heap.size + 3 by omega) _) (by omega), hfin⟩

set_option maxHeartbeats 800000 in
theorem minus_any (A A' : Option Addr) (n m c c' : Nat) (s o : List Int) (w : World) (hs : Sl (Value.int .i64) w A n s) (ho : Sl (Value.int .i64) w A' m o) (hsa : Asc cmpI s) (hoa : Asc cmpI o) (hb : (n + m) * 8 ≤ 140737488355328) :
    Calls Try.prog 19 #[.agg #[.slice A n c], .agg #[.slice A' m c']] w fun e w' => ∃ Ao k co out, e = .returned (.agg #[.slice Ao k co]) ∧ Chosen cmpI true false false s o out ∧
      Sl (Value.int .i64) w' Ao k out ∧ Below w.heap.size w w' := by
  obtain ⟨w0, hw0⟩ : ∃ w0 : World, w0 = ((w.alloc (.cells #[.slice A n c] 25)).alloc (.cells #[.slice A' m c'] 25)).alloc (.cells #[.slice none 0 0] 25) := ⟨_, rfl⟩
  obtain ⟨hsz, hs0, ho0, hbw, q1, q2, q3⟩ := boxes A A' n m c c' s o w w0 hw0 hs ho
  have r1 := q1.cell 0
  have r2 := q2.cell 0
  have HB := Lib.hid hbw; clear hbw
  go_enter Try.func19, Try.ntmps19
  go_wp2_with fail
  rw [← hw0]
  rw [show w.heap.size + 1 + 1 = w.heap.size + 2 from rfl]
  refine (choose_any A A' n m c c' s o true false false w0 hs0 ho0 hsa hoa hb).mono ?_
  rintro e w1 ⟨Ao, k, co, out, rfl, hch, how, hbel⟩
  have HC := Lib.hid hch
  have p3 := q3.below' hbel
  have r3 := p3.cell 0
  have r4 := p3.frozen 0
  have r5 : (w1.setCell ⟨w.heap.size + 2, 0, none⟩ (.slice Ao k co)).cell? ⟨w.heap.size + 2, 0, none⟩ = some (.slice Ao k co) := (p3.put 0 _).cell 0
  have hk : k ≤ n + m := by have h1 := hch.len; have h2 := how.length; have h3 := hs.len; have h4 := ho.len; omega
  clear hch
  go_wp2_with fail
  have hfin : Below w.heap.size w (w1.setCell ⟨w.heap.size + 2, 0, none⟩ (.slice Ao k co)) := (HB.out.trans (hbel.mono (by omega))).setCell (show w.heap.size ≤ w.heap.size + 2 by omega) _
  exact bodyPost_ret (v := .agg #[.slice Ao k co]) (by simp [results, Try.results19, go_sem, r5]) rfl ⟨Ao, k, co, out, rfl, HC.out, OwnR.sl (ownsRow_setCell_below how (show w.heap.size + 2 < w0.heap.size + 3 by omega) _) (by omega), hfin⟩

/-- is all of s in o? -/
def withinB (s o : List Int) : Bool := s.all (fun z => isIn cmpI z o)
theorem minus_len {s o out : List Int} (h : Chosen cmpI true false false s o out) : (out.length = 0) ↔ withinB s o = true := by
  unfold withinB
  rw [List.length_eq_zero_iff, List.all_eq_true, List.eq_nil_iff_forall_not_mem]
  have hm : ∀ z, z ∈ out ↔ z ∈ s ∧ isIn cmpI z o = false := fun z => by rw [h.mem z]; simp [want]
  constructor
  · intro h1 z hz
    have h2 := h1 z
    rw [hm] at h2
    cases h3 : isIn cmpI z o
    · exact absurd ⟨hz, h3⟩ h2
    · rfl
  · intro h1 z hz
    obtain ⟨h2, h3⟩ := (hm z).1 hz
    rw [h1 z h2] at h3; cases h3
set_option maxHeartbeats 800000 in
theorem within_any (A A' : Option Addr) (n m c c' : Nat) (s o : List Int) (w : World) (hs : Sl (Value.int .i64) w A n s) (ho : Sl (Value.int .i64) w A' m o) (hsa : Asc cmpI s) (hoa : Asc cmpI o) (hb : (n + m) * 8 ≤ 140737488355328) :
    Calls Try.prog 20 #[.agg #[.slice A n c], .agg #[.slice A' m c']] w fun e w' => e = .returned (.bool (withinB s o)) ∧ Below w.heap.size w w' := by
  obtain ⟨w0, hw0⟩ : ∃ w0 : World, w0 = (w.alloc (.cells #[.slice A n c] 25)).alloc (.cells #[.slice A' m c'] 25) := ⟨_, rfl⟩
  have hs0 : Sl (Value.int .i64) w0 A n s := by rw [hw0]; exact (hs.alloc _).alloc _
  have ho0 : Sl (Value.int .i64) w0 A' m o := by rw [hw0]; exact (ho.alloc _).alloc _
  have hbw : Below w.heap.size w w0 := by rw [hw0]; exact ((Below.refl _ _).alloc (Nat.le_refl _) _).alloc (by simp) _
  have q1 : RowC w0 w.heap.size 25 [.slice A n c] := by rw [hw0]; exact (RowC.new w 25 [.slice A n c]).alloc _
  have q2 : RowC w0 (w.heap.size + 1) 25 [.slice A' m c'] := by
    have h := RowC.new (w.alloc (.cells #[.slice A n c] 25)) 25 [.slice A' m c']
    rw [hw0]; simpa using h
  have r1 := q1.cell 0
  have r2 := q2.cell 0
  have HB := Lib.hid hbw; clear hbw
  go_enter Try.func20, Try.ntmps20
  go_wp2_with fail
  rw [← hw0]
  refine (minus_any A A' n m c c' s o w0 hs0 ho0 hsa hoa hb).mono ?_
  rintro e w1 ⟨Ao, k, co, out, rfl, hch, hsl, hbel⟩
  have hk := minus_len hch
  rw [hsl.len] at hk
  have HK := Lib.hid hk; clear hk hch
  go_wp2_with fail
  refine (len_any Ao k co _).mono ?_
  rintro e w2 ⟨rfl, hb2⟩
  have hfin := HB.out.trans ((hbel.mono HB.out.size).trans (hb2.mono (Nat.le_trans HB.out.size hbel.size)))
  have HF := Lib.hid hfin; clear hfin hbel hb2 hsl
  go_wp2_with fail
  go_ret
  refine ⟨ret_bool ?_, HF.out⟩
  rw [Bool.eq_iff_iff, ← HK.out]
  simp
/-- are they the same? -/
def sameB (s o : List Int) : Bool := withinB s o && withinB o s
set_option maxHeartbeats 800000 in
theorem same_any (A A' : Option Addr) (n m c c' : Nat) (s o : List Int) (w : World) (hs : Sl (Value.int .i64) w A n s) (ho : Sl (Value.int .i64) w A' m o) (hsa : Asc cmpI s) (hoa : Asc cmpI o) (hb : (n + m) * 8 ≤ 140737488355328) :
    Calls Try.prog 17 #[.agg #[.slice A n c], .agg #[.slice A' m c']] w fun e w' => e = .returned (.bool (sameB s o)) ∧ Below w.heap.size w w' := by
  obtain ⟨w0, hw0⟩ : ∃ w0 : World, w0 = (w.alloc (.cells #[.slice A n c] 25)).alloc (.cells #[.slice A' m c'] 25) := ⟨_, rfl⟩
  have hs0 : Sl (Value.int .i64) w0 A n s := by rw [hw0]; exact (hs.alloc _).alloc _
  have ho0 : Sl (Value.int .i64) w0 A' m o := by rw [hw0]; exact (ho.alloc _).alloc _
  have hbw : Below w.heap.size w w0 := by rw [hw0]; exact ((Below.refl _ _).alloc (Nat.le_refl _) _).alloc (by simp) _
  have q1 : RowC w0 w.heap.size 25 [.slice A n c] := by rw [hw0]; exact (RowC.new w 25 [.slice A n c]).alloc _
  have q2 : RowC w0 (w.heap.size + 1) 25 [.slice A' m c'] := by
    have h := RowC.new (w.alloc (.cells #[.slice A n c] 25)) 25 [.slice A' m c']
    rw [hw0]; simpa using h
  have r1 := q1.cell 0
  have r2 := q2.cell 0
  have HB := Lib.hid hbw; clear hbw
  go_enter Try.func17, Try.ntmps17
  go_wp2_with fail
  rw [← hw0]
  refine (within_any A A' n m c c' s o w0 hs0 ho0 hsa hoa hb).mono ?_
  rintro e w1 ⟨rfl, hb1⟩
  have hs1 := hs0.below (Nat.le_refl _) hb1
  have ho1 := ho0.below (Nat.le_refl _) hb1
  have s1 := (q1.below' hb1).cell 0
  have s2 := (q2.below' hb1).cell 0
  have hB1 := HB.out.trans (hb1.mono HB.out.size)
  clear r1 r2 hb1
  rcases hwi : withinB s o
  · have hsame : sameB s o = false := by simp [sameB, hwi]
    have HSa := Lib.hid hsame; clear hsame hwi
    go_wp2_with fail
    go_ret
    exact ⟨by rw [HSa.out]; rfl, hB1⟩
  · have hsame : sameB s o = withinB o s := by simp [sameB, hwi]
    have HSa := Lib.hid hsame; clear hsame hwi
    go_wp2_with fail
    refine (within_any A' A m n c' c o s _ ho1 hs1 hoa hsa (by omega)).mono ?_
    rintro e w2 ⟨rfl, hb2⟩
    have hB2 := hB1.trans (hb2.mono hB1.size)
    have HF := Lib.hid hB2; clear hB2 hb2 hB1
    go_wp2_with fail
    go_ret
    exact ⟨by rw [HSa.out]; rfl, HF.out⟩
end SoI
end Go.Proofs.Ytpacnpiiahchiaa
