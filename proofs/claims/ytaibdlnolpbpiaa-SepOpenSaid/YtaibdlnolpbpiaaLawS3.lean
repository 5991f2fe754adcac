/- credencelaw16.own, walked: two answers, the first written over and gone on with, the second as it was. Conditions: the first one is the call's own; the others lie elsewhere; within Go's bound. -/
import Derived.Test.YtaibdlnolpbpiaaLawS2
namespace Go.Proofs.Ytaibdlnolpbpiaa
open Go.RowKit

theorem Sl.grown' {α : Type} [Inhabited α] {enc : α → Value} {w w' : World} {A : Option Addr} {n : Nat} {xs : List α} {row : Option Nat} (h : Sl enc w A n xs) (hg : w.grownBy w' row) (hne : ∀ b off, 0 < n → A = some ⟨b, off, none⟩ → row ≠ some b) : Sl enc w' A n xs :=
  ⟨h.len, h.big, fun hn => by
    obtain ⟨b, off, e, hlt, hc⟩ := h.at' hn
    exact ⟨b, off, e, Nat.lt_of_lt_of_le hlt hg.size, fun j hj => World.grownBy.cell hg (hc j hj) (fun e' => hne b off hn e e'.symm)⟩⟩
theorem OwnR.put {α : Type} {enc : α → Value} {w : World} {base : Nat} {e : TypeId} {g n c : Nat} {xs : List α} (h : OwnR enc w base e (some ⟨g, 0, none⟩) n c xs) {j : Nat} (hj : j < n) (v : α) : OwnR enc (w.setCell ⟨g, j, none⟩ (enc v)) base e (some ⟨g, 0, none⟩) n c (xs.set j v) := by
  obtain ⟨g', rest, e1, hb, hr, hc⟩ := h.row (by omega)
  injection e1 with e1; injection e1 with e1; subst e1
  have hl := h.length
  exact OwnR.of_row' (hr.set (by omega) v) hb (by simp; omega) h.capmax (by simpa using hl)
def OwnPost (w : World) (base : Nat) (e : Ending) (w' : World) : Prop := e = .returned (.bool true) ∧ Below base w w'

set_option maxRecDepth 100000 in
set_option maxHeartbeats 1600000 in
theorem own_any (base : Nat) (X Y P : Option Addr) (k c d p : Nat) (W : List Int) (w : World) (hx : OwnR (Value.int .i64) w base 3 X k c W) (hy : Sl (Value.int .i64) w Y k W) (hp : Sl (Value.int .i64) w P k W)
    (hyx : ∀ b off, 0 < k → Y = some ⟨b, off, none⟩ → X ≠ some ⟨b, 0, none⟩) (hpx : ∀ b off, 0 < k → P = some ⟨b, off, none⟩ → X ≠ some ⟨b, 0, none⟩) (hk : (k + 6) * 8 ≤ 140737488355328) (hB : base ≤ w.heap.size) :
    Calls Try.prog 16 #[.slice X k c, .slice Y k d, .slice P k p] w (OwnPost w base) := by
  have hl := hx.length
  have hxs := hx.sl (by omega)
  have HH := Lib.hid (And.intro hx (And.intro hy (And.intro hp (And.intro hyx (And.intro hpx (And.intro hxs hl)))))); clear hx hy hp hyx hpx hxs hl
  obtain ⟨wa, hwa⟩ : ∃ wa : World, wa = w := ⟨_, rfl⟩
  subst hwa
  go_enter Try.func16, Try.ntmps16
  go_wp2_with fail
  refine (same_ref X P k k c p W W _ HH.out.2.2.2.2.2.1 HH.out.2.2.1).mono ?_
  rintro e w1 ⟨rfl, t1, rfl⟩
  simp only [decide_true]
  go_wp2_with fail
  refine (same_ref Y P k k d p W W _ (HH.out.2.1.drewN t1) (HH.out.2.2.1.drewN t1)).mono ?_
  rintro e w2 ⟨rfl, t2, rfl⟩
  simp only [decide_true]
  obtain ⟨wb, hwb⟩ : ∃ wb : World, wb = (wa.drewN t1).drewN t2 := ⟨_, rfl⟩
  rw [← hwb]
  have hbb : Below base wa wb := by rw [hwb]; exact below_drewN (below_refl_drewN _ _ _) _
  have hx2 : OwnR (Value.int .i64) wb base 3 X k c W := by rw [hwb]; exact (HH.out.1.drewN t1).drewN t2
  have hy2 : Sl (Value.int .i64) wb Y k W := by rw [hwb]; exact (HH.out.2.1.drewN t1).drewN t2
  have hp2 : Sl (Value.int .i64) wb P k W := by rw [hwb]; exact (HH.out.2.2.1.drewN t1).drewN t2
  have hBb : base ≤ wb.heap.size := by rw [hwb]; exact hB
  have H2 := Lib.hid (And.intro hbb (And.intro hx2 (And.intro hy2 hp2))); clear hbb hx2 hy2 hp2 hwb
  go_wp2_with fail
  go_loopw [7] (fun i wr => ∃ (j : Nat) (Z : List Int), i = .int .i64 (j : Nat) ∧ j ≤ k ∧ OwnR (Value.int .i64) wr base 3 X k c Z ∧ wb.grownBy wr (Value.slice X k c).ownBlock) (fun i _ => k - (intOf i).toNat)
  case atStart => exact ⟨0, W, rfl, Nat.zero_le _, H2.out.2.1, grown_refl _ _⟩
  case round =>
    obtain ⟨j, Z, rfl, hj, ho, hg⟩ := hrel
    obtain ⟨wc, hwc⟩ : ∃ wc : World, wc = wr := ⟨_, rfl⟩
    subst hwc
    by_cases hlt : j < k
    · obtain ⟨g, rest, rfl, hbg, hr, hc⟩ := ho.row (by omega)
      have hzl := ho.length
      have g1 := hr.cell (j := j) (by omega)
      have f1 := hr.frozen j
      have ho2 := ho.put hlt (-1)
      have hg2 : wb.grownBy (wc.setCell ⟨g, j, none⟩ (.int .i64 (-1))) (some g) := grown_setCell hg j _
      have HF := Lib.hid (And.intro ho2 hg2); clear ho2 hg2 ho hg hr hzl
      go_wp2_with fail
      exact ⟨⟨j + 1, _, by go_num, by omega, HF.out.1, HF.out.2⟩, by simp [intOf]; omega⟩
    · obtain rfl : j = k := by omega
      have hyx2 : ∀ (Q : Option Addr), (∀ b off, 0 < j → Q = some ⟨b, off, none⟩ → X ≠ some ⟨b, 0, none⟩) → ∀ b off, 0 < j → Q = some ⟨b, off, none⟩ → (Value.slice X j c).ownBlock ≠ some b := fun Q hQ b off hp e e2 => hQ b off hp e (H2.out.2.1.ownBlock_eq e2)
      have hy3 := H2.out.2.2.1.grown' hg (hyx2 Y HH.out.2.2.2.1)
      have hp3 := H2.out.2.2.2.grown' hg (hyx2 P HH.out.2.2.2.2.1)
      have hb3 : Below base wa wc := H2.out.1.grown hg hBb (fun b e => by
        have := H2.out.2.1.ownBlock_eq e
        rcases H2.out.2.1.at_row with h1 | ⟨g', h1, h2, _⟩
        · rw [h1] at this; cases this
        · rw [h1] at this; injection this with this; injection this with this; omega)
      have HF := Lib.hid (And.intro ho (And.intro hy3 (And.intro hp3 hb3))); clear ho hg hy3 hp3 hb3 hyx2
      go_wp2_with fail
      go_loopw [8, 9] (fun v i wr => ∃ (q cq : Nat) (Q : Option Addr) (Z : List Int), v = .slice Q (j + q) cq ∧ i = .int .i64 (q : Nat) ∧ q ≤ 6 ∧ OwnR (Value.int .i64) wr base 3 Q (j + q) cq Z ∧ Sl (Value.int .i64) wr Y j W ∧ Sl (Value.int .i64) wr P j W ∧ Below base wa wr ∧ base ≤ wr.heap.size ∧
        (∀ b off, 0 < j → Y = some ⟨b, off, none⟩ → Q ≠ some ⟨b, 0, none⟩) ∧ (∀ b off, 0 < j → P = some ⟨b, off, none⟩ → Q ≠ some ⟨b, 0, none⟩)) (fun _ i _ => 6 - (intOf i).toNat)
      case atStart => exact ⟨0, c, X, Z, by simp, rfl, by omega, by simpa using HF.out.1, HF.out.2.1, HF.out.2.2.1, HF.out.2.2.2, Nat.le_trans hB HF.out.2.2.2.size, HH.out.2.2.2.1, HH.out.2.2.2.2.1⟩
      case round =>
        obtain ⟨q, cq, Q, Z2, rfl, rfl, hq, ho, hys, hps, hbl, hbz, hfy, hfp⟩ := hrel
        obtain ⟨wd, hwd⟩ : ∃ wd : World, wd = wr := ⟨_, rfl⟩
        subst hwd
        by_cases hlt : q < 6
        · have ho1 := ho.alloc (.cells #[.int .i64 (-2)] 3)
          have HG := Lib.hid (And.intro ho (And.intro hys (And.intro hps (And.intro hbl (And.intro hfy hfp))))); clear ho hys hps hbl hfy hfp
          go_wp2_with (first
            | (at_builtin; refine wpList_app _ eiInt (Value.int .i64) (fun _ => rfl) rfl _ _ rfl base _ _ _ _ rfl ho1 _ _ _ _ rfl (Sl.one _ _ _) (by omega) (by simp; omega) ?_)
            | fail)
          intro A9 c9 w9 ho9 hg9 hb9 hd9
          have hkeep : ∀ (R : Option Addr), Sl (Value.int .i64) wd R j W → (∀ b off, 0 < j → R = some ⟨b, off, none⟩ → Q ≠ some ⟨b, 0, none⟩) → Sl (Value.int .i64) w9 R j W ∧ ∀ b off, 0 < j → R = some ⟨b, off, none⟩ → A9 ≠ some ⟨b, 0, none⟩ := fun R hR hQ => by
            refine ⟨(hR.alloc (.cells #[.int .i64 (-2)] 3)).grown' hg9 (fun b off hp e e2 => hQ b off hp e (HG.out.1.ownBlock_eq e2)), fun b off hp e e2 => ?_⟩
            have hlt : b < wd.heap.size := by
              obtain ⟨b', off', e', hlt', _⟩ := hR.at' hp
              rw [e] at e'; injection e' with e'; injection e' with e' _ _; omega
            have h2 : (Value.slice A9 (j + q + 1) c9).ownBlock = some b := by rw [e2]; rfl
            rcases hd9 with hd | hd
            · rw [hd] at h2; exact hQ b off hp e (HG.out.1.ownBlock_eq h2)
            · rw [hd] at h2; injection h2 with h2; first | omega | (simp at h2; omega)
          obtain ⟨k1, k2⟩ := hkeep Y HG.out.2.1 HG.out.2.2.2.2.1
          obtain ⟨k3, k4⟩ := hkeep P HG.out.2.2.1 HG.out.2.2.2.2.2
          have hb10 := (HG.out.2.2.2.1.alloc hbz (.cells #[.int .i64 (-2)] 3)).trans hb9
          have hz10 : base ≤ w9.heap.size := Nat.le_trans hbz (by have := hg9.size; simp at this; omega)
          have H9 := Lib.hid (And.intro ho9 (And.intro k1 (And.intro k3 (And.intro hb10 (And.intro hz10 (And.intro k2 k4)))))); clear ho9 k1 k2 k3 k4 hb9 hb10 hz10 hg9 hd9 hkeep ho1
          go_wp2_with fail
          exact ⟨⟨q + 1, c9, A9, _, rfl, by go_num, by omega, H9.out.1, H9.out.2.1, H9.out.2.2.1, H9.out.2.2.2.1, H9.out.2.2.2.2.1, H9.out.2.2.2.2.2.1, H9.out.2.2.2.2.2.2⟩, by simp [intOf]; omega⟩
        · obtain rfl : q = 6 := by omega
          have HG := Lib.hid (And.intro hys (And.intro hps hbl)); clear ho hys hps hbl hfy hfp
          go_wp2_with fail
          refine (same_ref Y P j j d p W W _ HG.out.1 HG.out.2.1).mono ?_
          rintro e w5 ⟨rfl, t5, rfl⟩
          go_wp2_with fail
          go_ret
          exact ⟨ret_bool (by simp), below_drewN HG.out.2.2 t5⟩
end Go.Proofs.Ytaibdlnolpbpiaa
