/- credenceref16.start, walked: a hunt from a point. Conditions: the parents may be, what is given is points. -/
import Derived.Test.YtdlnglffimcopaaRefWalk
namespace Go.Proofs.Ytdlnglffimcopaa
open Go.RowKit

def StartPost (G : List (List Nat)) (given : List Int) (n : Nat) (PA GA : Option Addr) (pc mg gd : Nat) (a : Nat) (tg : Int) (w : World) (e : Ending) (w' : World) : Prop :=
  ∃ w1 UA mu ud hb cb L BA bn bc b, e = .returned (.pointer (some ⟨hb, 0, none⟩)) ∧ Below w.heap.size w w' ∧ w.heap.size ≤ cb ∧ HuntM w1 n PA GA UA pc mg gd mu ud tg hb cb L BA bn bc b w' ∧ L.length = n ∧
    Hst tg (Zp given) (fun l' => ¬ Zp given a ∧ Trl G (Zp given) (Ap G given) a l') L b

set_option maxRecDepth 100000 in
set_option maxHeartbeats 1600000 in
theorem start_ref (A B : Option Addr) (n c m d : Nat) (Ps : List (List Int)) (given : List Int) (a : Nat) (tg : Int) (w : World) (h : Rows (Value.int .i64) w A n Ps) (hg : Sl (Value.int .i64) w B m given) (hc : checkP Ps = 0) (hin : inRow n given = true) (ha : a < n) (hn : n * 24 ≤ 140737488351232) :
    Calls Try.prog 45 #[.slice A n c, .int .i64 (a : Int), .int .i64 tg, .slice B m d] w (StartPost (toG Ps) given n A B c m d a tg w) := by
  obtain ⟨wa, hwa⟩ : ∃ wa : World, wa = w := ⟨_, rfl⟩
  subst hwa
  have hL := h.len
  have hGl : (toG Ps).length = n := by rw [toG_length]; exact hL
  have hinr := (checkP_ok hc).1
  have HB := Lib.hid (And.intro h (And.intro hg (And.intro hinr hGl)))
  clear hL hGl hinr
  go_enter Try.func45, Try.ntmps45
  go_wp2_with fail
  refine (above_ref A B n c m d Ps given _ h hg hn hc).mono ?_
  rintro e w1 ⟨hb1, UA, mu, ud, rfl, hU, _⟩
  have hin' : inRow (toG Ps).length given = true := by rw [HB.out.2.2.2]; exact hin
  have hU := hU hin'
  rw [if_pos hin']
  clear hin'
  have hg1 := hg.below (Nat.le_refl _) hb1
  have hS : HuntS w1 (toG Ps) given n A B UA m mu := ⟨(h.below (Nat.le_refl _) hb1).toNat HB.out.2.2.1, hg1, hU, HB.out.2.2.2, good_toG HB.out.2.2.1⟩
  have HS := Lib.hid (And.intro hS hb1)
  clear hS hb1 hU h hg
  go_wp2_with (first
    | (with_reducible refine wpList_mk _ eiBool eB false rfl rfl _ _ rfl n rfl rfl (by omega) ?_)
    | fail)
  intro w2 hrow2 hb2
  have hlt := hrow2.lt
  have hM : HuntM w1 n A B UA c m d mu ud tg w2.heap.size w1.heap.size (List.replicate n false) none 0 0 none (w2.alloc (.cells #[.slice A n c, .slice B m d, .slice UA mu ud, .int .i64 tg, .slice none 0 0, .slice (some ⟨w1.heap.size, 0, none⟩) n n] 56)) :=
    ⟨RowC.new w2 56 _, hrow2.alloc _, .inl ⟨rfl, rfl, rfl, rfl⟩, hlt, hb2.alloc hb2.size _, Nat.le_refl _⟩
  have hgw := hg1.below (Nat.le_refl _) hM.bel
  have HM := Lib.hid (And.intro hM (And.intro hb2 hlt))
  clear hM hb2 hrow2 hg1
  go_wp2_with fail
  generalize hwv : w2.alloc (.cells #[.slice A n c, .slice B m d, .slice UA mu ud, .int .i64 tg, .slice none 0 0, .slice (some ⟨w1.heap.size, 0, none⟩) n n] 56) = wv at *
  have hszv : wv.heap.size = w2.heap.size + 1 := by rw [← hwv]; simp
  have hbv : Below wa.heap.size wa wv := HS.out.2.trans (HM.out.1.bel.mono HS.out.2.size)
  have HV := Lib.hid (And.intro hbv (And.intro hszv HS.out.2.size))
  clear hwv hszv hbv
  refine (has_ref B m d _ _ _ hgw).mono ?_
  rintro e w5 ⟨rfl, rfl⟩
  generalize hz : decide ((a : Int) ∈ given) = z at *
  clear hgw
  cases z with
  | true =>
    have hzp : Zp given a := hz
    have HZ := Lib.hid hzp
    clear hz hzp
    go_wp2_with fail
    go_ret
    exact ⟨w1, UA, mu, ud, w2.heap.size, w1.heap.size, _, none, 0, 0, none, rfl, HV.out.1, HV.out.2.2, HM.out.1, by simp, (Hst.none n).congr fun l' => ⟨fun h => h.elim, fun h => (h.1 HZ.out).elim⟩⟩
  | false =>
    have hzp : ¬ Zp given a := fun h => by have h1 : decide ((a : Int) ∈ given) = true := h; rw [hz] at h1; cases h1
    have HZ := Lib.hid hzp
    have hone : OwnR eN (w5.alloc (.cells #[.int .i64 (a : Int)] 3)) (w2.heap.size + 1) 3 (some ⟨w5.heap.size, 0, none⟩) 1 1 [a] := by
      have hr : RowAt eN (w5.alloc (.cells #[.int .i64 (a : Int)] 3)) w5.heap.size 3 [a] [] := RowC.new w5 3 [.int .i64 (a : Int)]
      exact OwnR.of_row' hr (by rw [HV.out.2.1]; exact Nat.le_refl _) rfl (by unfold maxLen; omega) rfl
    have hM2 := HM.out.1.step ((Below.refl w5.heap.size w5).alloc (Nat.le_refl _) (.cells #[.int .i64 (a : Int)] 3))
    have HO := Lib.hid (And.intro hone hM2)
    clear hz hzp hone hM2
    go_wp2_with fail
    refine (walk_ref HS.out.1 ha hn (n + 1) a [] (fun _ => False) (some ⟨w5.heap.size, 0, none⟩) 1 1 (List.replicate n false) none 0 0 none _ (by omega) .one HO.out.1 HO.out.2 (by simp) (Hst.none n) (fun _ h => h.elim)).mono ?_
    rintro e w6 ⟨rfl, hT6, L6, BA6, bn6, bc6, b6, hM6, hL6, hH6⟩
    have hbf : Below wa.heap.size wa w6 := (HV.out.1.alloc HV.out.1.size _).trans (hT6.below (by have := HV.out.1.size; simp; omega) (fun x hx h => by
      have := HV.out.2.2
      have := HM.out.2.2
      rcases h with h | h <;> omega))
    have HF := Lib.hid (And.intro hbf (And.intro hM6 (And.intro hL6 hH6)))
    clear hbf hM6 hL6 hH6 hT6
    go_wp2_with fail
    go_ret
    exact ⟨w1, UA, mu, ud, w2.heap.size, w1.heap.size, L6, BA6, bn6, bc6, b6, rfl, HF.out.1, HV.out.2.2, HF.out.2.1, HF.out.2.2.1, HF.out.2.2.2.congr fun l' => ⟨fun h => ⟨HZ.out, by rcases h with h | h; exact h.elim; exact (ext_one l').1 h⟩, fun h => .inr ((ext_one l').2 h.2)⟩⟩
end Go.Proofs.Ytdlnglffimcopaa
