/- dag.Below, walked: some points and all that hangs on them, rising, or the error. Conditions: the parents and the points read, within Go's bound. -/
import Derived.Test.YtaibdlnolpbpiaaAbove
namespace Go.Proofs.Ytaibdlnolpbpiaa
open Go.RowKit

def BelowPost (w : World) (Ps : List (List Int)) (pts : List Int) (e : Ending) (w' : World) : Prop :=
  Below w.heap.size w w' ∧ ∃ C k d, e = .returned (.tuple #[.slice C k d, .int .i64 (aboveE Ps pts)]) ∧ (aboveE Ps pts = 0 → Sl eN w' C k (upList (kids (toG Ps)) (pts.map Int.toNat))) ∧ (aboveE Ps pts ≠ 0 → k = 0) ∧ k ≤ d
set_option maxRecDepth 100000 in
set_option maxHeartbeats 1600000 in
theorem below_any (A B : Option Addr) (n c m d : Nat) (Ps : List (List Int)) (pts : List Int) (w : World) (h : Rows (Value.int .i64) w A n Ps) (hp : Sl (Value.int .i64) w B m pts) (hn : n * 24 ≤ 140737488351232) :
    Calls Try.prog 35 #[.slice A n c, .slice B m d] w (BelowPost w Ps pts) := by
  have HL := Lib.hid h.len
  obtain ⟨wa, hwa⟩ : ∃ wa : World, wa = w := ⟨_, rfl⟩
  subst hwa
  go_enter Try.func35, Try.ntmps35
  go_wp2_with fail
  refine (check_dag A n c Ps _ h hn).mono ?_
  rintro e w1 ⟨rfl, hb⟩
  have HB := Lib.hid hb; clear hb
  by_cases hf : checkP Ps = 0
  · obtain ⟨hr, hd, _⟩ := checkP_ok hf
    have hae : aboveE Ps pts = if inRow Ps.length pts = true then 0 else 3 := by unfold aboveE; rw [if_neg (by rw [hf]; simp)]
    have HA := Lib.hid hae
    rw [hf]
    have h1 := (h.below (Nat.le_refl _) HB.out).toNat hr
    have hnd := nodup_toG hr hd
    have hg := good_toG hr
    have hlg : (toG Ps).length = n := by rw [toG_length]; exact HL.out
    have hp1 := hp.below (Nat.le_refl _) HB.out
    have HG := Lib.hid (And.intro hnd (And.intro hg hlg)); clear hnd hg hlg hr hd hf hae
    go_wp2_with fail
    refine (children_any A n c (toG Ps) _ h1 HG.out.2.1 (fun i hi => HG.out.1 i (by rw [HG.out.2.2]; exact hi)) hn).mono ?_
    rintro e w2 ⟨D, dd, rfl, h2, hb2⟩
    have hp2 := hp1.below (Nat.le_refl _) hb2
    have hb3 := HB.out.trans (hb2.mono HB.out.size)
    have HB3 := Lib.hid hb3; clear hb2 hb3 h1 hp1
    go_wp2_with fail
    refine (reach_any D B n dd m d (kids (toG Ps)) pts _ h2.rows (good_kids _) hp2 hn).mono ?_
    rintro e w3 ⟨hb4, C, k, d2, rfl, h5, h6, h7⟩
    have hb5 := HB3.out.trans (hb4.mono HB3.out.size)
    rw [kids_length, toG_length] at h5 h6 ⊢
    have HC := Lib.hid (And.intro hb5 (And.intro h5 h6)); clear hb4 hb5 h5 h6 h2 hp2
    generalize hx : (if inRow Ps.length pts = true then (0 : Int) else 3) = x at *
    have HX := Lib.hid hx; clear hx
    go_wp2_with fail
    go_ret2
    refine ⟨HC.out.1, C, k, d2, by rw [HA.out]; rfl, fun h0 => HC.out.2.1 ?_, fun h0 => (HC.out.2.2 ?_).2.1, h7⟩
    · have h1 := HX.out
      rw [HA.out] at h0; rw [h0] at h1
      split at h1
      · assumption
      · omega
    · have h1 := HX.out
      rw [HA.out] at h0
      split at h1
      · exact absurd h1.symm h0
      · simpa using ‹¬ inRow Ps.length pts = true›
  · have hae : aboveE Ps pts = checkP Ps := by unfold aboveE; rw [if_pos hf]
    have HA := Lib.hid hae; clear hae
    have hle := checkP_le Ps
    go_wp2_with fail
    go_ret2
    exact ⟨HB.out, none, 0, 0, by rw [HA.out]; rfl, fun h0 => absurd (HA.out.symm.trans h0) hf, fun _ => rfl, Nat.le_refl _⟩
end Go.Proofs.Ytaibdlnolpbpiaa
