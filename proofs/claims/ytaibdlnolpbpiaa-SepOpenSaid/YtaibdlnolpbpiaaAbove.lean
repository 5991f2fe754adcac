/- dag.Above, walked: some points and all that they hang on, rising, or the error. Conditions: the parents and the points read, within Go's bound. -/
import Derived.Test.YtaibdlnolpbpiaaDag
import Derived.Test.YtaibdlnolpbpiaaReach
namespace Go.Proofs.Ytaibdlnolpbpiaa
open Go.RowKit

/-- why what is above some points may not be told -/
noncomputable def aboveE (Ps : List (List Int)) (pts : List Int) : Int := if checkP Ps ≠ 0 then checkP Ps else if inRow Ps.length pts = true then 0 else 3
def AbovePost (w : World) (Ps : List (List Int)) (pts : List Int) (e : Ending) (w' : World) : Prop :=
  Below w.heap.size w w' ∧ ∃ C k d, e = .returned (.tuple #[.slice C k d, .int .i64 (aboveE Ps pts)]) ∧ (aboveE Ps pts = 0 → Sl eN w' C k (upList (toG Ps) (pts.map Int.toNat))) ∧ (aboveE Ps pts ≠ 0 → k = 0) ∧ k ≤ d
set_option maxRecDepth 100000 in
set_option maxHeartbeats 1600000 in
theorem above_any (A B : Option Addr) (n c m d : Nat) (Ps : List (List Int)) (pts : List Int) (w : World) (h : Rows (Value.int .i64) w A n Ps) (hp : Sl (Value.int .i64) w B m pts) (hn : n * 24 ≤ 140737488351232) :
    Calls Try.prog 30 #[.slice A n c, .slice B m d] w (AbovePost w Ps pts) := by
  have HL := Lib.hid h.len
  obtain ⟨wa, hwa⟩ : ∃ wa : World, wa = w := ⟨_, rfl⟩
  subst hwa
  go_enter Try.func30, Try.ntmps30
  go_wp2_with fail
  refine (check_dag A n c Ps _ h hn).mono ?_
  rintro e w1 ⟨rfl, hb⟩
  have HB := Lib.hid hb; clear hb
  by_cases hf : checkP Ps = 0
  · obtain ⟨hr, hd, _⟩ := checkP_ok hf
    have hae : aboveE Ps pts = if inRow Ps.length pts = true then 0 else 3 := by unfold aboveE; rw [if_neg (by rw [hf]; simp)]
    have HA := Lib.hid hae
    rw [hf]
    have h1 := (h.below (Nat.le_refl _) HB.out).toNat hr
    have hg := good_toG hr
    have hp1 := hp.below (Nat.le_refl _) HB.out
    clear hd hr hf hae
    go_wp2_with fail
    refine (reach_any A B n c m d (toG Ps) pts _ h1 hg hp1 hn).mono ?_
    rintro e w2 ⟨hb2, C, k, d2, rfl, h2, h3, h4⟩
    have hb3 := HB.out.trans (hb2.mono HB.out.size)
    rw [toG_length] at h2 h3 ⊢
    have HC := Lib.hid (And.intro hb3 (And.intro h2 h3)); clear hb2 h2 h3 hb3 h1 hp1 hg
    generalize hx : (if inRow Ps.length pts = true then (0 : Int) else 3) = x at *
    have HX := Lib.hid hx; clear hx
    go_wp2_with fail
    go_ret2
    refine ⟨HC.out.1, C, k, d2, by rw [HA.out]; rfl, fun h0 => HC.out.2.1 ?_, fun h0 => (HC.out.2.2 ?_).2.1, h4⟩
    · have h1 := HX.out
      rw [HA.out] at h0; rw [h0] at h1
      split at h1
      · assumption
      · omega
    · have h1 := HX.out
      rw [HA.out] at h0
      split at h1
      · exact absurd h1.symm h0
      · simpa using ‹¬ inRow Ps.length pts = true›
  · have hae : aboveE Ps pts = checkP Ps := by unfold aboveE; rw [if_pos hf]
    have HA := Lib.hid hae; clear hae
    have hle := checkP_le Ps
    go_wp2_with fail
    go_ret2
    exact ⟨HB.out, none, 0, 0, by rw [HA.out]; rfl, fun h0 => absurd (HA.out.symm.trans h0) hf, fun _ => rfl, Nat.le_refl _⟩
end Go.Proofs.Ytaibdlnolpbpiaa
