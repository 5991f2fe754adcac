/- dag.Order, Check, Children, walked: whether parents may be; the children. Conditions: the parents read, within Go's bound. -/
import Derived.Test.YtaibdlnolpbpiaaFits
import Derived.Test.YtaibdlnolpbpiaaSrt
namespace Go.Proofs.Ytaibdlnolpbpiaa
open Go.RowKit

theorem nodup_toG {Ps : List (List Int)} (hr : inR Ps = true) (hd : Ps.any dup = false) : ∀ i, i < (toG Ps).length → (nth (toG Ps) i).Nodup := by
  intro i hi
  rw [toG_length] at hi
  rw [nth_toG hi]
  have h1 : dup (nth Ps i) = false := by
    have := List.any_eq_false.1 hd _ (nth_mem hi)
    simpa using this
  have h2 := dup_nodup h1
  have h3 := inR_row hr hi
  rw [List.nodup_iff_pairwise_ne] at h2 ⊢
  rw [List.pairwise_map]
  refine h2.imp_of_mem fun {a b} ha hb hne e => hne ?_
  have := h3 a ha
  have := h3 b hb
  omega
theorem fits_check {Ps : List (List Int)} (h : fitsC Ps ≠ 0) : checkP Ps = fitsC Ps := by
  unfold fitsC at h ⊢
  by_cases h1 : inR Ps = false
  · rw [if_pos h1, checkP_3 h1]
  · rw [if_neg h1] at h ⊢
    by_cases h2 : Ps.any dup = true
    · rw [if_pos h2, checkP_40 (by simpa using h1) h2]
    · rw [if_neg h2] at h; exact absurd rfl h
theorem fits_ok {Ps : List (List Int)} (h : fitsC Ps = 0) : inR Ps = true ∧ Ps.any dup = false := by
  unfold fitsC at h
  split at h
  · omega
  · split at h
    · omega
    · exact ⟨by simpa using ‹¬ inR Ps = false›, by simpa using ‹¬ Ps.any dup = true›⟩
def OrderPost (w : World) (Ps : List (List Int)) (e : Ending) (w' : World) : Prop := ∃ C k d, e = .returned (.tuple #[.slice C k d, .int .i64 (checkP Ps)]) ∧ Below w.heap.size w w'

set_option maxRecDepth 100000 in
set_option maxHeartbeats 1600000 in
theorem order_any (A : Option Addr) (n c : Nat) (Ps : List (List Int)) (w : World) (h : Rows (Value.int .i64) w A n Ps) (hn : n * 24 ≤ 140737488351232) : Calls Try.prog 74 #[.slice A n c] w (OrderPost w Ps) := by
  have hl := h.len
  obtain ⟨wa, hwa⟩ : ∃ wa : World, wa = w := ⟨_, rfl⟩
  subst hwa
  have HL := Lib.hid hl; clear hl
  go_enter Try.func74, Try.ntmps74
  go_wp2_with fail
  refine (fits_any A n c Ps _ h).mono ?_
  rintro e w1 ⟨rfl, hb⟩
  have HB := Lib.hid hb; clear hb
  by_cases hf : fitsC Ps = 0
  · have HF := Lib.hid hf
    rw [hf]
    obtain ⟨hr, hd⟩ := fits_ok hf
    have h1 := (h.below (Nat.le_refl _) HB.out).toNat hr
    have hnd := nodup_toG hr hd
    have hg := good_toG hr
    have hlg : (toG Ps).length = n := by rw [toG_length]; exact HL.out
    have HG := Lib.hid (And.intro hnd (And.intro hg (And.intro hlg (And.intro hr hd)))); clear hnd hg hlg hr hd hf
    go_wp2_with fail
    refine (children_any A n c (toG Ps) _ h1 HG.out.2.1 (fun i hi => HG.out.1 i (by rw [HG.out.2.2.1]; exact hi)) hn).mono ?_
    rintro e w2 ⟨B, d, rfl, h2, hb2⟩
    have h3 := h1.below (Nat.le_refl _) hb2
    have HB2 := Lib.hid (HB.out.trans (hb2.mono HB.out.size)); clear hb2
    go_wp2_with fail
    refine (sorted_any A B n c d (toG Ps) _ h3 h2.rows HG.out.2.1 (fun i hi => HG.out.1 i (by rw [HG.out.2.2.1]; exact hi)) hn).mono ?_
    rintro e w4 ⟨C, k, d4, L, rfl, hs, hk, hst, hb4⟩
    have hkl : k ≤ n := by have h1 := hk.length_le; have h2 := hs.len; have h3 := HG.out.2.2.1; omega
    have hiff := hk.full_iff HG.out.2.1 hst
    rw [hs.len, HG.out.2.2.1] at hiff
    have HB4 := Lib.hid (And.intro (HB2.out.trans (hb4.mono HB2.out.size)) hiff); clear hb4 hs hk hst hiff h1 h2 h3
    by_cases hlt : k < n
    · have hc : checkP Ps = 42 := checkP_42 HG.out.2.2.2.1 HG.out.2.2.2.2 (fun ha => by have := HB4.out.2.2 ha; omega)
      have HC := Lib.hid hc; clear hc
      go_wp2_with fail
      go_ret2
      exact ⟨none, 0, 0, by rw [HC.out]; rfl, HB4.out.1⟩
    · have hc : checkP Ps = 0 := checkP_0 HG.out.2.2.2.1 HG.out.2.2.2.2 (HB4.out.2.1 (by omega))
      have HC := Lib.hid hc; clear hc
      go_wp2_with fail
      go_ret2
      exact ⟨C, k, d4, by rw [HC.out]; rfl, HB4.out.1⟩
  · have hc := fits_check hf
    have HC := Lib.hid hc; clear hc
    generalize fitsC Ps = x at *
    go_wp2_with fail
    go_ret2
    exact ⟨none, 0, 0, by rw [HC.out]; rfl, HB.out⟩
theorem check_dag (A : Option Addr) (n c : Nat) (Ps : List (List Int)) (w : World) (h : Rows (Value.int .i64) w A n Ps) (hn : n * 24 ≤ 140737488351232) :
    Calls Try.prog 55 #[.slice A n c] w fun e w' => e = .returned (.int .i64 (checkP Ps)) ∧ Below w.heap.size w w' := by
  go_enter Try.func55, Try.ntmps55
  go_wp2_with fail
  refine (order_any A n c Ps _ h hn).mono ?_
  rintro e w1 ⟨C, k, d, rfl, hb⟩
  have HB := Lib.hid hb; clear hb
  go_wp2_with fail
  go_ret
  exact ⟨rfl, HB.out⟩
def ChildrenPost (w : World) (n : Nat) (Ps : List (List Int)) (e : Ending) (w' : World) : Prop :=
  ∃ C k d, e = .returned (.tuple #[.slice C k d, .int .i64 (checkP Ps)]) ∧ (checkP Ps = 0 → k = n ∧ RowsF w.heap.size eN w' C n (kids (toG Ps))) ∧ Below w.heap.size w w'
set_option maxRecDepth 100000 in
set_option maxHeartbeats 1600000 in
theorem childrenC_any (A : Option Addr) (n c : Nat) (Ps : List (List Int)) (w : World) (h : Rows (Value.int .i64) w A n Ps) (hn : n * 24 ≤ 140737488351232) : Calls Try.prog 61 #[.slice A n c] w (ChildrenPost w n Ps) := by
  have HL := Lib.hid h.len
  obtain ⟨wa, hwa⟩ : ∃ wa : World, wa = w := ⟨_, rfl⟩
  subst hwa
  go_enter Try.func61, Try.ntmps61
  go_wp2_with fail
  refine (check_dag A n c Ps _ h hn).mono ?_
  rintro e w1 ⟨rfl, hb⟩
  have HB := Lib.hid hb; clear hb
  by_cases hf : checkP Ps = 0
  · obtain ⟨hr, hd, _⟩ := checkP_ok hf
    have HF := Lib.hid hf
    rw [hf]
    have h1 := (h.below (Nat.le_refl _) HB.out).toNat hr
    have hnd := nodup_toG hr hd
    have hg := good_toG hr
    have hlg : (toG Ps).length = n := by rw [toG_length]; exact HL.out
    have HG := Lib.hid (And.intro hnd (And.intro hg hlg)); clear hnd hg hlg hr hd hf
    go_wp2_with fail
    refine (children_any A n c (toG Ps) _ h1 HG.out.2.1 (fun i hi => HG.out.1 i (by rw [HG.out.2.2]; exact hi)) hn).mono ?_
    rintro e w2 ⟨B, d, rfl, h2, hb2⟩
    have HB2 := Lib.hid (And.intro h2 (HB.out.trans (hb2.mono HB.out.size))); clear hb2 h2 h1
    go_wp2_with fail
    go_ret2
    exact ⟨B, n, d, by rw [HF.out]; rfl, fun _ => ⟨rfl, HB2.out.1.mono HB.out.size⟩, HB2.out.2⟩
  · go_wp2_with fail
    go_ret2
    exact ⟨none, 0, 0, rfl, fun h0 => absurd h0 hf, HB.out⟩
end Go.Proofs.Ytaibdlnolpbpiaa
