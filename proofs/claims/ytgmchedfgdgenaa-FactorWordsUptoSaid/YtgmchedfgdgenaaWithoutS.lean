/- factor.without at string, walked. Conditions: the place lies in the scope; the sizes are 1 or more, not too many; within Go's bound. -/
import Derived.Test.YtgmchedfgdgenaaJ10
import Derived.Test.YtgmchedfgdgenaaSetAll
namespace Go.Proofs.Ytgmchedfgdgenaa
open Go.RowKit
attribute [local go_sem] Oper.semAt_some

set_option maxRecDepth 100000 in
set_option maxHeartbeats 1600000 in
theorem without_s (A1 A2 A3 : Option Addr) (n c1 c2 n3 c3 i : Nat) (S Z : List Int) (w : World) (h1 : Sl (Value.int .i64) w A1 n S) (h2 : Sl (Value.int .i64) w A2 n Z) (hi : i < n) (hb : n * 8 ≤ 140737488351232)
    (hz : ∀ z, z ∈ Z → 1 ≤ z) (hm : sufP Z 0 ≤ 2147483647) (hc2 : n ≤ c2) :
    Calls Try.prog 83 #[.agg #[.slice A1 n c1, .slice A2 n c2, .slice A3 n3 c3], .int .i64 (i : Int)] w fun e w' => ∃ B d C k, e = .returned (.tuple #[.slice B (n - 1) d, .slice C (n - 1) k, .int .i64 (sufP Z (i + 1))]) ∧
      OwnR (Value.int .i64) w' w.heap.size 3 B (n - 1) d (S.take i ++ S.drop (i + 1)) ∧ OwnR (Value.int .i64) w' w.heap.size 3 C (n - 1) k (Z.take i ++ Z.drop (i + 1)) ∧ (∀ g, B = some ⟨g, 0, none⟩ → C ≠ some ⟨g, 0, none⟩) ∧ Below w.heap.size w w' := by
  have H0 := (((Held.init w).sl h1).sl h2).new 33 [.slice A1 n c1, .slice A2 n c2, .slice A3 n3 c3]
  have r0 := H0.has.1.cell 0
  have r1 := H0.has.1.cell 1
  have hbig := h2.big
  obtain ⟨b, off, rfl, hbl, hcc⟩ := h2.at' (by omega)
  have HC := Lib.hid hcc
  have HZ := Lib.hid (And.intro hz hm)
  have hw1 : IntKind.i64.wrap ((i : Int) + 1) = (i : Int) + 1 := by simp [IntKind.wrap, IntKind.bits, IntKind.signed]; omega
  have p0 : (0 : Int) ≤ (i : Int) + 1 := by omega
  have p1 : (i : Int) + 1 ≤ (n : Int) := by omega
  have p2 : ((i : Int) + 1).toNat = i + 1 := by omega
  obtain ⟨o2, hA, hcell⟩ : ∃ o2 : Nat, (if c2 = i + 1 then some (⟨b, off, none⟩ : Addr) else some ⟨b, off + (i + 1), none⟩) = some ⟨b, o2, none⟩ ∧ ∀ j, j < n - (i + 1) → w.cell? ⟨b, o2 + j, none⟩ = some (.int .i64 (nth Z (i + 1 + j))) := by
    by_cases h : c2 = i + 1
    · exact ⟨off, by simp [h], fun j hj => by omega⟩
    · exact ⟨off + (i + 1), by simp [h], fun j hj => by rw [show off + (i + 1) + j = off + (i + 1 + j) by omega]; exact hcc _ (by omega)⟩
  have HCC := Lib.hid hcell
  have HLZ := Lib.hid h2.len
  have HW := Lib.hid h2
  clear hcc hz hm h1 h2 hcell
  go_enter Try.func83, Try.ntmps83
  go_upto_region 3 with fail
  have hlZ : Z.length = n := HLZ.out
  have L0 := Lib.hid H0
  clear r0 H0
  go_loop [6, 15] (fun s j => ∃ jj : Nat, j = .int .i64 (jj : Nat) ∧ s = .int .i64 (midP Z (i + 1) jj) ∧ jj ≤ n - (i + 1)) (fun s j => n - (i + 1) - (intOf j).toNat)
  case atStart => exact ⟨0, rfl, rfl, Nat.zero_le _⟩
  case round =>
    obtain ⟨jj, rfl, rfl, hj⟩ := hrel
    by_cases hlt : jj < n - (i + 1)
    · have k1 := HCC.out jj hlt
      have hm1 := midP_le HZ.out.1 (i + 1) (jj + 1) (by omega)
      have hm2 := midP_pos HZ.out.1 (i + 1) (jj + 1) (by omega)
      have hm3 := HZ.out.2
      have hmw : IntKind.i64.wrap (midP Z (i + 1) jj * nth Z (i + 1 + jj)) = midP Z (i + 1) (jj + 1) := by
        show IntKind.i64.wrap (midP Z (i + 1) (jj + 1)) = _
        simp [IntKind.wrap, IntKind.bits, IntKind.signed]; omega
      clear hm1 hm2 hm3
      go_wp2_with fail
      exact ⟨⟨jj + 1, by go_num, rfl, by omega⟩, by simp [intOf]; omega⟩
    · obtain rfl : jj = n - (i + 1) := by omega
      have hend : midP Z (i + 1) (n - (i + 1)) = sufP Z (i + 1) := by
        have h1 := midP_suf (Z := Z) (i + 1) (n - (i + 1)) (by omega)
        rw [sufP_end (by omega), Int.mul_one] at h1
        exact h1
      rw [hend]
      clear hend r1
      have r0 := L0.out.has.1.cell 0
      have hb2 : n * 8 ≤ 140737488355328 := by omega
      go_wp2_with fail
      refine (SoI.clone_any A1 n c1 S _ L0.out.has.2.2.1 hb2).mono ?_
      rintro e w1 ⟨B, d, rfl, hoB, hbB⟩
      have H1 := Lib.hid (L0.out.step hbB)
      clear r0
      go_wp2_with fail
      refine (del_any B n d _ i S _ hoB hi).mono ?_
      rintro e w2 ⟨rfl, hoB2, htu⟩
      have hge : ∀ g, B = some ⟨g, 0, none⟩ → w.heap.size < g := fun g e => by
        have := (hoB.geT e).1
        simp at this
        omega
      have hb2w : Below w.heap.size w w2 := H1.out.bel.trans (htu.below H1.out.bel.size (fun x hx e => by have := hge x e; omega))
      have box2 := H1.out.has.1.turn htu (fun e => by have := hge _ e; omega)
      have r1 := box2.cell 1
      have HB := Lib.hid (And.intro hoB2 (And.intro hb2w hge))
      have sz := L0.out.has.2.1
      have HS2 := Lib.hid (HW.out.below (Nat.le_refl _) hb2w)
      clear hoB hbB htu hoB2 hb2w hge box2 sz
      go_wp2_with fail
      refine (SoI.clone_any (some ⟨b, off, none⟩) n c2 Z _ HS2.out hb2).mono ?_
      rintro e w3 ⟨C, k, rfl, hoC, hbC⟩
      clear r1
      go_wp2_with fail
      refine (del_any C n k _ i Z _ hoC hi).mono ?_
      rintro e w4 ⟨rfl, hoC2, htu⟩
      have hgC : ∀ g, C = some ⟨g, 0, none⟩ → w2.heap.size ≤ g := fun g e => (hoC.geT e).1
      have hlB : ∀ g, B = some ⟨g, 0, none⟩ → g < w2.heap.size := fun g e => (HB.out.1.geT e).2
      have hs2 := HB.out.2.1.size
      have hs3 := hbC.size
      have hb4 : Below w.heap.size w w4 := (HB.out.2.1.trans (hbC.mono hs2)).trans (htu.below (by omega) (fun x hx e => by have := hgC x e; omega))
      have hB4 := ((HB.out.1.below (Nat.le_refl _) hbC).turn htu (fun g e1 e2 => by have := hgC g e2; have := hlB g e1; omega)).mono (show w.heap.size ≤ _ by simp)
      have hC4 := hoC2.mono hs2
      have HE := Lib.hid (And.intro hB4 (And.intro hC4 (And.intro hb4 (And.intro hgC hlB))))
      clear hoC hbC hoC2 htu hgC hlB hb4 hB4 hC4
      go_wp2_with fail
      refine bodyPost_ret (v := .tuple #[.slice B (n - 1) d, .slice C (n - 1) k, .int .i64 (sufP Z (i + 1))]) (by simp [results, Try.results83, go_sem]) rfl ?_
      exact ⟨B, d, C, k, rfl, HE.out.1, HE.out.2.1, fun g e1 e2 => by have h1 := HE.out.2.2.2.1 g e2; have h2 := HE.out.2.2.2.2 g e1; omega, HE.out.2.2.1⟩
end Go.Proofs.Ytgmchedfgdgenaa
