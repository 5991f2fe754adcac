/- credencelaw11.SetTexts, walked: it returns true. Condition: the slice reads as a list of texts. -/
import Derived.Test.YtpacnpiiahchiaaRefGS
import Derived.Test.YtpacnpiiahchiaaSet5S
import Derived.Test.YtpacnpiiahchiaaInsS
import Derived.Deep.RegionHeld3
namespace Go.Proofs.Ytpacnpiiahchiaa.SetTexts
open Go.RowKit

theorem isIn_snoc {α : Type} {c : α → α → Int} (x y : α) (l : List α) : isIn c x (l ++ [y]) = (isIn c x l || (c y x == 0)) := by simp [isIn]
theorem isIn_ins {α : Type} {c : α → α → Int} (h : CmpOk c) (x : α) {l : List α} (ha : Asc c l) : isIn c x (ins c x l) = true := by
  rcases hi : isIn c x l
  · exact isIn_iff.2 ⟨x, (mem_ins h ha).2 (.inr ⟨rfl, hi⟩), h.self x⟩
  · rw [ins_in h ha hi]; exact hi
theorem isIn_rem {α : Type} {c : α → α → Int} (x : α) (l : List α) : isIn c x (rem c x l) = false := by
  rcases hi : isIn c x (rem c x l)
  · rfl
  · obtain ⟨y, hy, h0⟩ := isIn_iff.1 hi
    exact absurd h0 (mem_rem.1 hy).2
theorem same_meet {out L : List ByteArray} (h : Chosen cmpS false true false L L out) : SoS.sameB out L = true := by
  unfold SoS.sameB SoS.withinB
  rw [Bool.and_eq_true, List.all_eq_true, List.all_eq_true]
  constructor
  · intro z hz
    rcases (h.mem z).1 hz with h1 | h1
    · exact isIn_iff.2 ⟨z, h1.1, cmpokS.self z⟩
    · cases h1.2.2
  · intro z hz
    have hi : isIn cmpS z L = true := isIn_iff.2 ⟨z, hz, cmpokS.self z⟩
    exact isIn_iff.2 ⟨z, (h.mem z).2 (.inl ⟨hz, by simp [want, hi]⟩), cmpokS.self z⟩
theorem has_b (A : Option Addr) (n c : Nat) (xs : List ByteArray) (x : ByteArray) (b : Bool) (w : World) (hb : isIn cmpS x xs = b) (hx : Sl Value.string w A n xs) (ha : Asc cmpS xs) :
    Calls Try.prog 31 #[.agg #[.slice A n c], .string x] w fun e w' => e = .returned (.bool b) ∧ Below w.heap.size w w' :=
  (SoS.has_any A n c xs x w hx ha).mono fun _ _ h => ⟨by rw [h.1, hb], h.2⟩
theorem eqb_cmp (y x : ByteArray) : (y.toList == x.toList) = (cmpS y x == 0) := by
  rw [Bool.eq_iff_iff]
  simp only [beq_iff_eq, cmpS_zero]

set_option maxRecDepth 100000 in
set_option maxHeartbeats 4000000 in
theorem law (A : Option Addr) (n c : Nat) (xs : List ByteArray) (x : ByteArray) (w : World) (hx : Sl Value.string w A n xs) (_ : x.size ≤ maxLen) :
    Calls Try.prog 7 #[.slice A n c, .string x] w fun e w' => e = .returned (.bool true) ∧ Below w.heap.size w w' := by
  obtain ⟨L, hLd⟩ : ∃ L, L = setOf cmpS xs := ⟨_, rfl⟩
  have hLl : L.length ≤ xs.length := by rw [hLd]; exact setOf_length_le (c := cmpS) xs
  have hasc : Asc cmpS L := by rw [hLd]; exact asc_setOf cmpokS xs
  have hxl := hx.len
  have HL := Lib.hid (And.intro hLd (And.intro hLl (And.intro hasc hxl))); clear hLd hLl hasc hxl
  go_enter Try.func7, Try.ntmps7
  by_cases hn : 300 < n
  · go_wp2_with fail
    go_ret
    exact ⟨rfl, Below.refl _ _⟩
  have hn' : n ≤ 300 := by omega
  clear hn
  go_wp2_with fail
  refine (SoS.rof_any A n c xs _ hx (by omega)).mono ?_
  rintro e w1 ⟨A1, k1, c1, rfl, hp, hb⟩
  rw [← HL.out.1] at hp
  have H1 := (((Held.init w).sl hx).step hb).sl hp
  clear hp hb hx
  go_wp2_with fail
  refine (SoS.of_any A n c xs _ H1.has.2.1 (by omega)).mono ?_
  rintro e w2 ⟨A2, k2, c2, rfl, how, hb⟩
  rw [← HL.out.1] at how
  have hk : k1 = k2 := by rw [← H1.has.1.len, ← how.length]
  subst hk
  have hkn : k1 ≤ 300 := by have := how.length; have := HL.out; omega
  have H2 := ((H1.step hb).sl (how.sl (by omega))).new 42 [.slice A2 k1 c2]
  have hlk := how.length
  clear how hb H1
  go_wp2_with fail
  refine (SoS.list_any A2 k1 c2 L _ H2.has.2.1 (by omega)).mono ?_
  rintro e w3 ⟨A3, c3, rfl, how, hb⟩
  have H3 := (H2.step hb).sl (how.sl (by omega))
  clear how hb H2
  have r1 := H3.has.2.1.cell 0
  generalize w2.heap.size = p6 at *
  go_wp2_with fail
  refine (SoS.len_any A2 k1 c2 _).mono ?_
  rintro e w4 ⟨rfl, hb⟩
  have H4 := H3.step hb
  clear hb H3 r1
  have HK := Lib.hid hlk; clear hlk
  go_wp2_with fail
  go_loopw [8, 9] (fun v i wr => ∃ (k m : Nat), v = .bool (isIn cmpS x (L.take k)) ∧ i = .int .i64 (k : Nat) ∧ k ≤ k1 ∧ wr = w4.drewN m) (fun _ i _ => k1 - (intOf i).toNat)
  case atStart => exact ⟨0, 0, by simp [isIn], rfl, Nat.zero_le _, rfl⟩
  case round =>
    obtain ⟨k, m, rfl, rfl, hkk, hwr⟩ := hrel
    have H5 := H4.drewN m
    rw [← hwr] at H5
    by_cases hlt : k < k1
    · obtain ⟨b3, o3, rfl, _, hc3⟩ := H5.has.1.at' (by omega)
      obtain ⟨b1, o1, rfl, _, hc1⟩ := H5.has.2.2.2.1.at' (by omega)
      have g3 := hc3 k hlt
      have g1 := hc1 k hlt
      have q1 : (0 : Int) ≤ (k : Nat) := by omega
      have q2 : ((k : Nat) : Int) < k1 := by omega
      have hsn : isIn cmpS x (L.take (k + 1)) = (isIn cmpS x (L.take k) || ((nth L k).toList == x.toList)) := by
        rw [take_snoc (by rw [HK.out]; exact hlt), isIn_snoc, eqb_cmp]
      have HS := Lib.hid (And.intro hsn hwr); clear hsn hwr hc3 hc1 H5
      obtain ⟨wa, hwa⟩ : ∃ wa : World, wa = wr := ⟨_, rfl⟩
      subst hwa
      generalize hbb : isIn cmpS x (L.take k) = bb
      have HB := Lib.hid hbb; clear hbb
      generalize hcc : ((nth L k).toList == x.toList) = cc
      have HC := Lib.hid hcc
      rcases bb
      · go_wp2_with fail
        go_quiet (fail)
        go_wp2_with fail
        exact ⟨⟨k + 1, m + nq, by rw [HS.out.1, HB.out, HC.out]; simp, by go_num, by omega, by rw [HS.out.2, World.drewN_drewN]⟩, by simp [intOf]; omega⟩
      · go_wp2_with fail
        go_quiet (fail)
        go_wp2_with fail
        exact ⟨⟨k + 1, m + nq, by rw [HS.out.1, HB.out]; simp, by go_num, by omega, by rw [HS.out.2, World.drewN_drewN]⟩, by simp [intOf]; omega⟩
    · obtain rfl : k = k1 := by omega
      have e1 : isIn cmpS x (L.take k) = isIn cmpS x L := by rw [List.take_of_length_le (by rw [HK.out]; omega)]
      rw [e1]
      clear e1 hwr H4
      generalize hbb : isIn cmpS x L = bb
      have HB := Lib.hid hbb; clear hbb
      have H6 := H5.drew
      have r1 := H6.has.2.1.cell 0
      clear H5
      have HI := Lib.hid (And.intro (isIn_ins cmpokS x HL.out.2.2.1) (And.intro (isIn_rem (c := cmpS) x L) (And.intro (asc_ins cmpokS (x := x) HL.out.2.2.1) (asc_rem (x := x) HL.out.2.2.1))))
      go_wp2_with fail
      go_region_held3 (fun w' => w'.cell? ⟨p6, 0, none⟩ = some (.slice A2 k c2)) (first | assumption | go_keep) (first
        | ((go_at_call 31); (with_reducible refine (has_b A2 k c2 L x bb _ HB.out H6.has.2.2.1 HL.out.2.2.1).mono ?_); (rintro e w7 ⟨rfl, hb7⟩); (have H7 := H6.step hb7); (have r7 := H7.has.2.1.cell 0))
        | ((go_at_call 32); (refine (SoS.with_any A2 k c2 L x _ H7.has.2.2.1 HL.out.2.2.1 (by omega)).mono ?_); (rintro e w8 ⟨A8, k8, c8, rfl, hs8, hb8⟩); (have H8 := (H7.step hb8).sl hs8); (have r8 := H8.has.2.2.1.cell 0))
        | ((go_at_call 31); (with_reducible refine (has_b A8 k8 c8 (ins cmpS x L) x true _ HI.out.1 H8.has.1 HI.out.2.2.1).mono ?_); (rintro e w9 ⟨rfl, hb9⟩); (have H9 := H8.step hb9); (have r9 := H9.has.2.2.1.cell 0))
        | ((go_at_call 33); (refine (SoS.without_any A2 k c2 L x _ H9.has.2.2.2.1 HL.out.2.2.1 (by omega)).mono ?_); (rintro e w10 ⟨A10, k10, c10, rfl, hs10, hb10⟩); (have H10 := (H9.step hb10).sl hs10); (have r10 := H10.has.2.2.2.1.cell 0))
        | ((go_at_call 31); (with_reducible refine (has_b A10 k10 c10 (rem cmpS x L) x false _ HI.out.2.1 H10.has.1 HI.out.2.2.2).mono ?_); (rintro e w11 ⟨rfl, hb11⟩); (have H11 := H10.step hb11); (have r11 := H11.has.2.2.2.1.cell 0))
        | ((go_at_call 34); (refine (SoS.meet_any A2 A2 k k c2 c2 L L _ H11.has.2.2.2.2.1 H11.has.2.2.2.2.1 HL.out.2.2.1 HL.out.2.2.1 (by omega)).mono ?_); (rintro e w12 ⟨A12, k12, c12, out, rfl, hch, hs12, hb12⟩); (have H12 := (H11.step hb12).sl hs12); (have r12 := H12.has.2.2.2.2.1.cell 0))
        | ((go_at_call 35); (refine (SoS.same_any A12 A2 k12 k c12 c2 out L _ H12.has.1 H12.has.2.2.2.2.2.1 hch.asc HL.out.2.2.1 (by have := hch.len; have := H12.has.1.len; have := HK.out; omega)).mono ?_); (rintro e w13 ⟨he, hb13⟩); (rw [same_meet hch] at he); (subst he); (have H13 := H12.step hb13); (have r13 := H13.has.2.2.2.2.1.cell 0)))
      all_goals
        go_wp2_with fail
        go_ret
        exact ⟨rfl, H13.bel⟩
end Go.Proofs.Ytpacnpiiahchiaa.SetTexts
