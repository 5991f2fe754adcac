/- credencelaw16.SepMoral, walked: it returns true. Conditions: the lists read, within Go's bound together. -/
import Derived.Test.YtdlnglffimcopaaMorAll
import Derived.Test.YtdlnglffimcopaaSepEven
namespace Go.Proofs.Ytdlnglffimcopaa
open Go.RowKit

theorem Fld.free {J : Nat → Nat → Prop} {n : Nat} {Z : List Int} {fr : List Nat} {q : Nat} (h : Fld J n Z fr q) : zB Z q = false := by cases h <;> assumption
namespace SepMoral
open Classical in
/-- none of the first i is come to -/
noncomputable def noF (F : Nat → Prop) (b : List Nat) (i : Nat) : Bool := decide (∀ s, s < i → ¬ F (nth b s))
open Classical in
theorem noF_iff {F : Nat → Prop} {b : List Nat} {i : Nat} : noF F b i = true ↔ ∀ s, s < i → ¬ F (nth b s) := by unfold noF; exact decide_eq_true_iff
theorem noF_zero (F : Nat → Prop) (b : List Nat) : noF F b 0 = true := noF_iff.2 fun s hs => by omega
theorem noF_skip {F : Nat → Prop} {b : List Nat} {i : Nat} (h : ¬ F (nth b i)) : noF F b (i + 1) = noF F b i := by
  rw [Bool.eq_iff_iff, noF_iff, noF_iff]
  constructor
  · exact fun h s hs => h s (by omega)
  · intro k s hs
    rcases Nat.lt_or_ge s i with h1 | h1
    · exact k s h1
    · obtain rfl : s = i := by omega
      exact h
theorem noF_hit {F : Nat → Prop} {b : List Nat} {i : Nat} (h : F (nth b i)) : noF F b (i + 1) = false := by
  cases hb : noF F b (i + 1)
  · rfl
  · exact absurd h (noF_iff.1 hb i (by omega))
theorem noF_all {Ps : List (List Int)} {a b given : List Int} (hc : checkP Ps = 0) (ha : InN Ps.length a) (hb : InN Ps.length b) (hg : InN Ps.length given) :
    noF (Fld (EdgeI (toG Ps) (mAb Ps a b given) (mAb Ps a b given).length) Ps.length given (a.map Int.toNat)) (b.map Int.toNat) b.length = apartB Ps a b given := by
  rw [Bool.eq_iff_iff, noF_iff, moral_want hc ha hb hg]
  constructor
  · intro h y hy
    obtain ⟨s, hs, rfl⟩ := mem_nth hy
    have := h s hs
    rwa [nth_map _ hs] at this
  · intro h s hs
    rw [nth_map _ hs]
    exact h _ (nth_mem hs)
theorem above_0 {Ps : List (List Int)} {l : List Int} (hm : Mend Ps) (hl : InN Ps.length l) : aboveE Ps l = 0 := by
  have hc := mend_check hm
  unfold aboveE
  rw [if_neg (by rw [hc]; simp), if_pos hl.row]

set_option maxRecDepth 100000 in
set_option maxHeartbeats 1600000 in
theorem law (A B0 C0 D0 : Option Addr) (n0 c0 ma da mb db mg dg : Nat) (Ps : List (List Int)) (x y z : List Int) (w : World) (h : Rows (Value.int .i64) w A n0 Ps) (hx : Sl (Value.int .i64) w B0 ma x) (hy : Sl (Value.int .i64) w C0 mb y) (hz : Sl (Value.int .i64) w D0 mg z) (hma : ma ≤ 1048576) (hmb : mb ≤ 1048576) (hmg : mg ≤ 1048576) :
    Calls Try.prog 12 #[.slice A n0 c0, .slice B0 ma da, .slice C0 mb db, .slice D0 mg dg] w fun e w' => e = .returned (.bool true) ∧ Below w.heap.size w w' := by
  have H0 := ((((Held.init w).and (Q := fun w => Rows (Value.int .i64) w A n0 Ps) h).sl hx).sl hy).sl hz
  obtain ⟨wa, hwa⟩ : ∃ wa : World, wa = w := ⟨_, rfl⟩
  subst hwa
  clear h hx hy hz
  go_enter Try.func12, Try.ntmps12
  go_wp2_with fail
  refine (alive_any _).mono ?_
  rintro e w1 ⟨rfl, hb⟩
  have H1 := H0.step hb
  clear H0 hb
  go_wp2_with fail
  refine (mended_any A n0 c0 Ps _ H1.has.2.2.2.1).mono ?_
  rintro e w2 ⟨B, n, d, Ms, vs, rfl, hn, hM, hmd, hb⟩
  have hM' := Lib.hid (And.intro hM (And.intro hmd hn))
  have hs1 := H1.bel.size
  have hs2 := hb.size
  have hn30 : n ≤ 30 := by omega
  have H2 := H1.step hb
  clear H1 hb hM hmd hn
  go_wp2_with fail
  refine (points_any B0 ma da n x _ H2.has.2.2.1 (by omega) (by omega)).mono ?_
  rintro e w3 ⟨X, dx, a, rfl, hX, hia, hb⟩
  have hM3 := Lib.hid (And.intro (hM'.out.1.below hb) (And.intro hX hia))
  have hs3 := hb.size
  have H3 := H2.step hb
  clear H2 hb hX hia
  generalize hmx : (if 0 < n then ma else 0) = mx at *
  have hmxb : mx ≤ 1048576 := by rw [← hmx]; split <;> omega
  clear hmx
  go_wp2_with fail
  refine (points_any C0 mb db n y _ H3.has.2.1 (by omega) (by omega)).mono ?_
  rintro e w4 ⟨Y, dy, b, rfl, hY, hib, hb⟩
  have hM4 := Lib.hid (And.intro (hM3.out.1.below hb) (And.intro (hM3.out.2.1.below (Nat.le_refl _) hb) (And.intro hY hib)))
  have hs4 := hb.size
  have H4 := H3.step hb
  clear H3 hb hY hib
  generalize hmy : (if 0 < n then mb else 0) = my at *
  have hmyb : my ≤ 1048576 := by rw [← hmy]; split <;> omega
  clear hmy
  go_wp2_with fail
  refine (points_any D0 mg dg n z _ H4.has.1 (by omega) (by omega)).mono ?_
  rintro e w5 ⟨U, dz, g, rfl, hU, hig, hb⟩
  generalize hmz : (if 0 < n then mg else 0) = mz at *
  have hmzb : mz ≤ 1048576 := by rw [← hmz]; split <;> omega
  clear hmz
  have hA : Asked wa wa.heap.size B X Y U n d mx dx my dy mz dz Ms vs a b g w5 :=
    ⟨⟨(hM4.out.1.below hb).out.mono (by omega), fun i hi => ((hM4.out.1.below hb).row i hi).mono (by omega), (hM4.out.1.below hb).len⟩, (hM4.out.2.1.below (Nat.le_refl _) hb).mono (by omega), (hM4.out.2.2.1.below (Nat.le_refl _) hb).mono (by omega), hU.mono (by omega), hM'.out.2.1, hM3.out.2.2, hM4.out.2.2.2, hig, hn30, hmxb, hmyb, hmzb, (H4.step hb).bel⟩
  have hs5 : wa.heap.size ≤ w5.heap.size := hA.bel.size
  have HA := Lib.hid hA
  clear hA hU hig hb hM' hM3 hM4 H4 hs1 hs2 hs3 hs4
  have hr := HA.out.rows
  have hsx := HA.out.sx
  have hsy := HA.out.sy
  have hsz := HA.out.sz
  go_wp2_with fail
  refine (apart_any B X Y U n d mx dx my dy mz dz Ms a b g _ hr hsx hsy hsz HA.out.x.cap HA.out.y.cap (by omega) (by omega) (by omega) (by omega)).mono ?_
  rintro e w6 ⟨rfl, hb⟩
  have hA := HA.out.step hs5 hb
  have hs6 := hA.bel.size
  rw [hA.look (hA.ia.app hA.ib)]
  obtain ⟨one, hone⟩ : ∃ one, one = apartB Ms a b g := ⟨_, rfl⟩
  rw [← hone]
  have HONE := Lib.hid hone
  have HA := Lib.hid hA
  clear hA hb hr hsx hsy hsz hs5 hone
  have hsx := HA.out.sx
  have HA6 := Lib.hid HA.out
  have hemp : OwnR (Value.int .i64) w6 w6.heap.size 3 none 0 0 ([] : List Int) := OwnR.nil _ _ _ _
  go_wp2_with (first
    | (at_builtin; (with_reducible refine wpList_app _ eiInt (Value.int .i64) (fun _ => rfl) rfl _ _ rfl w6.heap.size _ _ _ _ rfl hemp _ _ _ _ rfl hsx (by omega) (Nat.le_refl _) ?_))
    | fail)
  intro A7 c7 w7 ho7 _ hb7 _
  try simp only [Nat.zero_add, List.nil_append] at ho7
  try simp only [Nat.zero_add]
  have HB := Lib.hid hb7
  have hz7 := hb7.size
  have hA := HA6.out.step hs6 hb7
  have hsy := hA.sy
  clear hb7 hsx hemp hA HA
  go_wp2_with (first
    | (at_builtin; (with_reducible refine wpList_app _ eiInt (Value.int .i64) (fun _ => rfl) rfl _ _ rfl w6.heap.size _ _ _ _ rfl ho7 _ _ _ _ rfl hsy (by omega) hz7 ?_))
    | fail)
  intro A8 c8 w8 ho8 _ hb8 _
  have hb8 := HB.out.trans hb8
  have HB := Lib.hid hb8
  have hz8 := hb8.size
  have hA := HA6.out.step hs6 hb8
  have hsz := hA.sz
  clear hb8 hsy ho7 hz7 hA
  go_wp2_with (first
    | (at_builtin; (with_reducible refine wpList_app _ eiInt (Value.int .i64) (fun _ => rfl) rfl _ _ rfl w6.heap.size _ _ _ _ rfl ho8 _ _ _ _ rfl hsz (by omega) hz8 ?_))
    | fail)
  intro A9 c9 w9 ho9 _ hb9 _
  have hb9 := HB.out.trans hb9
  have hA := HA6.out.step hs6 hb9
  have hs9 := hA.bel.size
  have hr := hA.rows
  have hln := hA.len
  have hnm := ho9.sl (by omega)
  try rw [← List.append_assoc] at hnm
  have ho := above_0 hA.mend (l := a ++ b ++ g) (by rw [hln]; exact (hA.ia.app hA.ib).app hA.ig)
  have HA := Lib.hid (And.intro hA (And.intro hln ho))
  clear hb9 hsz ho8 hz8 hA HB HA6 ho9 hln ho
  go_wp2_with fail
  refine (above_any B A9 n d _ c9 Ms (a ++ b ++ g) _ hr hnm (by omega)).mono ?_
  rintro e w10 ⟨hb, C, q, dq, rfl, hT, _⟩
  have hT := hT HA.out.2.2
  rw [HA.out.2.2]
  have hA := HA.out.1.step hs9 hb
  have hs10 := hA.bel.size
  have hck := mend_check hA.mend
  have hln := HA.out.2.1
  have hrn := hA.rows.toNat (checkP_ok hck).1
  have hgood := good_toG (checkP_ok hck).1
  have hab : ∀ x, x ∈ mAb Ms a b g → x < n := fun x hx => by have := mem_upList_lt hx; rw [toG_length, hln] at this; exact this
  have hT : Sl eN w10 C q (mAb Ms a b g) := hT
  have HT := Lib.hid (And.intro hrn (And.intro hgood (And.intro hT hab)))
  have HA := Lib.hid (And.intro hA (And.intro hln hck))
  clear hb hA hnm hr hrn hgood hab hT hln hck hs9
  go_wp2_with fail
  refine (moral_any B C n d q dq (toG Ms) (mAb Ms a b g) _ HT.out.1 HT.out.2.1 HT.out.2.2.1 HT.out.2.2.2 (by omega)).mono ?_
  rintro e w11 ⟨ws, rfl, hM, hb⟩
  have hA := HA.out.1.step hs10 hb
  have hs11 := hA.bel.size
  have hsx := hA.sx.toNat (fun p hp => (hA.ia p hp).1)
  have hsz := hA.sz
  have hfr : ∀ x, x ∈ a.map Int.toNat → x < n := fun x hx => by
    obtain ⟨y, hy, rfl⟩ := List.mem_map.1 hx
    have := hA.ia y hy
    omega
  have HA := Lib.hid (And.intro hA HA.out.2)
  have HF := Lib.hid (And.intro hM (And.intro hsx (And.intro hsz hfr)))
  clear hb hA hM hsx hsz hfr HT
  go_wp2_with fail
  refine (fld_any w10.heap.size n ws _ X U mx dx mz dz (a.map Int.toNat) g _ HF.out.1 HF.out.2.1 HF.out.2.2.1 HF.out.2.2.2 (by omega)).mono ?_
  rintro e w12 ⟨rfl, hrow, hb⟩
  have hA := HA.out.1.step hs11 hb
  have hyl := hA.y.length
  have hall := noF_all HA.out.2.2 (by rw [HA.out.2.1]; exact hA.ia) (by rw [HA.out.2.1]; exact hA.ib) (by rw [HA.out.2.1]; exact hA.ig)
  rw [HA.out.2.1, hyl, ← HONE.out] at hall
  have hfree : ∀ q, Fld (EdgeI (toG Ms) (mAb Ms a b g) (mAb Ms a b g).length) n g (a.map Int.toNat) q → zB g q = false := fun q h => h.free
  generalize Fld (EdgeI (toG Ms) (mAb Ms a b g) (mAb Ms a b g).length) n g (a.map Int.toNat) = F at *
  generalize hbq : w11.heap.size = bq at *
  have HA := Lib.hid (And.intro hA (And.intro hrow (And.intro hall (And.intro hfree hyl))))
  clear hb hA hrow hall hfree hbq HF HONE hyl
  go_wp2_with fail
  go_loopw [21, 22] (fun v i wr => ∃ t : Nat, i = .int .i64 (t : Nat) ∧ v = .bool (noF F (b.map Int.toNat) t) ∧ t ≤ my ∧ Asked wa wa.heap.size B X Y U n d mx dx my dy mz dz Ms vs a b g wr ∧ RowAt eB wr bq 4 (rowJ n F) []) (fun _ i _ => my - (intOf i).toNat)
  case atStart => exact ⟨0, rfl, by rw [noF_zero], Nat.zero_le _, HA.out.1, HA.out.2.1⟩
  case round => as_aux_lemma =>
    obtain ⟨t, rfl, rfl, ht, hA, hrow⟩ := hrel
    obtain ⟨wc, hwc⟩ : ∃ wc : World, wc = wr := ⟨_, rfl⟩
    subst hwc
    by_cases hlt : t < my
    · have hi1 : (t : Int) < (my : Nat) := by omega
      have hbs := hA.sy.toNat (fun p hp => (hA.ib p hp).1)
      have htl : t < (b.map Int.toNat).length := by rw [hbs.len]; exact hlt
      have hqn : nth (b.map Int.toNat) t < n := by
        obtain ⟨y, hy, e⟩ := List.mem_map.1 (nth_mem htl)
        have := hA.ib y hy
        omega
      obtain ⟨by', oy, hYe, _, hcy⟩ := hbs.at' (by omega)
      have gy := hcy t hlt
      have hgr := hrow.cell (j := nth (b.map Int.toNat) t) (by rw [rowJ_length]; exact hqn)
      have hsk := noF_skip (F := F) (b := b.map Int.toNat) (i := t)
      have hht := noF_hit (F := F) (b := b.map Int.toNat) (i := t)
      have hsz := hA.sz
      obtain ⟨qq, hqq⟩ : ∃ qq, qq = nth (b.map Int.toNat) t := ⟨_, rfl⟩
      rw [← hqq] at gy hgr hsk hht hqn
      obtain ⟨zb, hzb⟩ : ∃ zb, zb = zB g qq := ⟨_, rfl⟩
      obtain ⟨fb, hfb⟩ : ∃ fb, fb = nth (rowJ n F) qq := ⟨_, rfl⟩
      rw [← hfb] at hgr
      have hqi : (qq : Int) < (n : Nat) := by omega
      have hbl := hrow.lt
      subst hYe
      generalize hnb : noF F (b.map Int.toNat) t = nb at *
      have HX := Lib.hid (And.intro hA (And.intro hrow (And.intro hsz (And.intro hzb (And.intro hfb (And.intro hsk hht))))))
      clear hA hrow hsz hzb hfb hsk hht hqq hnb hbs htl hcy
      cases zb with
      | true =>
        have HN := Lib.hid (HX.out.2.2.2.2.2.1 (fun h => by have := HA.out.2.2.2.1 _ h; rw [← HX.out.2.2.2.1] at this; cases this))
        go_wp2_with fail
        refine (has_zb true _ _ _ _ _ HX.out.2.2.1 HX.out.2.2.2.1.symm).mono ?_
        rintro e w9 ⟨rfl, rfl⟩
        go_wp2_with fail
        exact ⟨⟨t + 1, by go_num, by rw [HN.out], by omega, HX.out.1, HX.out.2.1⟩, by simp [intOf]; omega⟩
      | false =>
        cases fb with
        | true =>
          have HN := Lib.hid (HX.out.2.2.2.2.2.2 ((rowJ_true hqn).1 HX.out.2.2.2.2.1.symm))
          go_wp2_with fail
          refine (has_zb false _ _ _ _ _ HX.out.2.2.1 HX.out.2.2.2.1.symm).mono ?_
          rintro e w9 ⟨rfl, rfl⟩
          go_wp2_with fail
          exact ⟨⟨t + 1, by go_num, by rw [HN.out], by omega, HX.out.1, HX.out.2.1⟩, by simp [intOf]; omega⟩
        | false =>
          have HN := Lib.hid (HX.out.2.2.2.2.2.1 (fun h => by have := (rowJ_true hqn).2 h; rw [← HX.out.2.2.2.2.1] at this; cases this))
          go_wp2_with fail
          refine (has_zb false _ _ _ _ _ HX.out.2.2.1 HX.out.2.2.2.1.symm).mono ?_
          rintro e w9 ⟨rfl, rfl⟩
          go_wp2_with fail
          exact ⟨⟨t + 1, by go_num, by rw [HN.out], by omega, HX.out.1, HX.out.2.1⟩, by simp [intOf]; omega⟩
    · obtain rfl : my = t := by omega
      rw [HA.out.2.2.1]
      have HF := Lib.hid hA.bel
      clear hA hrow
      go_wp2_with fail
      go_ret
      exact ⟨by simp, HF.out⟩
theorem lawB (A : Option Addr) (n0 c0 : Nat) (Ps : List (List Int)) (B0 : Option Addr) (ma da : Nat) (x : List Int) (C0 : Option Addr) (mb db : Nat) (y : List Int) (D0 : Option Addr) (mg dg : Nat) (z : List Int) (w : World) (h : Rows (Value.int .i64) w A n0 Ps) (_ : n0 ≤ c0) (_ : n0 * 24 ≤ 140737488351232) (_ : (∀ i, i < n0 → (nth Ps i).length * 8 ≤ 140737488351232) ∧ ∀ l ∈ Ps, ∀ x ∈ l, (Lit.int .i64 x).wf = true)
    (hx : Sl (Value.int .i64) w B0 ma x) (_ : ∀ a ∈ x, (Lit.int .i64 a).wf = true) (hy : Sl (Value.int .i64) w C0 mb y) (_ : ∀ a ∈ y, (Lit.int .i64 a).wf = true) (hz : Sl (Value.int .i64) w D0 mg z) (_ : ∀ a ∈ z, (Lit.int .i64 a).wf = true) (_ : n0 ≤ 1048576) (hma : ma ≤ 1048576) (hmb : mb ≤ 1048576) (hmg : mg ≤ 1048576) :
    Calls Try.prog 12 #[.slice A n0 c0, .slice B0 ma da, .slice C0 mb db, .slice D0 mg dg] w fun e w' => e = .returned (.bool true) ∧ Below w.heap.size w w' := law A B0 C0 D0 n0 c0 ma da mb db mg dg Ps x y z w h hx hy hz hma hmb hmg
end SepMoral
end Go.Proofs.Ytdlnglffimcopaa
