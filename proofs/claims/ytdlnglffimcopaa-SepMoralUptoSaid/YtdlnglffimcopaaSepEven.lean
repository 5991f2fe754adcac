/- credencelaw16.SepEven, walked: it returns true. Conditions: the lists read, within Go's bound together. -/
import Derived.Test.YtdlnglffimcopaaEvenLaw
import Derived.Test.YtdlnglffimcopaaAlive
import Derived.Test.YtdlnglffimcopaaSub
import Derived.Deep.RegionHeld3
namespace Go.Proofs.Ytdlnglffimcopaa
open Go.RowKit

/-- the points asked of, and parents that may be -/
structure Asked (w0 : World) (base : Nat) (B X Y U : Option Addr) (n d mx dx my dy mz dz : Nat) (Ms : List (List Int)) (vs : List (Option Addr × Nat × Nat)) (a b g : List Int) (w : World) : Prop where
  ms : Mats w base B n d Ms vs
  x : OwnR (Value.int .i64) w base 3 X mx dx a
  y : OwnR (Value.int .i64) w base 3 Y my dy b
  z : OwnR (Value.int .i64) w base 3 U mz dz g
  mend : Mend Ms
  ia : InN n a
  ib : InN n b
  ig : InN n g
  n30 : n ≤ 30
  bx : mx ≤ 1048576
  bY : my ≤ 1048576
  bz : mz ≤ 1048576
  bel : Below base w0 w
section
variable {w0 w w' : World} {base : Nat} {B X Y U : Option Addr} {n d mx dx my dy mz dz : Nat} {Ms : List (List Int)} {vs : List (Option Addr × Nat × Nat)} {a b g : List Int}
theorem Asked.step (h : Asked w0 base B X Y U n d mx dx my dy mz dz Ms vs a b g w) (hB : base ≤ w.heap.size) (hb : Below w.heap.size w w') : Asked w0 base B X Y U n d mx dx my dy mz dz Ms vs a b g w' :=
  ⟨h.ms.below hb, h.x.below (Nat.le_refl _) hb, h.y.below (Nat.le_refl _) hb, h.z.below (Nat.le_refl _) hb, h.mend, h.ia, h.ib, h.ig, h.n30, h.bx, h.bY, h.bz, h.bel.trans (hb.mono hB)⟩
theorem Asked.rows (h : Asked w0 base B X Y U n d mx dx my dy mz dz Ms vs a b g w) : Rows (Value.int .i64) w B n Ms := h.ms.rows (by have := h.n30; omega) (fun i hi => by have := (h.mend i (by rw [h.ms.len]; exact hi)).2.2; omega)
theorem Asked.sx (h : Asked w0 base B X Y U n d mx dx my dy mz dz Ms vs a b g w) : Sl (Value.int .i64) w X mx a := h.x.sl (by have := h.bx; omega)
theorem Asked.sy (h : Asked w0 base B X Y U n d mx dx my dy mz dz Ms vs a b g w) : Sl (Value.int .i64) w Y my b := h.y.sl (by have := h.bY; omega)
theorem Asked.sz (h : Asked w0 base B X Y U n d mx dx my dy mz dz Ms vs a b g w) : Sl (Value.int .i64) w U mz g := h.z.sl (by have := h.bz; omega)
theorem Asked.len (h : Asked w0 base B X Y U n d mx dx my dy mz dz Ms vs a b g w) : Ms.length = n := h.ms.len
theorem Asked.look (h : Asked w0 base B X Y U n d mx dx my dy mz dz Ms vs a b g w) {named : List Int} (hn : InN n named) : lookE Ms g named = 0 := mend_look h.mend (by rw [h.len]; exact h.ig) (by rw [h.len]; exact hn)
end
namespace SepEven
/-- point by point, of the first i points of a all, of the next one the first k of b -/
def upTo (Ms : List (List Int)) (g a b : List Int) (i k : Nat) : Prop := (∀ p, p < i → ∀ q, q < b.length → q < 6 → nth b q ∉ toldC Ms [nth a p] g) ∧ ∀ q, q < k → nth b q ∉ toldC Ms [nth a i] g
open Classical in
noncomputable def upB (Ms : List (List Int)) (g a b : List Int) (i k : Nat) : Bool := decide (upTo Ms g a b i k)
open Classical in
theorem upB_iff {Ms : List (List Int)} {g a b : List Int} {i k : Nat} : upB Ms g a b i k = true ↔ upTo Ms g a b i k := by unfold upB; exact decide_eq_true_iff
theorem upB_zero (Ms : List (List Int)) (g a b : List Int) : upB Ms g a b 0 0 = true := upB_iff.2 ⟨fun p hp => by omega, fun q hq => by omega⟩
theorem upB_next (Ms : List (List Int)) (g a b : List Int) (i k : Nat) : upB Ms g a b i (k + 1) = (upB Ms g a b i k && !decide (nth b k ∈ toldC Ms [nth a i] g)) := by
  rw [Bool.eq_iff_iff, Bool.and_eq_true, upB_iff, upB_iff, Bool.not_eq_true', decide_eq_false_iff_not]
  constructor
  · rintro ⟨h1, h2⟩; exact ⟨⟨h1, fun q hq => h2 q (by omega)⟩, h2 k (by omega)⟩
  · rintro ⟨⟨h1, h2⟩, h3⟩
    refine ⟨h1, fun q hq => ?_⟩
    rcases Nat.lt_or_ge q k with h | h
    · exact h2 q h
    · obtain rfl : q = k := by omega
      exact h3
theorem upB_row (Ms : List (List Int)) (g a b : List Int) (i : Nat) {k : Nat} (hk : k = min b.length 6) : upB Ms g a b i k = upB Ms g a b (i + 1) 0 := by
  rw [Bool.eq_iff_iff, upB_iff, upB_iff]
  constructor
  · rintro ⟨h1, h2⟩
    refine ⟨fun p hp q hq hq6 => ?_, fun q hq => by omega⟩
    rcases Nat.lt_or_ge p i with h | h
    · exact h1 p h q hq hq6
    · obtain rfl : p = i := by omega
      exact h2 q (by omega)
  · rintro ⟨h1, h2⟩
    exact ⟨fun p hp => h1 p (by omega), fun q hq => h1 i (by omega) q (by omega) (by omega)⟩
theorem upB_all {Ms : List (List Int)} {g a b : List Int} (_ : a.length ≤ 6) (hb : b.length ≤ 6) (hl : lookE Ms g (a ++ b) = 0) : upB Ms g a b a.length 0 = apartB Ms a b g := by
  rw [apart_all hl, Bool.eq_iff_iff, upB_iff, decide_eq_true_iff]
  constructor
  · rintro ⟨h1, _⟩ x hx y hy
    obtain ⟨p, hp, rfl⟩ := mem_nth hx
    obtain ⟨q, hq, rfl⟩ := mem_nth hy
    exact h1 p hp q hq (by omega)
  · intro h
    exact ⟨fun p hp q hq _ => h _ (nth_mem hp) _ (nth_mem hq), fun q hq => by omega⟩

set_option maxRecDepth 100000 in
set_option maxHeartbeats 1600000 in
theorem law (A B0 C0 D0 : Option Addr) (n0 c0 ma da mb db mg dg : Nat) (Ps : List (List Int)) (x y z : List Int) (w : World) (h : Rows (Value.int .i64) w A n0 Ps) (hx : Sl (Value.int .i64) w B0 ma x) (hy : Sl (Value.int .i64) w C0 mb y) (hz : Sl (Value.int .i64) w D0 mg z) (hma : ma ≤ 1048576) (hmb : mb ≤ 1048576) (hmg : mg ≤ 1048576) :
    Calls Try.prog 13 #[.slice A n0 c0, .slice B0 ma da, .slice C0 mb db, .slice D0 mg dg] w fun e w' => e = .returned (.bool true) ∧ Below w.heap.size w w' := by
  have H0 := ((((Held.init w).and (Q := fun w => Rows (Value.int .i64) w A n0 Ps) h).sl hx).sl hy).sl hz
  obtain ⟨wa, hwa⟩ : ∃ wa : World, wa = w := ⟨_, rfl⟩
  subst hwa
  clear h hx hy hz
  go_enter Try.func13, Try.ntmps13
  go_wp2_with fail
  refine (alive_any _).mono ?_
  rintro e w1 ⟨rfl, hb⟩
  have H1 := H0.step hb
  clear H0 hb
  go_wp2_with fail
  refine (mended_any A n0 c0 Ps _ H1.has.2.2.2.1).mono ?_
  rintro e w2 ⟨B, n, d, Ms, vs, rfl, hn, hM, hmd, hb⟩
  have hM' := Lib.hid (And.intro hM (And.intro hmd hn))
  have hs1 := H1.bel.size
  have hs2 := hb.size
  have hn30 : n ≤ 30 := by omega
  have H2 := H1.step hb
  clear H1 hb hM hmd hn
  go_wp2_with fail
  refine (points_any B0 ma da n x _ H2.has.2.2.1 (by omega) (by omega)).mono ?_
  rintro e w3 ⟨X, dx, a, rfl, hX, hia, hb⟩
  have hM3 := Lib.hid (And.intro (hM'.out.1.below hb) (And.intro hX hia))
  have hs3 := hb.size
  have H3 := H2.step hb
  clear H2 hb hX hia
  generalize hmx : (if 0 < n then ma else 0) = mx at *
  have hmxb : mx ≤ 1048576 := by rw [← hmx]; split <;> omega
  clear hmx
  go_wp2_with fail
  refine (points_any C0 mb db n y _ H3.has.2.1 (by omega) (by omega)).mono ?_
  rintro e w4 ⟨Y, dy, b, rfl, hY, hib, hb⟩
  have hM4 := Lib.hid (And.intro (hM3.out.1.below hb) (And.intro (hM3.out.2.1.below (Nat.le_refl _) hb) (And.intro hY hib)))
  have hs4 := hb.size
  have H4 := H3.step hb
  clear H3 hb hY hib
  generalize hmy : (if 0 < n then mb else 0) = my at *
  have hmyb : my ≤ 1048576 := by rw [← hmy]; split <;> omega
  clear hmy
  go_wp2_with fail
  refine (points_any D0 mg dg n z _ H4.has.1 (by omega) (by omega)).mono ?_
  rintro e w5 ⟨U, dz, g, rfl, hU, hig, hb⟩
  generalize hmz : (if 0 < n then mg else 0) = mz at *
  have hmzb : mz ≤ 1048576 := by rw [← hmz]; split <;> omega
  clear hmz
  have hA : Asked wa wa.heap.size B X Y U n d mx dx my dy mz dz Ms vs a b g w5 :=
    ⟨⟨(hM4.out.1.below hb).out.mono (by omega), fun i hi => ((hM4.out.1.below hb).row i hi).mono (by omega), (hM4.out.1.below hb).len⟩, (hM4.out.2.1.below (Nat.le_refl _) hb).mono (by omega), (hM4.out.2.2.1.below (Nat.le_refl _) hb).mono (by omega), hU.mono (by omega), hM'.out.2.1, hM3.out.2.2, hM4.out.2.2.2, hig, hn30, hmxb, hmyb, hmzb, (H4.step hb).bel⟩
  have hs5 : wa.heap.size ≤ w5.heap.size := hA.bel.size
  have HA := Lib.hid hA
  clear hA hU hig hb hM' hM3 hM4 H4 hs1 hs2 hs3 hs4
  have hr := HA.out.rows
  have hsx := HA.out.sx
  have hsy := HA.out.sy
  have hsz := HA.out.sz
  go_wp2_with fail
  refine (apart_any B X Y U n d mx dx my dy mz dz Ms a b g _ hr hsx hsy hsz HA.out.x.cap HA.out.y.cap (by omega) (by omega) (by omega) (by omega)).mono ?_
  rintro e w6 ⟨rfl, hb⟩
  have hA := HA.out.step hs5 hb
  have hs6 := hA.bel.size
  rw [hA.look (hA.ia.app hA.ib)]
  have HA := Lib.hid hA
  clear hA hb hr hsx hsy hsz hs5
  have hr := HA.out.rows
  have hsx := HA.out.sx
  have hsy := HA.out.sy
  have hsz := HA.out.sz
  go_wp2_with fail
  refine (apart_any B Y X U n d my dy mx dx mz dz Ms b a g _ hr hsy hsx hsz HA.out.y.cap HA.out.x.cap (by omega) (by omega) (by omega) (by omega)).mono ?_
  rintro e w7 ⟨rfl, hb⟩
  have hA := HA.out.step hs6 hb
  have hs7 := hA.bel.size
  rw [hA.look (hA.ib.app hA.ia), ← apart_even (mend_check hA.mend) (by rw [hA.len]; exact hA.ia) (by rw [hA.len]; exact hA.ib) (by rw [hA.len]; exact hA.ig)]
  have hxl := hA.x.length
  have hyl := hA.y.length
  have HA := Lib.hid hA
  have HXL := Lib.hid (And.intro hxl hyl)
  obtain ⟨one, hone⟩ : ∃ one, one = apartB Ms a b g := ⟨_, rfl⟩
  rw [← hone]
  have HONE := Lib.hid hone
  clear hA hb hr hsx hsy hsz hs6 hxl hyl hone
  go_wp2_with fail
  go_loopw [19, 20] (fun v i wr => ∃ k : Nat, i = .int .i64 (k : Nat) ∧ v = .bool (upB Ms g a b k 0) ∧ k ≤ mx ∧ k ≤ 6 ∧ Asked wa wa.heap.size B X Y U n d mx dx my dy mz dz Ms vs a b g wr) (fun _ i _ => mx - (intOf i).toNat)
  case atStart => exact ⟨0, rfl, by rw [upB_zero], Nat.zero_le _, by omega, HA.out⟩
  case round =>
    obtain ⟨k, rfl, rfl, hk, hk6, hA⟩ := hrel
    obtain ⟨wb, hwb⟩ : ∃ wb : World, wb = wr := ⟨_, rfl⟩
    subst hwb
    have hsb := hA.bel.size
    by_cases hgo : k < mx ∧ k < 6
    · obtain ⟨hg1, hg2⟩ := hgo
      have hi1 : ((k : Nat) : Int) < (mx : Nat) := by omega
      have hi2 : ((k : Nat) : Int) < 6 := by omega
      obtain ⟨bx, ox, hXe, _, _⟩ := hA.sx.at' (by omega)
      have hsub := (show Sl (Value.int .i64) wb (some ⟨bx, ox, none⟩) mx a from by rw [← hXe]; exact hA.sx).sub1 hg1
      have hkl : k < a.length := by rw [HXL.out.1]; exact hg1
      have hcx := hA.x.cap
      have hin1 := hA.ia _ (nth_mem hkl)
      have hr := hA.rows
      have hsz := hA.sz
      have hbz := hA.bz
      have hn30' := hA.n30
      have HA2 := Lib.hid hA
      generalize hax : nth a k = ax at *
      have HAX := Lib.hid hax
      clear hA hax
      subst hXe
      generalize hu0 : upB Ms g a b k 0 = u0 at *
      have HU := Lib.hid hu0
      clear hu0
      go_wp2_with fail
      refine (tells_any B _ U n d 1 (dx - k) mz dz Ms [ax] g _ hr hsub hsz (by omega) (by omega)).mono ?_
      rintro e w8 ⟨hb8, C, q, dq, rfl, _, hT⟩
      have hax1 : InN n [ax] := fun z hz => by rw [List.mem_singleton] at hz; subst hz; exact hin1
      have hl1 := HA2.out.look hax1
      rw [hl1]
      have hTs := (hT hl1).sl (by
        have h1 := (hT hl1).length
        have h2 := toldC_length Ms [ax] g
        unfold toldC at h2
        have h3 := HA2.out.len
        omega)
      have hA8 := HA2.out.step hsb hb8
      have HA8 := Lib.hid (And.intro hA8 (And.intro (show Sl (Value.int .i64) w8 C q (toldC Ms [ax] g) from hTs) hax1))
      clear hT hTs hA8 hb8 hr hsz hsub hax1 hl1
      go_wp2_with fail
      go_loopw [19, 23] (fun v j wr => ∃ t : Nat, j = .int .i64 (t : Nat) ∧ v = .bool (upB Ms g a b k t) ∧ t ≤ my ∧ t ≤ 6 ∧ Asked wa wa.heap.size B (some ⟨bx, ox, none⟩) Y U n d mx dx my dy mz dz Ms vs a b g wr ∧ Sl (Value.int .i64) wr C q (toldC Ms [ax] g)) (fun _ j _ => my - (intOf j).toNat)
      case atStart => exact ⟨0, rfl, by rw [HU.out], Nat.zero_le _, by omega, HA8.out.1, HA8.out.2.1⟩
      case round => as_aux_lemma =>
        obtain ⟨t, rfl, rfl, ht, ht6, hA, hC⟩ := hrel
        obtain ⟨wc, hwc⟩ : ∃ wc : World, wc = wr := ⟨_, rfl⟩
        subst hwc
        have hsc := hA.bel.size
        by_cases hgt : t < my ∧ t < 6
        · obtain ⟨hg3, hg4⟩ := hgt
          have hi3 : ((t : Nat) : Int) < (my : Nat) := by omega
          have hi4 : ((t : Nat) : Int) < 6 := by omega
          obtain ⟨by', oy, hYe, _, hcy⟩ := hA.sy.at' (by omega)
          have gy := hcy t hg3
          have htl : t < b.length := by rw [HXL.out.2]; exact hg3
          have hcY := hA.y.cap
          have hin2 := hA.ib _ (nth_mem htl)
          have hAD : Asked wa wa.heap.size B (some ⟨bx, ox, none⟩) Y U n d mx dx my dy mz dz Ms vs a b g wc.drew := hA.step hsc (below_refl_drewN _ wc 1)
          have hCD : Sl (Value.int .i64) wc.drew C q (toldC Ms [ax] g) := hC.below (Nat.le_refl _) (below_refl_drewN _ wc 1)
          have hsubx := hAD.sx.sub1 hg1
          have hsuby := (show Sl (Value.int .i64) wc.drew (some ⟨by', oy, none⟩) my b from by rw [← hYe]; exact hAD.sy).sub1 hg3
          have hrD := hAD.rows
          have hszD := hAD.sz
          have hnx := upB_next Ms g a b k t
          rw [HAX.out] at hsubx hnx
          have hap : apartB Ms [ax] [nth b t] g = !decide (nth b t ∈ toldC Ms [ax] g) := apart_one (hA.look (HA8.out.2.2.app (fun z hz => by rw [List.mem_singleton] at hz; subst hz; exact hin2)))
          have hlk : lookE Ms g ([ax] ++ [nth b t]) = 0 := hA.look (HA8.out.2.2.app (fun z hz => by rw [List.mem_singleton] at hz; subst hz; exact hin2))
          have hscD : wa.heap.size ≤ wc.drew.heap.size := hsc
          obtain ⟨rr, hrr⟩ : ∃ rr, rr = !decide (nth b t ∈ toldC Ms [ax] g) := ⟨_, rfl⟩
          rw [← hrr] at hap hnx
          have HRR := Lib.hid hrr
          clear hrr
          have HA3 := Lib.hid (And.intro hAD (And.intro hCD (And.intro hnx (And.intro hap hlk))))
          generalize hbt : nth b t = bt at *
          have HBT := Lib.hid hbt
          clear hA hC hnx hcy hin2 htl hap hlk hAD hCD hbt
          subst hYe
          generalize hu1 : upB Ms g a b k t = u1 at *
          have HU1 := Lib.hid hu1
          clear hu1
          go_upto_region 21 with fail
          go_cut [24, 25] from 94 to 135 (fun v e wx => v = .bool rr ∧ e = .int .i64 0 ∧ Asked wa wa.heap.size B (some ⟨bx, ox, none⟩) (some ⟨by', oy, none⟩) U n d mx dx my dy mz dz Ms vs a b g wx ∧ Sl (Value.int .i64) wx C q (toldC Ms [ax] g))
          case first => as_aux_lemma =>
            clear gy
            have n1 : 1 ≤ dx - k := by omega
            have n2 : 1 ≤ dy - t := by omega
            have n3 : n * 64 ≤ 140737488351232 := by omega
            have n4 : mz * 8 ≤ 140737488355328 := by omega
            have n5 : (1 + 1) * 8 ≤ 140737488355328 := by omega
            have n6 : (n + 1) * 8 ≤ 140737488355328 := by omega
            have z5 : k < dx := by omega
            have z6 : t < dy := by omega
            have z7 : (k : Int) + 1 ≤ (dx : Nat) := by omega
            have z8 : (t : Int) + 1 ≤ (dy : Nat) := by omega
            have z9 : (k : Int) < (dx : Nat) := by omega
            have z10 : (t : Int) < (dy : Nat) := by omega
            have z11 : ¬ dx = k := by omega
            have z12 : ¬ dy = t := by omega
            have z13 : (0 : Int) ≤ (k : Int) + 1 := by omega
            have z14 : (0 : Int) ≤ (t : Int) + 1 := by omega
            have z15 : k ≤ k + 1 := by omega
            have z16 : t ≤ t + 1 := by omega
            have z17 : ((k : Int) + 1).toNat = k + 1 := by omega
            have z18 : ((t : Int) + 1).toNat = t + 1 := by omega
            have z3 : IntKind.i64.wrap ((k : Int) + 1) = (k : Int) + 1 := by rw [IntKind.wrap_i64]; omega
            have z4 : IntKind.i64.wrap ((t : Int) + 1) = (t : Int) + 1 := by rw [IntKind.wrap_i64]; omega
            have HCC := Lib.hid (apart_any B (some ⟨bx, ox + k, none⟩) (some ⟨by', oy + t, none⟩) U n d 1 (dx - k) 1 (dy - t) mz dz Ms [ax] [bt] g _ hrD hsubx hsuby hszD n1 n2 n3 n4 n5 n6)
            clear hma hmb hmg hn30 hmxb hmyb hmzb hs7 hk hk6 hsb hg1 hg2 hi1 hi2 hkl hcx hbz hn30' hin1 ht ht6 hsc hg3 hg4 hi3 hi4 hcY n1 n2 n3 n4 n5 n6 hrD hsubx hsuby hszD HA HXL HONE HA2 HAX HU HA8 HBT HU1 HRR
            go_region_held3 (fun _ => True) (trivial) (first
              | ((go_at_call 25); (refine HCC.out.mono ?_); (rintro e w9 ⟨rfl, hb9⟩); (rw [HA3.out.2.2.2.1, HA3.out.2.2.2.2])))
            all_goals
              have hA9 := HA3.out.1.step hscD hb9
              have hC9 := HA3.out.2.1.below (Nat.le_refl _) hb9
              have HF := Lib.hid (And.intro hA9 hC9)
              clear hA9 hC9 hb9
              go_wp2_with fail
              go_meet
              exact ⟨rfl, rfl, HF.out.1, HF.out.2⟩
          case rest => as_aux_lemma =>
            obtain ⟨rfl, rfl, hA, hC⟩ := hcut
            clear gy
            have gy : _ = some (Value.int .i64 bt) := (by
              obtain ⟨b', o', e, _, hc⟩ := hA.sy.at' (by omega)
              injection e with e
              injection e with e1 e2 _
              subst e1 e2
              have := hc t hg3
              rw [HBT.out] at this
              exact this : World.cell? _ ⟨by', oy + t, none⟩ = some (Value.int .i64 bt))
            have HF := Lib.hid (And.intro hA hC)
            have hd : decide (bt ∈ toldC Ms [ax] g) = !rr := by rw [HRR.out]; simp
            have HD := Lib.hid hd
            have hnx := HA3.out.2.2.1
            have HNX := Lib.hid hnx
            clear hA hC hd hnx hrD hsubx hsuby hszD
            cases u1 <;> cases rr <;> (
              go_wp2_with fail
              refine (has_law C q dq _ bt _ HF.out.2).mono ?_
              rintro e w9 ⟨rfl, rfl⟩
              rw [HD.out]
              go_wp2_with fail
              exact ⟨⟨t + 1, by go_num, by rw [HNX.out]; rfl, by omega, by omega, HF.out.1, HF.out.2⟩, by simp [intOf]; omega⟩)
        · have hmin : t = min b.length 6 := by rw [HXL.out.2]; omega
          have hrow := upB_row Ms g a b k hmin
          generalize hu1 : upB Ms g a b k t = u1 at *
          have HROW := Lib.hid hrow
          have HF := Lib.hid hA
          clear hA hC hu1 hrow hmin
          by_cases h3 : t < my
          · have h4 : ((t : Nat) : Int) < (my : Nat) := by omega
            have h5 : ¬ ((t : Nat) : Int) < 6 := by omega
            go_wp2_with fail
            exact ⟨⟨k + 1, by go_num, by rw [HROW.out], by omega, by omega, HF.out⟩, by simp [intOf]; omega⟩
          · have h4 : ¬ ((t : Nat) : Int) < (my : Nat) := by omega
            go_wp2_with fail
            exact ⟨⟨k + 1, by go_num, by rw [HROW.out], by omega, by omega, HF.out⟩, by simp [intOf]; omega⟩
    · have HF := Lib.hid hA
      clear hA
      by_cases h3 : k < mx
      · have h4 : ((k : Nat) : Int) < (mx : Nat) := by omega
        have h5 : ¬ ((k : Nat) : Int) < 6 := by omega
        have h6 : (6 : Int) < (mx : Nat) := by omega
        go_wp2_with fail
        go_ret
        exact ⟨rfl, HF.out.bel⟩
      · have h4 : ¬ ((k : Nat) : Int) < (mx : Nat) := by omega
        have h6 : ¬ (6 : Int) < (mx : Nat) := by omega
        by_cases h7 : 6 < my
        · have h8 : (6 : Int) < (my : Nat) := by omega
          go_wp2_with fail
          go_ret
          exact ⟨rfl, HF.out.bel⟩
        · have h8 : ¬ (6 : Int) < (my : Nat) := by omega
          have hke : k = a.length := by rw [HXL.out.1]; omega
          have hall : upB Ms g a b k 0 = one := by
            rw [hke, HONE.out]
            exact upB_all (by rw [HXL.out.1]; omega) (by rw [HXL.out.2]; omega) (HF.out.look (HF.out.ia.app HF.out.ib))
          rw [hall]
          clear hall hke
          go_wp2_with fail
          go_ret
          exact ⟨by simp, HF.out.bel⟩
theorem lawB (A : Option Addr) (n0 c0 : Nat) (Ps : List (List Int)) (B0 : Option Addr) (ma da : Nat) (x : List Int) (C0 : Option Addr) (mb db : Nat) (y : List Int) (D0 : Option Addr) (mg dg : Nat) (z : List Int) (w : World) (h : Rows (Value.int .i64) w A n0 Ps) (_ : n0 ≤ c0) (_ : n0 * 24 ≤ 140737488351232) (_ : (∀ i, i < n0 → (nth Ps i).length * 8 ≤ 140737488351232) ∧ ∀ l ∈ Ps, ∀ x ∈ l, (Lit.int .i64 x).wf = true)
    (hx : Sl (Value.int .i64) w B0 ma x) (_ : ∀ a ∈ x, (Lit.int .i64 a).wf = true) (hy : Sl (Value.int .i64) w C0 mb y) (_ : ∀ a ∈ y, (Lit.int .i64 a).wf = true) (hz : Sl (Value.int .i64) w D0 mg z) (_ : ∀ a ∈ z, (Lit.int .i64 a).wf = true) (_ : n0 ≤ 1048576) (hma : ma ≤ 1048576) (hmb : mb ≤ 1048576) (hmg : mg ≤ 1048576) :
    Calls Try.prog 13 #[.slice A n0 c0, .slice B0 ma da, .slice C0 mb db, .slice D0 mg dg] w fun e w' => e = .returned (.bool true) ∧ Below w.heap.size w w' := law A B0 C0 D0 n0 c0 ma da mb db mg dg Ps x y z w h hx hy hz hma hmb hmg
end SepEven
end Go.Proofs.Ytdlnglffimcopaa
