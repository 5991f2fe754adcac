/- credencelaw16.SepWall, walked: it returns true. Condition: the lists read. -/
import Derived.Test.YtdlnglffimcopaaWallLaw
import Derived.Test.YtdlnglffimcopaaAlive
import Derived.Test.YtdlnglffimcopaaSub
namespace Go.Proofs.Ytdlnglffimcopaa
open Go.RowKit

/-- a point, its blanket, and parents that may be -/
structure Walled (w0 : World) (base : Nat) (B X U : Option Addr) (n d dx k du : Nat) (Ms : List (List Int)) (vs : List (Option Addr × Nat × Nat)) (a : Int) (w : World) : Prop where
  ms : Mats w base B n d Ms vs
  x : OwnR (Value.int .i64) w base 3 X 1 dx [a]
  u : OwnR (Value.int .i64) w base 3 U k du (blC Ms a)
  mend : Mend Ms
  ia : 0 ≤ a ∧ a < (n : Int)
  n30 : n ≤ 30
  bel : Below base w0 w
section
variable {w0 w w' : World} {base : Nat} {B X U : Option Addr} {n d dx k du : Nat} {Ms : List (List Int)} {vs : List (Option Addr × Nat × Nat)} {a : Int}
theorem Walled.step (h : Walled w0 base B X U n d dx k du Ms vs a w) (hB : base ≤ w.heap.size) (hb : Below w.heap.size w w') : Walled w0 base B X U n d dx k du Ms vs a w' :=
  ⟨h.ms.below hb, h.x.below (Nat.le_refl _) hb, h.u.below (Nat.le_refl _) hb, h.mend, h.ia, h.n30, h.bel.trans (hb.mono hB)⟩
theorem Mats.rows30 (h : Mats w base B n d Ms vs) (hm : Mend Ms) (hn : n ≤ 30) : Rows (Value.int .i64) w B n Ms := h.rows (by omega) (fun i hi => by have := (hm i (by rw [h.len]; exact hi)).2.2; omega)
theorem Walled.k30 (h : Walled w0 base B X U n d dx k du Ms vs a w) : k ≤ n := by
  have h1 := h.u.length
  have h2 := blC_length (Ps := Ms) a
  rw [h.ms.len] at h2
  omega
theorem Walled.su (h : Walled w0 base B X U n d dx k du Ms vs a w) : Sl (Value.int .i64) w U k (blC Ms a) := h.u.sl (by have := h.k30; have := h.n30; omega)
theorem Walled.sx (h : Walled w0 base B X U n d dx k du Ms vs a w) : Sl (Value.int .i64) w X 1 [a] := h.x.sl (by omega)
end
namespace SepWall
set_option maxRecDepth 100000 in
set_option maxHeartbeats 1600000 in
theorem law (A : Option Addr) (n0 c0 : Nat) (Ps : List (List Int)) (x : Int) (w : World) (h : Rows (Value.int .i64) w A n0 Ps) :
    Calls Try.prog 14 #[.slice A n0 c0, .int .i64 x] w fun e w' => e = .returned (.bool true) ∧ Below w.heap.size w w' := by
  have H0 := (Held.init w).and (Q := fun w => Rows (Value.int .i64) w A n0 Ps) h
  obtain ⟨wa, hwa⟩ : ∃ wa : World, wa = w := ⟨_, rfl⟩
  subst hwa
  clear h
  go_enter Try.func14, Try.ntmps14
  go_wp2_with fail
  refine (alive_any _).mono ?_
  rintro e w1 ⟨rfl, hb⟩
  have H1 := H0.step hb
  clear H0 hb
  go_wp2_with fail
  refine (mended_any A n0 c0 Ps _ H1.has.1).mono ?_
  rintro e w2 ⟨B, n, d, Ms, vs, rfl, hn, hM, hmd, hb⟩
  have hs1 := H1.bel.size
  have hn30 : n ≤ 30 := by omega
  have H2 := H1.step hb
  have HM := Lib.hid (And.intro hM (And.intro hmd hn))
  clear H1 hb hM hmd hn
  by_cases hn0 : n = 0
  · subst hn0
    go_wp2_with fail
    go_ret
    exact ⟨rfl, H2.bel⟩
  have hl1 : Sl (Value.int .i64) (w2.alloc (.cells #[.int .i64 x] 3)) (some ⟨w2.heap.size, 0, none⟩) 1 [x] := sl_lit w2 [x] (by simp)
  have hb1 : Below w2.heap.size w2 (w2.alloc (.cells #[.int .i64 x] 3)) := (Below.refl _ _).alloc (Nat.le_refl _) _
  have hz2 := H2.bel.size
  go_wp2_with fail
  refine (points_any (some ⟨w2.heap.size, 0, none⟩) 1 1 n [x] _ hl1 (by omega) (by omega)).mono ?_
  rintro e w3 ⟨X, dx, ys, rfl, hX, hia, hb⟩
  rw [show (if 0 < n then 1 else 0) = 1 from if_pos (by omega)] at hX ⊢
  obtain ⟨a, rfl⟩ : ∃ a, ys = [a] := List.length_eq_one_iff.1 hX.length
  have hb3 := hb1.trans (hb.mono hb1.size)
  have hM3 := HM.out.1.below hb3
  have H3 := H2.step hb3
  have hbn := hb1.size
  have hz3 := hb3.size
  have ha := hia a (by simp)
  have hXo := hX.mono (base' := wa.heap.size) (by omega)
  have HX := Lib.hid (And.intro hXo (And.intro (hM3) ha))
  have hx0 : ∃ g, X = some ⟨g, 0, none⟩ := by
    rcases hX.at_row with h | ⟨g, h, _⟩
    · subst h
      have := hX.cap
      obtain ⟨g, rest, e, _⟩ := hX.row (by omega)
      cases e
    · exact ⟨g, h⟩
  obtain ⟨gx, rfl⟩ := hx0
  have g0 : w3.cell? ⟨gx, 0, none⟩ = some (.int .i64 a) := by
    obtain ⟨b', o', e, _, hc⟩ := (hX.sl (by omega)).at' (by omega)
    injection e with e
    injection e with e1 e2 _
    subst e1 e2
    exact hc 0 (by omega)
  have hrow : Rows (Value.int .i64) w3 B n Ms := hM3.rows30 HM.out.2.1 hn30
  clear hM3 H2 hb3 hb hb1 hX hXo hl1 hia ha
  go_wp2_with fail
  refine (blanket_any B n d Ms a _ hrow (by omega)).mono ?_
  rintro e w4 ⟨hb, U, k, du, rfl, _, hU⟩
  have hlen : Ms.length = n := HX.out.2.1.len
  have hin1 : InN Ms.length [a] := fun t ht => by rw [List.mem_singleton] at ht; subst ht; rw [hlen]; exact HX.out.2.2
  have hl0 : lookE Ms [] [a] = 0 := mend_look HM.out.2.1 (fun t ht => by cases ht) hin1
  rw [hl0]
  have hU := hU hl0
  have hbel := (H3.step hb).bel
  have hW : Walled wa wa.heap.size B (some ⟨gx, 0, none⟩) U n d dx k du Ms vs a w4 :=
    ⟨⟨(HX.out.2.1.below hb).out.mono (by omega), fun i hi => ((HX.out.2.1.below hb).row i hi).mono (by omega), hlen⟩, HX.out.1.below (Nat.le_refl _) hb, hU.mono (by have := H3.bel.size; omega), HM.out.2.1, HX.out.2.2, hn30, hbel⟩
  have g4 := cell_later hb g0
  have hsu := hW.su
  have hself : decide (a ∈ blC Ms a) = false := by rw [decide_eq_false_iff_not]; exact self_blC hW.ia.1
  have hs4 := hbel.size
  have HW := Lib.hid (And.intro hW (And.intro hlen hin1))
  clear H3 HX HM hW hbel hU hl0 hlen hin1 hrow g0 hb hs1 hz2 hbn hz3
  go_wp2_with fail
  refine (has_law U k du _ a _ hsu).mono ?_
  rintro e w5 ⟨rfl, rfl⟩
  rw [hself]
  have hrow := HW.out.1.ms.rows30 HW.out.1.mend hn30
  have hsx := HW.out.1.sx
  have hk30 := HW.out.1.k30
  clear hself
  go_wp2_with fail
  refine (tells_any B _ U n d 1 dx k du Ms [a] (blC Ms a) _ hrow hsx hsu (by omega) (by omega)).mono ?_
  rintro e w6 ⟨hb, C, q, dq, rfl, _, hT⟩
  have hl := mend_look HW.out.1.mend (blC_in a) HW.out.2.2
  rw [hl]
  have hT := hT hl
  have hia := HW.out.1.ia
  rw [show castL (toldL (toG Ms) (blC Ms a) ([a].map Int.toNat)) = [a] from wall_told HW.out.1.mend (by rw [HW.out.2.1]; exact hia)] at hT
  have hW := HW.out.1.step hs4 hb
  have HW := Lib.hid (And.intro hW HW.out.2)
  have hs6 := hW.bel.size
  have hT1 := hT.length
  have hT2 := hT.sl (by rw [← hT1]; simp)
  have hsx := HW.out.1.sx
  clear hT1 hT hb hl hW hrow hsu g4 hs4
  go_wp2_with fail
  refine (same_law C _ q 1 dq dx [a] [a] _ hT2 hsx).mono ?_
  rintro e w7 ⟨rfl, tk, rfl⟩
  rw [show decide ([a] = [a]) = true from decide_eq_true_iff.2 rfl]
  have hW := HW.out.1.step hs6 (below_refl_drewN _ w6 tk)
  have HW := Lib.hid (And.intro hW HW.out.2)
  have hs7 := hW.bel.size
  clear hT2 hsx hW hs6
  generalize w6.drewN tk = w7 at *
  go_wp2_with fail
  go_loopw [13] (fun i wr => ∃ t : Nat, i = .int .i64 (t : Nat) ∧ t ≤ k ∧ Walled wa wa.heap.size B (some ⟨gx, 0, none⟩) U n d dx k du Ms vs a wr) (fun i _ => k - (intOf i).toNat)
  case atStart => exact ⟨0, rfl, Nat.zero_le _, HW.out.1⟩
  case round =>
    obtain ⟨t, rfl, ht, hA⟩ := hrel
    obtain ⟨wc, hwc⟩ : ∃ wc : World, wc = wr := ⟨_, rfl⟩
    subst hwc
    have hsc := hA.bel.size
    by_cases hgo : t < k
    · have hgo' : (t : Int) < (k : Nat) := by omega
      obtain ⟨bu, ou, hUe, _, _⟩ := hA.su.at' (by omega)
      have hcu := hA.u.cap
      have HA := Lib.hid hA
      have hpre := (show Sl (Value.int .i64) wc (some ⟨bu, ou, none⟩) k (blC Ms a) from by rw [← hUe]; exact hA.su).pre ht
      clear hA
      subst hUe
      have hz1 : t ≤ du := by omega
      have hemp : OwnR (Value.int .i64) wc wc.heap.size 3 none 0 0 ([] : List Int) := OwnR.nil _ _ _ _
      go_wp2_with (first
        | (at_builtin; (with_reducible refine wpList_app _ eiInt (Value.int .i64) (fun _ => rfl) rfl _ _ rfl wc.heap.size _ _ _ _ rfl hemp _ _ _ _ rfl hpre (by omega) (Nat.le_refl _) ?_))
        | fail)
      intro A8 c8 w8 ho8 _ hb8 _
      have ho8 : OwnR (Value.int .i64) w8 wc.heap.size 3 A8 t c8 ((blC Ms a).take t) := by first | exact ho8 | simpa using ho8
      try simp only [Nat.zero_add]
      have hA8 := HA.out.step hsc hb8
      have HA8 := Lib.hid (And.intro hA8 (And.intro ho8 hb8))
      have hz8 := hb8.size
      clear hemp hpre ho8 hb8 hA8
      have hz2 : t + 1 ≤ k := by omega
      have hz3 : (t : Int) + 1 ≤ (k : Nat) := by omega
      have hz4 : (0 : Int) ≤ (t : Int) + 1 := by omega
      have hz5 : ((t : Int) + 1).toNat = t + 1 := by omega
      go_upto_region 18 with fail
      go_cut [14] from 76 to 98 (fun v wx => ∃ R rc, v = .slice R (t + (k - (t + 1))) rc ∧ OwnR (Value.int .i64) wx wc.heap.size 3 R (t + (k - (t + 1))) rc ((blC Ms a).take t ++ (blC Ms a).drop (t + 1)) ∧ Below wc.heap.size wc wx)
      case first => as_aux_lemma =>
        have ho8 := HA8.out.2.1
        by_cases hcc : du = t + 1
        · have hsuf := HA8.out.1.su.suf (i := t + 1) (A := some ⟨bu, ou, none⟩) (fun h => by omega) (by omega)
          have hcc' := eq_true hcc
          clear hcc
          go_wp2_with (first
            | (at_builtin; (with_reducible refine wpList_app _ eiInt (Value.int .i64) (fun _ => rfl) rfl _ _ rfl wc.heap.size _ _ _ _ rfl ho8 _ _ _ _ rfl hsuf (by omega) hz8 ?_))
            | fail)
          intro A9 c9 w9 ho9 _ hb9 _
          have HF := Lib.hid (And.intro ho9 (HA8.out.2.2.trans hb9))
          clear ho9 hb9 ho8 hsuf
          go_wp2_with fail
          go_meet
          case rel => exact ⟨_, _, rfl, HF.out.1, HF.out.2⟩
        · have hsuf := HA8.out.1.su.suf (i := t + 1) (A := some ⟨bu, ou + (t + 1), none⟩) (fun _ => rfl) (by omega)
          go_wp2_with (first
            | (at_builtin; (with_reducible refine wpList_app _ eiInt (Value.int .i64) (fun _ => rfl) rfl _ _ rfl wc.heap.size _ _ _ _ rfl ho8 _ _ _ _ rfl hsuf (by omega) hz8 ?_))
            | fail)
          intro A9 c9 w9 ho9 _ hb9 _
          have HF := Lib.hid (And.intro ho9 (HA8.out.2.2.trans hb9))
          clear ho9 hb9 ho8 hsuf
          go_wp2_with fail
          go_meet
          case rel => exact ⟨_, _, rfl, HF.out.1, HF.out.2⟩
      case rest =>
        obtain ⟨R, rc, rfl, hR, hbx⟩ := hcut
        have hA := HA.out.step hsc hbx
        have hsx := hA.bel.size
        have hkl : t < (blC Ms a).length := by rw [hA.u.length]; exact hgo
        have hno := wall_not hA.mend (x := a) (by rw [HW.out.2.1]; exact hia) hkl
        have hsub := hA.su.sub1 hgo
        have hcap := hA.u.cap
        have hpx := hA.sx
        have hxc := hA.x.cap
        have hrs := hR.sl (by omega)
        have hrow := hA.ms.rows30 hA.mend hn30
        have hsu := hA.su
        have hk30 := hA.k30
        have hin2 := blC_in (Ps := Ms) a _ (nth_mem hkl)
        have hin3 : InN Ms.length ((blC Ms a).take t ++ (blC Ms a).drop (t + 1)) := fun y hy => by
          rcases List.mem_append.1 hy with h | h
          · exact blC_in (Ps := Ms) a _ (List.mem_of_mem_take h)
          · exact blC_in (Ps := Ms) a _ (List.mem_of_mem_drop h)
        have hl := mend_look hA.mend hin3 (HW.out.2.2.app (show InN Ms.length [nth (blC Ms a) t] from fun y hy => by rw [List.mem_singleton] at hy; subst hy; exact hin2))
        generalize nth (blC Ms a) t = bt at *
        generalize (blC Ms a).take t ++ (blC Ms a).drop (t + 1) = rest at *
        have HX := Lib.hid (And.intro hA (And.intro hno hl))
        clear hA hno hl hin2 hin3 hR hbx HA8 HA
        go_wp2_with fail
        refine (apart_any B _ _ _ n d 1 dx 1 (du - t) (t + (k - (t + 1))) rc Ms [a] [bt] rest _ hrow hpx hsub hrs (by omega) (by omega) (by omega) (by omega) (by omega) (by omega)).mono ?_
        rintro e w9 ⟨rfl, hb9⟩
        rw [HX.out.2.1, HX.out.2.2]
        have HF := Lib.hid (HX.out.1.step hsx hb9)
        clear hrow hpx hsub hrs hb9
        go_wp2_with fail
        exact ⟨⟨t + 1, by go_num, by omega, HF.out⟩, by simp [intOf]; omega⟩
    · have HA := Lib.hid hA
      have hgo' : ¬ (t : Int) < (k : Nat) := by omega
      clear hA
      go_wp2_with fail
      go_ret
      exact ⟨rfl, HA.out.bel⟩
theorem lawB (A : Option Addr) (n c : Nat) (Ps : List (List Int)) (a : Int) (w : World) (h : Rows (Value.int .i64) w A n Ps) (_ : n ≤ c) (_ : n * 24 ≤ 140737488351232) (_ : (∀ i, i < n → (nth Ps i).length * 8 ≤ 140737488351232) ∧ ∀ l ∈ Ps, ∀ x ∈ l, (Lit.int .i64 x).wf = true) (_ : (Lit.int .i64 a).wf = true) :
    Calls Try.prog 14 #[.slice A n c, .int .i64 a] w fun e w' => e = .returned (.bool true) ∧ Below w.heap.size w w' := law A n c Ps a w h
end SepWall
end Go.Proofs.Ytdlnglffimcopaa
