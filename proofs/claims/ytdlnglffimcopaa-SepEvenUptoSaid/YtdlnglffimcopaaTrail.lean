/- sep.Trail, walked: a way by which one point tells something of another. Conditions: the parents and the points within Go's bound. -/
import Derived.Test.YtdlnglffimcopaaTrailClo
import Derived.Test.YtdlnglffimcopaaFar
import Derived.Test.YtdlnglffimcopaaRefTrail
namespace Go.Proofs.Ytdlnglffimcopaa
open Go.RowKit

theorem clo_best (B n ob cnt fvb nb bb m : Nat) (O : St → Option Nat) (s0 : St) (hn : n * 64 ≤ 140737488351232) (hs0 : s0.1 < n) (h0 : O s0 = some (m + 1)) (hm : m < n) (hOn : ∀ x k, O x = some k → k < n) :
    Clo B n 54 #[.pointer (some ⟨fvb, 0, none⟩), .pointer (some ⟨nb, 0, none⟩), .pointer (some ⟨bb, 0, none⟩)] (fun _ => True) (fun K L w => Tb B n ob cnt fvb nb bb O s0 K (bestF n O m L) w) where
  step := by
    intro K L s w hs _ h
    refine (best_any B n ob cnt fvb nb bb m O s0 K _ s w hn hs hs0 h0 hm hOn h).mono ?_
    rintro e w' ⟨rfl, h1, h2, h3⟩
    exact ⟨rfl, by rw [bestF_snoc]; exact h1, h2, h3⟩
  ent := enters_of Try.func54 (by kernel_rfl) rfl
  grow := fun _ _ _ _ h hb => h.step hb
  weak := fun _ _ _ _ h hk => h.weak hk
  bnd := fun _ _ _ b h hk => (h.far b hk).1
section
variable {G : List (List Nat)} {Z : List Int} {O : St → Option Nat} {n b m : Nat}
theorem best_bst (hG : G.length = n) (hg : GoodG G) (hO : FarOk G (Zp Z) (Ap G Z) b O) {s : St} (hs : s.1 < n) (hf : Far G (Zp Z) (Ap G Z) b (m + 1) s) :
    Bst G (Zp Z) (Ap G Z) b s m (bestF n O m (nextL G Z s)) ∧ (bestF n O m (nextL G Z s)).1 < n := by
  have hsG : s.1 < G.length := by rw [hG]; exact hs
  obtain ⟨t, hx, hft⟩ := hf.next
  have ht := (mem_nextL hsG).2 hx
  have htn := nextL_bnd hg hsG ht
  obtain ⟨h1, h2⟩ := bestF_spec n O m (nextL G Z s)
  have h3 := h1 t ht (hO.iff.2 hft)
  rcases h2 with h2 | ⟨h2, h4⟩
  · rw [h2] at h3; rw [hG] at htn; simp at h3; omega
  · exact ⟨⟨(mem_nextL hsG).1 h2, hO.far _ _ h4, fun r hr hfr => h1 r ((mem_nextL hsG).2 hr) (hO.iff.2 hfr)⟩, by have := nextL_bnd hg hsG h2; rw [hG] at this; exact this⟩
end
/-- Trail's loop on its way -/
structure Tw (G : List (List Nat)) (Z : List Int) (n x y fvb ob : Nat) (A : Option Addr) (k c m : Nat) (s : St) (l : List St) (w0 w : World) : Prop where
  grd : Grd G (Zp Z) (Ap G Z) y (x, true) m (s :: l)
  own : OwnR (Value.int .i64) w (fvb + 2) 3 A k c (castL ((s :: l).map (·.1)).reverse)
  fv : RowC w fvb 63 [.map (some ob)]
  now : RowC w (fvb + 1) 66 [.int .i64 (s.1 : Int), .bool s.2]
  bel : Below fvb w0 w
  sn : s.1 < n
theorem bestT_given {G : List (List Nat)} {given : List Int} {x y : Nat} (h : zB given x = true ∨ zB given y = true) : bestO G given x y = none := by
  refine bestO_eq ⟨fun _ l h1 h2 => ?_, fun t e => by cases e⟩
  rcases h with h | h
  · exact absurd h h1
  · exact h
theorem rows_nodup {Ps : List (List Int)} {n : Nat} (h : inR Ps = true) (hd : Ps.any dup = false) (hn : Ps.length = n) : ∀ p, p < n → (nth (toG Ps) p).Nodup := by
  intro p hp
  have hpl : p < Ps.length := by omega
  rw [nth_toG hpl]
  have h1 : (nth Ps p).Nodup := dup_nodup (by
    cases hx : dup (nth Ps p)
    · rfl
    · rw [List.any_eq_false] at hd
      exact absurd hx (hd _ (nth_mem hpl)))
  rw [List.nodup_iff_pairwise_ne, List.pairwise_map]
  refine (List.nodup_iff_pairwise_ne.1 h1).imp_of_mem fun {x y} hx hy hne e => hne ?_
  have := (inR_row h hpl x hx).1
  have := (inR_row h hpl y hy).1
  omega
theorem lists_rev (s t : St) (l : List St) : castL ((t :: s :: l).map (·.1)).reverse = castL ((s :: l).map (·.1)).reverse ++ [(t.1 : Int)] := by simp [castL]

set_option maxRecDepth 100000 in
set_option maxHeartbeats 1600000 in
theorem trail_any (A C0 : Option Addr) (n c m3 d3 : Nat) (Ps : List (List Int)) (a b : Int) (given : List Int) (w : World) (h : Rows (Value.int .i64) w A n Ps) (hg : Sl (Value.int .i64) w C0 m3 given)
    (hn : n ≤ 1048576) (hm3 : m3 * 8 ≤ 140737488355328) :
    Calls Try.prog 23 #[.slice A n c, .int .i64 a, .int .i64 b, .slice C0 m3 d3] w fun e w' => ∃ X q r, e = .returned (.tuple #[.slice X q r, .int .i64 (lookE Ps given [a, b])]) ∧ OwnR (Value.int .i64) w' w.heap.size 3 X q r (trailW Ps a b given) ∧ Below w.heap.size w w' := by
  obtain ⟨wa, hwa⟩ : ∃ wa : World, wa = w := ⟨_, rfl⟩
  subst hwa
  have hlen := h.len
  have hb0 : Below wa.heap.size wa (wa.alloc (.cells #[.int .i64 a, .int .i64 b] 3)) := (Below.refl wa.heap.size wa).alloc (Nat.le_refl _) _
  have h0 := h.below (Nat.le_refl _) hb0
  have hg0 := hg.below (Nat.le_refl _) hb0
  have hsl : Sl (Value.int .i64) (wa.alloc (.cells #[.int .i64 a, .int .i64 b] 3)) (some ⟨wa.heap.size, 0, none⟩) 2 [a, b] := by
    have hr : RowAt (Value.int .i64) (wa.alloc (.cells #[.int .i64 a, .int .i64 b] 3)) wa.heap.size 3 [a, b] [] := RowC.new wa 3 [.int .i64 a, .int .i64 b]
    exact hr.sl (by simp)
  have HL := Lib.hid (And.intro hlen hb0)
  clear h hg hb0 hlen
  go_enter Try.func23, Try.ntmps23
  go_wp2_with fail
  refine (look_any A C0 _ n c m3 d3 2 2 Ps given [a, b] _ h0 hg0 hsl (by omega) hm3).mono ?_
  rintro e w1 ⟨hb1, A1, na, ca, Y1, nb, cb, Z1, k1, c1, D1, k2, c2, rfl, hv⟩
  have hbw : Below wa.heap.size wa w1 := HL.out.2.trans (hb1.mono HL.out.2.size)
  clear h0 hg0 hsl hb1
  by_cases hE : lookE Ps given [a, b] = 0
  · obtain ⟨e1, e2, e3, e4, hvw⟩ := hv hE
    clear hv
    have e1 := e1.symm
    have e2 := e2.symm
    have e3 := e3.symm
    have e4 := e4.symm
    subst e1 e2 e3 e4
    rw [hE]
    obtain ⟨⟨ha1, ha2⟩, hb1, hb2⟩ := look_two hE
    obtain ⟨hck, hin1, _⟩ := lookE_inv hE
    obtain ⟨x, rfl⟩ : ∃ x : Nat, a = (x : Int) := ⟨a.toNat, by omega⟩
    obtain ⟨y, rfl⟩ : ∃ y : Nat, b = (y : Int) := ⟨b.toNat, by omega⟩
    have hlen := HL.out.1
    rw [hlen] at ha2 hb2
    have hxn : x < n := by omega
    have hyn : y < n := by omega
    have hGl : (toG Ps).length = n := by rw [toG_length]; exact hlen
    obtain ⟨hinr, hdup, hac⟩ := checkP_ok hck
    have hgood := good_toG hinr
    have hgg := inRow_iff.1 hin1
    have hab := abOk hgood (given := given) (by rw [hGl, ← hlen]; exact hgg)
    have hnod : ∀ p, p < n → (nth (toG Ps) p).Nodup := rows_nodup hinr hdup hlen
    have hH1 := (Held.start (P := fun w => View w (toG Ps) given A Y1 Z1 D1 n k1 k2) w1 hvw).new 60 [.slice A n c, .slice Y1 n cb, .slice Z1 k1 c1, .slice D1 k2 c2]
    have v0 := hH1.has.1.cell 0
    have v1 := hH1.has.1.cell 1
    have v2 := hH1.has.1.cell 2
    have v3 := hH1.has.1.cell 3
    simp only [List.getElem?_cons_zero, List.getElem?_cons_succ] at v0 v1 v2 v3
    have hgiv := hH1.has.2.giv
    have HH := Lib.hid (And.intro hH1 hbw)
    have HE := Lib.hid (And.intro hE (And.intro hGl (And.intro hgood (And.intro hac (And.intro hab hnod)))))
    clear hH1 hbw hE ha1 ha2 hb1 hb2 hck hin1 hlen hGl hinr hdup hac hgood hgg hab hnod hvw
    go_wp2_with fail
    refine (has_I Z1 k1 c1 _ _ _ hgiv).mono ?_
    rintro e w2 ⟨rfl, hb2⟩
    have hH2 := HH.out.1.step hb2
    clear hb2 hgiv v0 v1 v2 v3
    cases hzx : zB given x with
    | true =>
      rw [show decide ((x : Int) ∈ given) = true from hzx]
      have HZ := Lib.hid (And.intro (bestT_given (G := toG Ps) (y := y) (.inl hzx)) (HH.out.2.trans (hH2.bel.mono HH.out.2.size)))
      clear hH2 hzx
      go_wp2_with fail
      go_ret2
      refine ⟨none, 0, 0, by rw [HE.out.1]; rfl, ?_, HZ.out.2⟩
      unfold trailW
      rw [if_pos HE.out.1, Int.toNat_natCast, Int.toNat_natCast, HZ.out.1]
      exact OwnR.nil _ _ _ _
    | false =>
      rw [show decide ((x : Int) ∈ given) = false from hzx]
      have v0 := hH2.has.1.cell 0
      have v1 := hH2.has.1.cell 1
      have v2 := hH2.has.1.cell 2
      have v3 := hH2.has.1.cell 3
      simp only [List.getElem?_cons_zero, List.getElem?_cons_succ] at v0 v1 v2 v3
      have hgiv := hH2.has.2.giv
      have HH2 := Lib.hid hH2
      have HZX := Lib.hid hzx
      clear hH2 hzx
      go_wp2_with fail
      refine (has_I Z1 k1 c1 _ _ _ hgiv).mono ?_
      rintro e w3 ⟨rfl, hb3⟩
      have hH3 := HH2.out.step hb3
      clear hb3 hgiv v0 v1 v2 v3
      cases hzy : zB given y with
      | true =>
        rw [show decide ((y : Int) ∈ given) = true from hzy]
        have HZ := Lib.hid (And.intro (bestT_given (G := toG Ps) (x := x) (.inr hzy)) (HH.out.2.trans (hH3.bel.mono HH.out.2.size)))
        clear hH3 hzy
        go_wp2_with fail
        go_ret2
        refine ⟨none, 0, 0, by rw [HE.out.1]; rfl, ?_, HZ.out.2⟩
        unfold trailW
        rw [if_pos HE.out.1, Int.toNat_natCast, Int.toNat_natCast, HZ.out.1]
        exact OwnR.nil _ _ _ _
      | false =>
        rw [show decide ((y : Int) ∈ given) = false from hzy]
        have v0 := hH3.has.1.cell 0
        have v1 := hH3.has.1.cell 1
        have v2 := hH3.has.1.cell 2
        have v3 := hH3.has.1.cell 3
        simp only [List.getElem?_cons_zero, List.getElem?_cons_succ] at v0 v1 v2 v3
        have hvw := hH3.has.2
        have HH3 := Lib.hid hH3
        have HZY := Lib.hid hzy
        clear hH3 hzy
        go_wp2_with fail
        refine (far_any (toG Ps) given A Y1 Z1 D1 n k1 k2 c cb c1 c2 y _ hvw HE.out.2.1 HE.out.2.2.1 HE.out.2.2.2.2.2 HE.out.2.2.2.2.1 hyn hn).mono ?_
        rintro e w4 ⟨ob, cnt, O, rfl, hob, hmap, hfar, hOn, hb4⟩
        have hH4 := HH3.out.step hb4
        have hobl := hmap.lt
        have HF := Lib.hid (And.intro hmap (And.intro hfar (And.intro hOn hH4)))
        have hokx : okS (x, true) := by unfold okS; simp; omega
        have hm4 := (hmap.alloc (.cells #[.map (some ob)] 63)).alloc (.cells #[.int .i64 (x : Int), .bool true] 66)
        have hr1 := (RowC.new w4 63 [.map (some ob)]).alloc (.cells #[.int .i64 (x : Int), .bool true] 66)
        have hr2 := RowC.new (w4.alloc (.cells #[.map (some ob)] 63)) 66 [.int .i64 (x : Int), .bool true]
        rw [show (w4.alloc (.cells #[.map (some ob)] 63)).heap.size = w4.heap.size + 1 by simp] at hr2
        have f0 := hr1.cell 0
        have n0 := hr2.cell 0
        have n1 := hr2.cell 1
        simp only [List.getElem?_cons_zero, List.getElem?_cons_succ] at f0 n0 n1
        have HR := Lib.hid (And.intro hr1 hr2)
        clear hvw v0 v1 v2 v3 hb4 hH4 hfar hOn hmap hr1 hr2
        have hxz : ¬ Zp given x := fun h => by unfold Zp at h; rw [HZX.out] at h; cases h
        have hyz : ¬ Zp given y := fun h => by unfold Zp at h; rw [HZY.out] at h; cases h
        cases hO : O (x, true) with
        | none =>
          have hl := Lib.hid (intO_none hO)
          have hbt : bestO (toG Ps) given x y = none := bestO_eq (BestT.none_of HE.out.2.2.2.1.oneWay (by rw [HE.out.2.1]; exact hxn) fun _ _ m u hg => by
            have := HF.out.2.1.all _ m u hg
            rw [hO] at this; cases this)
          have HB := Lib.hid hbt
          clear hO hbt hxz hyz
          go_wp2_with (first
            | (at_lookup; refine wpList_look_ok_S _ rfl _ _ 63 rfl 3 Try.underlying63 Try.underlying3 (zeroI _) ob _ _ rfl hm4 (x, true) rfl hokx ?_; rw [hl.out])
            | fail)
          go_ret2
          refine ⟨none, 0, 0, by rw [HE.out.1]; rfl, ?_, ?_⟩
          · unfold trailW
            rw [if_pos HE.out.1, Int.toNat_natCast, Int.toNat_natCast, HB.out]
            exact OwnR.nil _ _ _ _
          · have h1 := HF.out.2.2.2.bel
            have h2 := HH.out.2.trans (h1.mono HH.out.2.size)
            exact (h2.alloc h2.size _).alloc (by have := h2.size; simp; omega) _
        | some D =>
          have hl := Lib.hid (intO_some hO)
          have hfD := HF.out.2.1.far _ _ hO
          have hDn := hfD.lt HE.out.2.2.2.2.1 HE.out.2.2.1 (by rw [HE.out.2.1]; exact hxn)
          rw [HE.out.2.1] at hDn
          have htw : Tw (toG Ps) given n x y w4.heap.size ob (some ⟨w4.heap.size + 1 + 1, 0, none⟩) 1 1 D (x, true) [] w4 (((w4.alloc (.cells #[.map (some ob)] 63)).alloc (.cells #[.int .i64 (x : Int), .bool true] 66)).alloc (.cells #[.int .i64 (x : Int)] 3)) := by
            refine ⟨.one hfD, ?_, HR.out.1.alloc _, HR.out.2.alloc _, (((Below.refl _ _).alloc (Nat.le_refl _) _).alloc (by simp) _).alloc (by simp; omega) _, hxn⟩
            have hr : RowAt (Value.int .i64) (((w4.alloc (.cells #[.map (some ob)] 63)).alloc (.cells #[.int .i64 (x : Int), .bool true] 66)).alloc (.cells #[.int .i64 (x : Int)] 3)) (w4.heap.size + 1 + 1) 3 [(x : Int)] [] := by
              have := RowC.new ((w4.alloc (.cells #[.map (some ob)] 63)).alloc (.cells #[.int .i64 (x : Int), .bool true] 66)) 3 [.int .i64 (x : Int)]
              rw [show ((w4.alloc (.cells #[.map (some ob)] 63)).alloc (.cells #[.int .i64 (x : Int), .bool true] 66)).heap.size = w4.heap.size + 1 + 1 by simp] at this
              exact this
            exact OwnR.of_row' hr (by omega) rfl (by unfold maxLen; omega) rfl
          have HT := Lib.hid (And.intro htw (And.intro hxz (And.intro hyz hO)))
          clear hO hfD htw hxz hyz
          go_wp2_with (first
            | (at_lookup; refine wpList_look_ok_S _ rfl _ _ 63 rfl 3 Try.underlying63 Try.underlying3 (zeroI _) ob _ _ rfl hm4 (x, true) rfl hokx ?_; rw [hl.out])
            | fail)
          clear f0 n0 n1 hm4
          generalize ((w4.alloc (.cells #[.map (some ob)] 63)).alloc (.cells #[.int .i64 (x : Int), .bool true] 66)).alloc (.cells #[.int .i64 (x : Int)] 3) = wz at *
          generalize hfv : w4.heap.size = fv at *
          go_loopg [16] D (fun gg v wr => ∃ (m kk cc : Nat) (AA : Option Addr) (s : St) (l : List St), m ≤ gg ∧ v = .slice AA kk cc ∧ Aside (Tw (toG Ps) given n x y fv ob AA kk cc m s l w4 wr))
          case atStart => exact ⟨D, 1, 1, _, (x, true), [], Nat.le_refl _, rfl, HT.out.1⟩
          case round => as_aux_lemma =>
            obtain ⟨m, kk, cc, AA, s, l, hgg, rfl, hA⟩ := hrel
            have hA := Lib.hid hA.out
            obtain ⟨wb, hwb⟩ : ∃ wb : World, wb = wr := ⟨_, rfl⟩
            subst hwb
            have hmap := HF.out.1.below (show Below w4.heap.size w4 wb from by rw [hfv]; exact hA.out.bel)
            have hOs := HF.out.2.1.iff.2 hA.out.grd.far
            have hst := hA.out.grd.start
            have hsn := hA.out.sn
            have hok : okS s := by unfold okS; omega
            have hmn := hst.lt HE.out.2.2.2.2.1 HE.out.2.2.1 (by rw [HE.out.2.1]; exact hxn)
            rw [HE.out.2.1] at hmn
            have hkl := hA.out.own.length
            have hkk : kk = l.length + 1 := by rw [← hkl]; simp [castL]
            have f0 := hA.out.fv.cell 0
            have n0 := hA.out.now.cell 0
            have n1 := hA.out.now.cell 1
            simp only [List.getElem?_cons_zero, List.getElem?_cons_succ] at f0 n0 n1
            have hwa4 : Below wa.heap.size wa w4 := HH.out.2.trans (HF.out.2.2.2.bel.mono HH.out.2.size)
            have hfvs := hA.out.bel.size
            have HW := Lib.hid (And.intro hwa4 (And.intro hmn (And.intro hkk hOs)))
            clear hst hkl hwa4 hmn hkk
            cases m with
            | zero =>
              have hl := Lib.hid (intO_some hOs)
              have hbest := bestO_eq (hA.out.grd.best HE.out.2.2.2.2.1 HE.out.2.2.2.1.oneWay HE.out.2.2.1 (by rw [HE.out.2.1]; exact hxn) HT.out.2.1 HT.out.2.2.1)
              have HB := Lib.hid hbest
              clear hOs hbest
              go_wp2_with (first
                | (at_lookup; refine wpList_look_S _ rfl _ _ 63 rfl 3 Try.underlying63 Try.underlying3 (zeroI _) ob _ _ rfl hmap s rfl hok ?_; rw [hl.out])
                | fail)
              go_ret2
              refine ⟨AA, kk, cc, by rw [HE.out.1]; rfl, ?_, HW.out.1.trans (hA.out.bel.mono (by have := HW.out.1.size; omega))⟩
              unfold trailW
              rw [if_pos HE.out.1, Int.toNat_natCast, Int.toNat_natCast, HB.out]
              exact hA.out.own.mono (by have := HW.out.1.size; omega)
            | succ m =>
              have hl := Lib.hid (intO_some hOs)
              have hpos : (((m + 1 : Nat) : Int) > 0) := by omega
              have hmp := hmap.alloc (.cells #[.int .i64 (n : Int), .bool false] 66)
              have hbn := RowC.new wb 66 [.int .i64 (n : Int), .bool false]
              have hfv1 := hA.out.fv.alloc (.cells #[.int .i64 (n : Int), .bool false] 66)
              have hnw1 := hA.out.now.alloc (.cells #[.int .i64 (n : Int), .bool false] 66)
              have hbl1 : Below fv w4 (wb.alloc (.cells #[.int .i64 (n : Int), .bool false] 66)) := hA.out.bel.alloc (by rw [← hfv]; exact hfvs) _
              have hvr := HF.out.2.2.2.has.1.below' (show Below w4.heap.size w4 (wb.alloc (.cells #[.int .i64 (n : Int), .bool false] 66)) from by rw [hfv]; exact hbl1)
              have v0 := hvr.cell 0
              have v1 := hvr.cell 1
              have v2 := hvr.cell 2
              have v3 := hvr.cell 3
              have p0 := hnw1.cell 0
              have p1 := hnw1.cell 1
              simp only [List.getElem?_cons_zero, List.getElem?_cons_succ] at v0 v1 v2 v3 p0 p1
              have hTb : Tb fv n ob cnt fv (fv + 1) wb.heap.size O s (fun b => b < wb.heap.size) (bestF n O m []) (wb.alloc (.cells #[.int .i64 (n : Int), .bool false] 66)) :=
                ⟨hmp, hfv1, hnw1, hbn, by have := hmap.lt; omega, by have := hA.out.fv.lt; omega, by have := hA.out.now.lt; omega, by rw [← hfv]; exact hfvs, fun b hb => ⟨by simp; omega, by omega⟩⟩
              have HX := Lib.hid (And.intro hTb (And.intro hbl1 hOs))
              clear hTb hbl1 hvr hbn hfv1 hnw1 hmp hOs
              go_wp2_with (first
                | (at_lookup; refine wpList_look_S _ rfl _ _ 63 rfl 3 Try.underlying63 Try.underlying3 (zeroI _) ob _ _ rfl hmap s rfl hok ?_; rw [hl.out])
                | fail)
              have hnl := next_lt HE.out.2.2.1 (p := s.1) (by rw [HE.out.2.1]; exact hsn)
              have hOn : ∀ z k, O z = some k → k < n := fun z k hz => by
                have h1 := (HF.out.2.1.far z k hz).lt HE.out.2.2.2.2.1 HE.out.2.2.1 (by rw [HE.out.2.1]; exact HF.out.2.2.1 z k hz)
                rw [HE.out.2.1] at h1; exact h1
              refine (next_any (clo_best fv n ob cnt fv (fv + 1) wb.heap.size m O s (by omega) hsn HX.out.2.2 (by have := hOn _ _ HX.out.2.2; omega) hOn) (toG Ps) given A Y1 Z1 D1 k1 k2 c cb c1 c2 s hsn (by rw [← HE.out.2.1]; exact hnl.1) (by rw [← HE.out.2.1]; exact hnl.2) (fun b => b < wb.heap.size) [] _ w4 HF.out.2.2.2.has.2 (Nat.le_of_eq hfv) ?_ HX.out.2.1 HX.out.1 (fun _ _ => trivial)).mono ?_
              · have := HX.out.2.1.size; omega
              · rintro e w9 ⟨rfl, hT9, hb9, hk9⟩
                have hbst := best_bst HE.out.2.1 HE.out.2.2.1 HF.out.2.1 hsn hA.out.grd.far
                rw [List.nil_append] at hT9
                generalize bestF n O m (nextL (toG Ps) given s) = t at *
                have hbb : Below wb.heap.size (wb.alloc (.cells #[.int .i64 (n : Int), .bool false] 66)) w9 := ⟨hb9.os, hb9.tape, hb9.output, hb9.size, fun b hb => hk9 b hb⟩
                have hbw9 : Below wb.heap.size wb w9 := ((Below.refl _ _).alloc (Nat.le_refl _) _).trans hbb
                have hown9 := hA.out.own.below (Nat.le_refl _) hbw9
                have hfv9 := hA.out.fv.below' hbw9
                have hnw9 := hA.out.now.below' hbw9
                have hbl9 : Below fv w4 w9 := hA.out.bel.trans (hbw9.mono (by rw [← hfv]; exact hfvs))
                have b0 := hT9.best.cell 0
                have b1 := hT9.best.cell 1
                have z0 := hnw9.frozen 0
                have z1 := hnw9.frozen 1
                have m0 := hnw9.cell 0
                have m1 := hnw9.cell 1
                simp only [List.getElem?_cons_zero, List.getElem?_cons_succ] at b0 b1 m0 m1
                have hrow : ∀ g, AA = some ⟨g, 0, none⟩ → fv + 2 ≤ g := fun g e => hown9.fr g 0 e
                have hown10 := ((hown9.setFar (p := ⟨fv + 1, 0, none⟩) (fun g e => by have := hrow g e; simp; omega) (.int .i64 (t.1 : Int))).setFar (p := ⟨fv + 1, 1, none⟩) (fun g e => by have := hrow g e; simp; omega) (.bool t.2))
                have hfv10 := (hfv9.far (p := ⟨fv + 1, 0, none⟩) (by simp) (.int .i64 (t.1 : Int))).far (p := ⟨fv + 1, 1, none⟩) (by simp) (.bool t.2)
                have hnw10 := (hnw9.put 0 (.int .i64 (t.1 : Int))).put 1 (.bool t.2)
                have hbl10 : Below fv w4 ((w9.setCell ⟨fv + 1, 0, none⟩ (.int .i64 (t.1 : Int))).setCell ⟨fv + 1, 1, none⟩ (.bool t.2)) := (hbl9.setCell (p := ⟨fv + 1, 0, none⟩) (by simp) _).setCell (p := ⟨fv + 1, 1, none⟩) (by simp) _
                have hs10 : ((w9.setCell ⟨fv + 1, 0, none⟩ (.int .i64 (t.1 : Int))).setCell ⟨fv + 1, 1, none⟩ (.bool t.2)).heap.size = w9.heap.size := by simp [World.setCell]
                have hownA := hown10.alloc (.cells #[.int .i64 (t.1 : Int)] 3)
                have hone : Sl (Value.int .i64) (((w9.setCell ⟨fv + 1, 0, none⟩ (.int .i64 (t.1 : Int))).setCell ⟨fv + 1, 1, none⟩ (.bool t.2)).alloc (.cells #[.int .i64 (t.1 : Int)] 3)) (some ⟨w9.heap.size, 0, none⟩) 1 [(t.1 : Int)] := by
                  have := Sl.one (enc := Value.int .i64) ((w9.setCell ⟨fv + 1, 0, none⟩ (.int .i64 (t.1 : Int))).setCell ⟨fv + 1, 1, none⟩ (.bool t.2)) 3 (t.1 : Int)
                  rwa [hs10] at this
                have hbase : fv + 2 ≤ (((w9.setCell ⟨fv + 1, 0, none⟩ (.int .i64 (t.1 : Int))).setCell ⟨fv + 1, 1, none⟩ (.bool t.2)).alloc (.cells #[.int .i64 (t.1 : Int)] 3)).heap.size := by
                  have h1 := hnw9.lt
                  rw [show ∀ (w : World) (o : Obj), (w.alloc o).heap.size = w.heap.size + 1 from fun w o => by simp, hs10]; omega
                have hk8 : (kk + 1) * 8 ≤ 140737488355328 := by have := HW.out.2.1; have := HW.out.2.2.1; omega
                have HY := Lib.hid (And.intro hbst (And.intro hrow (And.intro hfv10 (And.intro hnw10 (And.intro hbl10 hs10)))))
                clear hbst hrow hfv10 hnw10 hbl10 hs10 hown9 hown10 hfv9 hnw9 hbl9 hbw9 hbb hT9 hb9 hk9 v0 v1 v2 v3 p0 p1 hnl hOn f0 n0 n1
                go_wp2_with (first
                  | (at_builtin; refine wpList_app _ eiInt (Value.int .i64) (fun _ => rfl) rfl _ _ rfl (fv + 2) _ _ _ _ rfl hownA _ _ _ _ rfl hone hk8 hbase ?_)
                  | fail)
                intro A11 c11 w11 ho11 hg11 hb11 _
                have hob : ∀ b, (Value.slice AA kk cc).ownBlock = some b → fv + 2 ≤ b := fun b e => by
                  rcases hownA.at_row with h1 | ⟨g', h1, h2, _⟩
                  · rw [h1] at e; cases e
                  · rw [h1] at e; have e3 : g' = b := Option.some.inj e; omega
                have hfv11 := (HY.out.2.2.1.alloc (.cells #[.int .i64 (t.1 : Int)] 3)).grown hg11 (by intro e; have := hob fv e.symm; omega)
                have hnw11 := (HY.out.2.2.2.1.alloc (.cells #[.int .i64 (t.1 : Int)] 3)).grown hg11 (by intro e; have := hob (fv + 1) e.symm; omega)
                have hbl11 : Below fv w4 w11 := (HY.out.2.2.2.2.1.alloc (by have := HY.out.2.2.2.2.1.size; omega) (.cells #[.int .i64 (t.1 : Int)] 3)).trans (hb11.mono (by omega))
                have ho11 : OwnR (Value.int .i64) w11 (fv + 2) 3 A11 (kk + 1) c11 (castL ((t :: s :: l).map (·.1)).reverse) := by
                  first
                    | (rw [lists_rev]; exact ho11)
                    | simpa [castL] using ho11
                have htw : Tw (toG Ps) given n x y fv ob A11 (kk + 1) c11 m t (s :: l) w4 w11 := ⟨.more hA.out.grd HY.out.1.1, ho11, hfv11, hnw11, hbl11, HY.out.1.2⟩
                have HE2 := Lib.hid htw
                clear htw ho11 hg11 hb11 hob hfv11 hnw11 hbl11 hownA hone
                go_wp2_with fail
                go_roundg m
                case measure => omega
                case rel => exact ⟨m, kk + 1, c11, A11, t, s :: l, Nat.le_refl _, rfl, (show Aside _ from HE2.out)⟩
  · have HE := Lib.hid hE
    have hbx := hbw.alloc hbw.size (.cells #[.slice A1 na ca, .slice Y1 nb cb, .slice Z1 k1 c1, .slice D1 k2 c2] 60)
    have HB := Lib.hid hbx
    clear hbw hbx hv
    go_wp2_with fail
    go_ret2
    refine ⟨none, 0, 0, rfl, ?_, HB.out⟩
    unfold trailW
    rw [if_neg HE.out]
    exact OwnR.nil _ _ _ _
end Go.Proofs.Ytdlnglffimcopaa
