/- The reference's Times, walked. Conditions: the lists read, within Go's bound. -/
import Derived.Test.YtgmchedfgdgenaaUnion
import Derived.Test.YtgmchedfgdgenaaJ14
import Derived.Test.YtgmchedfgdgenaaCheck
import Derived.Test.YtgmchedfgdgenaaFCellsM
import Derived.Deep.RegionHeld3
namespace Go.Proofs.Ytgmchedfgdgenaa
open Go.RowKit
attribute [local go_sem] Oper.semAt_some

/-- a pair of places -/
def pairE : Enc (Int × Int) 2 := ⟨fun p => [.int .i64 p.1, .int .i64 p.2], fun _ => rfl, fun p u hu => by simp at hu; rcases hu with rfl | rfl <;> rfl⟩
theorem eiP : EIM Try.prog 106 111 (.agg #[.int .i64 0, .int .i64 0]) 2 16 := .mk' Try.underlying106 (by kernel_rfl) rfl (by omega) (by omega)
/-- the two cells of which a cell of a product is made -/
def pairF (S1 Z1 S2 Z2 : List Int) (i : Nat) : Int × Int := (atS Z1 (S1.map (asg (uniL S1 S2) (dgL (uniZ S1 Z1 S2 Z2) i))), atS Z2 (S2.map (asg (uniL S1 S2) (dgL (uniZ S1 Z1 S2 Z2) i))))
def pairL (S1 Z1 S2 Z2 : List Int) (N : Nat) : List (Int × Int) := (List.range N).map (pairF S1 Z1 S2 Z2)
theorem pairL_succ (S1 Z1 S2 Z2 : List Int) (N : Nat) : pairL S1 Z1 S2 Z2 (N + 1) = pairL S1 Z1 S2 Z2 N ++ [pairF S1 Z1 S2 Z2 N] := by unfold pairL; rw [List.range_succ, List.map_append]; rfl
theorem part_atC1 {S1 Z1 S2 Z2 : List Int} (T1 : TabOk S1 Z1) (T2 : TabOk S2 Z2) (i : Nat) : atC Z1 (S1.map (asg (uniL S1 S2) (dgL (uniZ S1 Z1 S2 Z2) i))) = (atS Z1 (S1.map (asg (uniL S1 S2) (dgL (uniZ S1 Z1 S2 Z2) i))), 0) := by
  have h := part_atC (F := sizeF S1 Z1 S2 Z2) (asc_uni S1 S2) T1 (fun x hx => mem_uni.2 (.inl hx)) (fun j hj => sizeF_1 T1 hj) (uniZ_one T1 T2) i
  have h2 := (atC_zero h T1.one).1
  exact Prod.ext h2 h
theorem part_atC2 {S1 Z1 S2 Z2 : List Int} (T1 : TabOk S1 Z1) (T2 : TabOk S2 Z2) (hno : (uniL S1 S2).any (clash S1 Z1 S2 Z2) = false) (i : Nat) : atC Z2 (S2.map (asg (uniL S1 S2) (dgL (uniZ S1 Z1 S2 Z2) i))) = (atS Z2 (S2.map (asg (uniL S1 S2) (dgL (uniZ S1 Z1 S2 Z2) i))), 0) := by
  have h := part_atC (F := sizeF S1 Z1 S2 Z2) (asc_uni S1 S2) T2 (fun x hx => mem_uni.2 (.inr hx)) (fun j hj => sizeF_2 T2 hno hj) (uniZ_one T1 T2) i
  have h2 := (atC_zero h T2.one).1
  exact Prod.ext h2 h
theorem union_ok {S1 Z1 S2 Z2 : List Int} (h : unionErr S1 Z1 S2 Z2 = 0) : (uniL S1 S2).any (clash S1 Z1 S2 Z2) = false ∧ sufP (uniZ S1 Z1 S2 Z2) 0 ≤ 2147483647 := by
  unfold unionErr at h
  split at h
  · cases h
  · rename_i h1
    split at h
    · cases h
    · exact ⟨by simpa using h1, by omega⟩
def RTimesPost (A1 A2 : Option Addr) (n1 : Nat) (S1 Z1 : List Int) (m1 : Nat) (S2 Z2 : List Int) (m2 : Nat) (w : World) (e : Ending) (w' : World) : Prop :=
  (timesErr S1 Z1 m1 S2 Z2 m2 ≠ 0 ∧ e = .returned (.tuple #[.agg #[.slice none 0 0, .slice none 0 0, .int .i64 0], .slice none 0 0, .int .i64 (timesErr S1 Z1 m1 S2 Z2 m2)]) ∧ Below w.heap.size w w') ∨
  (timesErr S1 Z1 m1 S2 Z2 m2 = 0 ∧ ∃ A c B d C k, ∃ N : Nat, (N : Int) = sufP (uniZ S1 Z1 S2 Z2) 0 ∧ e = .returned (.tuple #[.agg #[.slice A (uniL S1 S2).length c, .slice B (uniL S1 S2).length d, .int .i64 (N : Int)], .slice C N k, .int .i64 0]) ∧
    Sl (Value.int .i64) w' A (uniL S1 S2).length (uniL S1 S2) ∧ Sl (Value.int .i64) w' B (uniL S1 S2).length (uniZ S1 Z1 S2 Z2) ∧ OwnM pairE w' w.heap.size 111 C N k (pairL S1 Z1 S2 Z2 N) ∧ ((A = A1 ∧ (uniL S1 S2).length = n1) ∨ ∀ g o, A = some ⟨g, o, none⟩ → w.heap.size ≤ g) ∧ ((B = A2 ∧ (uniL S1 S2).length = n1) ∨ ∀ g o, B = some ⟨g, o, none⟩ → w.heap.size ≤ g) ∧ Below w.heap.size w w')
set_option maxRecDepth 100000 in
set_option maxHeartbeats 4000000 in
theorem rtimes_any (A1 A2 B1 B2 : Option Addr) (n1 c1 n2 c2 m1 d1 m2 d2 k1 k2 : Nat) (S1 Z1 S2 Z2 : List Int) (w : World) (h1 : Sl (Value.int .i64) w A1 n1 S1) (h2 : Sl (Value.int .i64) w A2 n2 Z1) (h3 : Sl (Value.int .i64) w B1 m1 S2) (h4 : Sl (Value.int .i64) w B2 m2 Z2)
    (hb : (n1 + m1 + 1) * 8 ≤ 140737488351232) :
    Calls Try.prog 52 #[.agg #[.slice A1 n1 c1, .slice A2 n2 c2, .int .i64 (k1 : Int)], .agg #[.slice B1 m1 d1, .slice B2 m2 d2, .int .i64 (k2 : Int)]] w (RTimesPost A1 A2 n1 S1 Z1 k1 S2 Z2 k2 w) := by
  have HL := Lib.hid (And.intro h1.len (And.intro h2.len (And.intro h3.len h4.len)))
  have HI := Lib.hid (And.intro h1 h2)
  have big1 := h1.big
  have H0 := (((((((Held.init w).sl h1).sl h2).sl h3).sl h4).new 29 [.slice A1 n1 c1, .slice A2 n2 c2, .int .i64 (k1 : Int)]).new 29 [.slice B1 m1 d1, .slice B2 m2 d2, .int .i64 (k2 : Int)]).new 29 [.slice none 0 0, .slice none 0 0, .int .i64 0]
  simp only [World.size_alloc] at H0
  clear h1 h2 h3 h4
  have a0 := H0.has.2.2.1.cell 0
  have a1 := H0.has.2.2.1.cell 1
  have a2 := H0.has.2.2.1.cell 2
  go_enter Try.func52, Try.ntmps52
  go_wp2_with fail
  refine (rcheck_any A1 A2 n1 c1 n2 c2 (k1 : Int) S1 Z1 _ H0.has.2.2.2.2.2.2.1 H0.has.2.2.2.2.2.1).mono ?_
  rintro e w1 ⟨rfl, hb1⟩
  have H1 := H0.step hb1
  clear H0 hb1 a0 a1 a2
  have b0 := H1.has.2.1.cell 0
  have b1 := H1.has.2.1.cell 1
  have b2 := H1.has.2.1.cell 2
  go_wp2_with fail
  refine (rcheck_any B1 B2 m1 d1 m2 d2 (k2 : Int) S2 Z2 _ H1.has.2.2.2.2.1 H1.has.2.2.2.1).mono ?_
  rintro e w2 ⟨rfl, hb2⟩
  have H2 := H1.step hb2
  clear H1 hb2 b0 b1 b2
  generalize hck1 : checkC S1 Z1 k1 = ck1 at *
  generalize hck2 : checkC S2 Z2 k2 = ck2 at *
  have HK := Lib.hid (And.intro hck1 hck2)
  clear hck1 hck2
  by_cases hk1 : ck1 = 0
  · subst hk1
    by_cases hk2 : ck2 = 0
    · subst hk2
      obtain ⟨T1, hN1⟩ := checkC_ok HK.out.1
      obtain ⟨T2, hN2⟩ := checkC_ok HK.out.2
      obtain rfl : n2 = n1 := by have := T1.len; have := HL.out.1; have := HL.out.2.1; omega
      obtain rfl : m2 = m1 := by have := T2.len; have := HL.out.2.2.1; have := HL.out.2.2.2; omega
      have HT := Lib.hid (And.intro T1 T2)
      clear T1 T2 hN1 hN2
      have a0 := H2.has.2.2.1.cell 0
      have a1 := H2.has.2.2.1.cell 1
      have a2 := H2.has.2.2.1.cell 2
      have b0 := H2.has.2.1.cell 0
      have b1 := H2.has.2.1.cell 1
      have b2 := H2.has.2.1.cell 2
      go_wp2_with fail
      refine (union_any A1 A2 B1 B2 n2 c1 c2 m2 d1 d2 (k1 : Int) (k2 : Int) S1 Z1 S2 Z2 _ H2.has.2.2.2.2.2.2.1 H2.has.2.2.2.2.2.1 H2.has.2.2.2.2.1 H2.has.2.2.2.1 hb HT.out.1 HT.out.2).mono ?_
      intro e w3 hp
      unfold UnionPost at hp
      have heq := timesErr_union HK.out.1 HK.out.2
      rcases hp with ⟨hu, rfl, hb3⟩ | ⟨hu, A, c, B, d, rfl, sA, sB, oA, oB, hb3⟩
      · have H3 := (H2.step hb3).new 29 [.slice none 0 0, .slice none 0 0, .int .i64 0]
        obtain ⟨ue, hue⟩ : ∃ ue, ue = unionErr S1 Z1 S2 Z2 := ⟨_, rfl⟩
        rw [← hue] at hu heq ⊢
        have hnz := hu
        have hne : decide (ue = 0) = false := by simpa using hu
        have HQ := Lib.hid heq
        clear hb3 H2 hue heq hu a0 a1 a2 b0 b1 b2
        have x0 := H3.has.2.1.cell 0
        have x1 := H3.has.2.1.cell 1
        have x2 := H3.has.2.1.cell 2
        have f0 := H3.has.2.1.frozen 0
        have f1 := H3.has.2.1.frozen 1
        have f2 := H3.has.2.1.frozen 2
        have HE := Lib.hid H3
        clear H3
        go_wp2_with fail
        obtain ⟨wz, hwz⟩ : ∃ wz, wz = ((((w3.alloc (.cells #[.slice none 0 0, .slice none 0 0, .int .i64 0] 29)).setCell ⟨w.heap.size + 1 + 1, 0, none⟩ (.slice none 0 0)).setCell ⟨w.heap.size + 1 + 1, 1, none⟩ (.slice none 0 0)).setCell ⟨w.heap.size + 1 + 1, 2, none⟩ (.int .i64 0)) := ⟨_, rfl⟩
        obtain ⟨y0, y1, y2, hbz, htz⟩ := set3 HE.out.bel HE.out.has.2.1 (by omega) hwz
        rw [← hwz]
        exact bodyPost_ret (v := .tuple #[.agg #[.slice none 0 0, .slice none 0 0, .int .i64 0], .slice none 0 0, .int .i64 ue]) (by simp [results, Try.results52, go_sem, y0, y1, y2]) rfl (.inl ⟨by rw [HQ.out]; exact hnz, by rw [HQ.out], hbz⟩)
      · rw [hu] at heq
        obtain ⟨hno, hcnt⟩ := union_ok hu
        have hone := uniZ_one HT.out.1 HT.out.2
        have hsp := sufP_pos hone 0
        have p1 := fun i => part_atC1 HT.out.1 HT.out.2 i
        have p2 := fun i => part_atC2 HT.out.1 HT.out.2 hno i
        have hpl := pairL_succ S1 Z1 S2 Z2
        unfold pairF at hpl
        obtain ⟨U, hU⟩ : ∃ U, U = uniL S1 S2 := ⟨_, rfl⟩
        obtain ⟨UZ, hUZ⟩ : ∃ UZ, UZ = uniZ S1 Z1 S2 Z2 := ⟨_, rfl⟩
        rw [← hUZ] at hone hsp hcnt p1 p2 sB hpl
        rw [← hU] at sA sB p1 p2 hpl oA oB
        rw [← hU, ← hUZ]
        obtain ⟨u, huu⟩ : ∃ u, u = U.length := ⟨_, rfl⟩
        have hub : u ≤ n2 + m2 := by
          have h1 := uni_length_le S1 S2
          rw [← hU, ← huu, HL.out.1, HL.out.2.2.1] at h1
          exact h1
        rw [← huu] at sA sB oA oB ⊢
        obtain ⟨N, hN⟩ : ∃ N : Nat, sufP UZ 0 = (N : Int) := ⟨(sufP UZ 0).toNat, by omega⟩
        have hN1 : N ≤ 2147483647 := by omega
        have hN0 : 1 ≤ N := by omega
        rw [hN]
        have hnd := asc_nodup (asc_uni S1 S2)
        have hm1 : ∀ x, x ∈ S1 → x ∈ uniL S1 S2 := fun x hx => mem_uni.2 (.inl hx)
        have hm2 : ∀ x, x ∈ S2 → x ∈ uniL S1 S2 := fun x hx => mem_uni.2 (.inr hx)
        rw [← hU] at hnd hm1 hm2
        have hw2 : w.heap.size + 1 + 1 < w2.heap.size := H2.has.1.lt
        have HS := Lib.hid (And.intro hw2 hb3.size)
        have gA : 0 < u → ∀ g o, A = some ⟨g, o, none⟩ → ¬ (g = w.heap.size + 1 + 1) := fun hu0 g o e e2 => by
          rcases oA with ⟨oA, on⟩ | oA
          · obtain ⟨b, off, e3, hlt, _⟩ := HI.out.1.at' (by omega)
            rw [oA, e3] at e; injection e with e; injection e with e; omega
          · have := oA g o e; omega
        have gB : 0 < u → ∀ g o, B = some ⟨g, o, none⟩ → ¬ (g = w.heap.size + 1 + 1) := fun hu0 g o e e2 => by
          rcases oB with ⟨oB, on⟩ | oB
          · obtain ⟨b, off, e3, hlt, _⟩ := HI.out.2.at' (by omega)
            rw [oB, e3] at e; injection e with e; injection e with e; omega
          · have := oB g o e; omega
        have H4 := (((H2.step hb3).sl sA).sl sB).new 29 [.slice A u c, .slice B u d, .int .i64 (N : Int)]
        obtain ⟨wc, hwc⟩ : ∃ wc, wc = w3.alloc (.cells [.slice A u c, .slice B u d, .int .i64 (N : Int)].toArray 29) := ⟨_, rfl⟩
        have H4 : Held w _ wc := hwc ▸ H4
        have HC := Lib.hid H4
        have HU := Lib.hid (And.intro hU (And.intro hUZ (And.intro hone (And.intro hnd (And.intro hm1 (And.intro hm2 (And.intro hN (And.intro hcnt (And.intro heq huu)))))))))
        have HG := Lib.hid (And.intro gA (And.intro gB (And.intro (oA.imp id fun h g o e => show w.heap.size ≤ g by have := h g o e; omega) (oB.imp id fun h g o e => show w.heap.size ≤ g by have := h g o e; omega))))
        clear oA oB gA gB
        have HPA := Lib.hid (And.intro p1 (And.intro p2 hpl))
        have HW := Lib.hid hwc
        clear hU hUZ hone hnd hm1 hm2 hN hcnt heq huu p1 p2 hpl hsp hno sA sB hb3 H2 a0 a1 a2 b0 b1 b2 hu H4 hwc
        go_wp2_with fail
        rw [← show wc = w3.alloc (.cells #[.slice A u c, .slice B u d, .int .i64 (N : Int)] 29) from HW.out]
        go_loopw [11, 12] (fun l x wr => ∃ (i : Nat) (C : Option Addr) (k : Nat), i ≤ N ∧ x = .int .i64 (i : Nat) ∧ l = .slice C i k ∧ OwnM pairE wr wc.heap.size 111 C i k (pairL S1 Z1 S2 Z2 i) ∧ Below wc.heap.size wc wr) (fun _ x _ => N - (intOf x).toNat)
        case atStart => exact ⟨0, none, 0, Nat.zero_le _, rfl, rfl, OwnM.nil _ _ _ _, Below.refl _ _⟩
        case round =>
          obtain ⟨i, C, k, hi, rfl, rfl, hO, hbr⟩ := hrel
          have H := Held.and (Q := fun w => Below wc.heap.size wc w) (Held.and (Q := fun w => OwnM pairE w wc.heap.size 111 C i k (pairL S1 Z1 S2 Z2 i)) (HC.out.step hbr) hO) hbr
          have u0 := H.has.2.2.1.cell 0
          have u1 := H.has.2.2.1.cell 1
          have u2 := H.has.2.2.1.cell 2
          by_cases hlt : i < N
          · have hat1 := HPA.out.1 i
            have hat2 := HPA.out.2.1 i
            have hpl := HPA.out.2.2 i
            obtain ⟨P1, hP1⟩ : ∃ P1, P1 = atS Z1 (S1.map (asg U (dgL UZ i))) := ⟨_, rfl⟩
            obtain ⟨P2, hP2⟩ : ∃ P2, P2 = atS Z2 (S2.map (asg U (dgL UZ i))) := ⟨_, rfl⟩
            rw [← hP1] at hat1 hpl
            rw [← hP2] at hat2 hpl
            have HA1 := Lib.hid hat1
            have HA2 := Lib.hid hat2
            have HPL := Lib.hid hpl
            clear hat1 hat2 hpl hP1 hP2
            go_wp2_with fail
            refine (rdig_any B u d UZ i _ H.has.2.2.2.1 (by omega) HU.out.2.2.1 HU.out.2.2.2.2.2.2.2.1 (by rw [HU.out.2.2.2.2.2.2.1]; omega)).mono ?_
            rintro e w5 ⟨V, rfl, sV, hb5⟩
            have H5 := (H.step hb5).sl sV
            have HD := Lib.hid H5.drew
            have s0 := H5.has.2.2.2.2.2.2.2.2.1.cell 0
            have s1 := H5.has.2.2.2.2.2.2.2.2.1.cell 1
            have s2 := H5.has.2.2.2.1.cell 0
            clear H H5 sV hb5 u0 u1 u2 hO hbr
            go_wp2_with fail
            go_region_held3 (fun w' => w'.cell? ⟨w.heap.size, 0, none⟩ = some (.slice A1 n2 c1) ∧ w'.cell? ⟨w.heap.size, 1, none⟩ = some (.slice A2 n2 c2) ∧ w'.cell? ⟨w3.heap.size, 0, none⟩ = some (.slice A u c)) (first | assumption | exact ⟨s0, s1, s2⟩ | go_keep)
              (first
                | ((go_at_call 79); (refine (part_any A V A1 u c u n2 c1 U (dgL UZ i) S1 _ HD.out.has.2.2.2.2.2.1 HD.out.has.1 HD.out.has.2.2.2.2.2.2.2.2.2.2.2.2.1 (by omega) HU.out.2.2.2.1 HU.out.2.2.2.2.1).mono ?_); (rintro e w7 ⟨D7, q7, rfl, hoD, hbD⟩); (have GS := (HD.out.step hbD).own hoD); (have s0 := GS.has.2.2.2.2.2.2.2.2.2.1.cell 0); (have s1 := GS.has.2.2.2.2.2.2.2.2.2.1.cell 1); (have s2 := GS.has.2.2.2.2.1.cell 0))
                | ((go_at_call 78); (refine (rat_any A2 D7 n2 c2 n2 q7 Z1 (S1.map (asg U (dgL UZ i))) _ GS.has.2.2.2.2.2.2.2.2.2.2.2.2.1 (GS.has.1.sl (by omega)) HT.out.1.one HT.out.1.cnt).mono ?_); (rintro e w8 ⟨rfl, qq, rfl⟩); (rw [HA1.out]); (have GC := GS.drewN qq); (have s0 := GC.has.2.2.2.2.2.2.2.2.2.1.cell 0); (have s1 := GC.has.2.2.2.2.2.2.2.2.2.1.cell 1); (have s2 := GC.has.2.2.2.2.1.cell 0)))
            clear s0 s1 s2 GS hoD hbD
            have HD2 := Lib.hid GC.drew
            have s0 := GC.has.2.2.2.2.2.2.2.2.1.cell 0
            have s1 := GC.has.2.2.2.2.2.2.2.2.1.cell 1
            have s2 := GC.has.2.2.2.2.1.cell 0
            clear GC
            go_wp2_with fail
            go_region_held3 (fun w' => w'.cell? ⟨w.heap.size + 1, 0, none⟩ = some (.slice B1 m2 d1) ∧ w'.cell? ⟨w.heap.size + 1, 1, none⟩ = some (.slice B2 m2 d2) ∧ w'.cell? ⟨w3.heap.size, 0, none⟩ = some (.slice A u c)) (first | assumption | exact ⟨s0, s1, s2⟩ | go_keep)
              (first
                | ((go_at_call 79); (refine (part_any A V B1 u c u m2 d1 U (dgL UZ i) S2 _ HD2.out.has.2.2.2.2.2.2.1 HD2.out.has.2.1 HD2.out.has.2.2.2.2.2.2.2.2.2.2.2.1 (by omega) HU.out.2.2.2.1 HU.out.2.2.2.2.2.1).mono ?_); (rintro e w9 ⟨D9, q9, rfl, hoD, hbD⟩); (have GS := (HD2.out.step hbD).own hoD); (have s0 := GS.has.2.2.2.2.2.2.2.2.2.1.cell 0); (have s1 := GS.has.2.2.2.2.2.2.2.2.2.1.cell 1); (have s2 := GS.has.2.2.2.2.2.1.cell 0))
                | ((go_at_call 78); (refine (rat_any B2 D9 m2 d2 m2 q9 Z2 (S2.map (asg U (dgL UZ i))) _ GS.has.2.2.2.2.2.2.2.2.2.2.2.1 (GS.has.1.sl (by omega)) HT.out.2.one HT.out.2.cnt).mono ?_); (rintro e w10 ⟨rfl, qq, rfl⟩); (rw [HA2.out]); (have GC := GS.drewN qq); (have s0 := GC.has.2.2.2.2.2.2.2.2.2.1.cell 0); (have s1 := GC.has.2.2.2.2.2.2.2.2.2.1.cell 1); (have s2 := GC.has.2.2.2.2.2.1.cell 0)))
            clear s0 s1 s2 GS hoD hbD
            have hO := GC.has.2.2.2.2.1
            have hbr := GC.has.2.2.2.1
            have hsz : wc.heap.size ≤ _ := (hbr.alloc hbr.size (.cells #[.int .i64 P1, .int .i64 P2] 111)).size
            have ho1 := hO.alloc (.cells #[.int .i64 P1, .int .i64 P2] 111)
            have hq8 : (i + 1) * 16 ≤ 140737488355328 := by omega
            have HR := Lib.hid hbr
            clear GC hO hbr
            go_wp2_with (first
              | (at_builtin; refine wpList_appM _ eiP pairE rfl _ _ rfl wc.heap.size _ _ _ _ rfl ho1 _ _ (P1, P2) rfl (newM pairE _ _ (P1, P2)) hq8 hsz ?_)
              | fail)
            intro C9 k9 w9 ho9 _ hb9 _
            rw [← HPL.out] at ho9
            have HR := Lib.hid (And.intro ho9 ((HR.out.alloc HR.out.size (.cells #[.int .i64 P1, .int .i64 P2] 111)).trans hb9))
            clear ho9 hb9 ho1 hsz hq8
            go_wp2_with fail
            exact ⟨⟨i + 1, C9, k9, by omega, by go_num, rfl, HR.out.1, HR.out.2⟩, by simp [intOf]; omega⟩
          · obtain rfl : i = N := by omega
            have hres := H.has.2.2.2.2.2.1
            have x0 := hres.cell 0
            have x1 := hres.cell 1
            have x2 := hres.cell 2
            have f0 := hres.frozen 0
            have f1 := hres.frozen 1
            have f2 := hres.frozen 2
            have HE := Lib.hid H
            have hwc : w2.heap.size ≤ wc.heap.size := by
              have := HC.out.has.1.lt
              have := HS.out
              omega
            have HWC := Lib.hid hwc
            clear H hO hbr hres hwc
            go_wp2_with fail
            obtain ⟨wz, hwz⟩ : ∃ wz, wz = (((wr.setCell ⟨w.heap.size + 1 + 1, 0, none⟩ (.slice A u c)).setCell ⟨w.heap.size + 1 + 1, 1, none⟩ (.slice B u d)).setCell ⟨w.heap.size + 1 + 1, 2, none⟩ (.int .i64 (i : Int))) := ⟨_, rfl⟩
            obtain ⟨y0, y1, y2, hbz, htz⟩ := set3 HE.out.bel HE.out.has.2.2.2.2.2.1 (by omega) hwz
            rw [← hwz]
            refine bodyPost_ret (v := .tuple #[.agg #[.slice A u c, .slice B u d, .int .i64 (i : Int)], .slice C i k, .int .i64 0]) (by simp [results, Try.results52, go_sem, y0, y1, y2]) rfl (.inr ⟨HU.out.2.2.2.2.2.2.2.2.1, A, c, B, d, C, k, i, ?_, ?_, ?_, ?_, ?_, ?_, ?_, hbz⟩)
            · rw [← HU.out.2.1]; exact HU.out.2.2.2.2.2.2.1.symm
            · rw [← HU.out.1, ← HU.out.2.2.2.2.2.2.2.2.2]
            · rw [← HU.out.1, ← HU.out.2.2.2.2.2.2.2.2.2]
              exact HE.out.has.2.2.2.2.1.turnC htz HG.out.1
            · rw [← HU.out.1, ← HU.out.2.1, ← HU.out.2.2.2.2.2.2.2.2.2]
              exact HE.out.has.2.2.2.1.turnC htz HG.out.2.1
            · have ho := HE.out.has.2.1
              exact (ho.turn htz (fun g o e e2 => by have := ho.geT e; have := HWC.out; have := HS.out; omega)).mono (by have := HWC.out; have := HS.out; omega)
            · rw [← HU.out.1, ← HU.out.2.2.2.2.2.2.2.2.2]; exact HG.out.2.2.1
            · rw [← HU.out.1, ← HU.out.2.2.2.2.2.2.2.2.2]; exact HG.out.2.2.2
    · have hnz := hk2
      have hne : decide (ck2 = 0) = false := by simpa using hk2
      have hq : timesErr S1 Z1 k1 S2 Z2 k2 = ck2 := by unfold timesErr; rw [HK.out.1, HK.out.2]; simp [hk2]
      have HQ := Lib.hid hq
      clear hq hk2
      have x0 := H2.has.1.cell 0
      have x1 := H2.has.1.cell 1
      have x2 := H2.has.1.cell 2
      have f0 := H2.has.1.frozen 0
      have f1 := H2.has.1.frozen 1
      have f2 := H2.has.1.frozen 2
      have HE := Lib.hid H2
      clear H2
      go_wp2_with fail
      obtain ⟨wz, hwz⟩ : ∃ wz, wz = (((w2.setCell ⟨w.heap.size + 1 + 1, 0, none⟩ (.slice none 0 0)).setCell ⟨w.heap.size + 1 + 1, 1, none⟩ (.slice none 0 0)).setCell ⟨w.heap.size + 1 + 1, 2, none⟩ (.int .i64 0)) := ⟨_, rfl⟩
      obtain ⟨y0, y1, y2, hbz, htz⟩ := set3 HE.out.bel HE.out.has.1 (by omega) hwz
      rw [← hwz]
      exact bodyPost_ret (v := .tuple #[.agg #[.slice none 0 0, .slice none 0 0, .int .i64 0], .slice none 0 0, .int .i64 ck2]) (by simp [results, Try.results52, go_sem, y0, y1, y2]) rfl (.inl ⟨by rw [HQ.out]; exact hnz, by rw [HQ.out], hbz⟩)
  · have hnz := hk1
    have hne : decide (ck1 = 0) = false := by simpa using hk1
    have hq : timesErr S1 Z1 k1 S2 Z2 k2 = ck1 := by unfold timesErr; rw [HK.out.1]; simp [hk1]
    have HQ := Lib.hid hq
    clear hq hk1
    have x0 := H2.has.1.cell 0
    have x1 := H2.has.1.cell 1
    have x2 := H2.has.1.cell 2
    have f0 := H2.has.1.frozen 0
    have f1 := H2.has.1.frozen 1
    have f2 := H2.has.1.frozen 2
    have HE := Lib.hid H2
    clear H2
    go_wp2_with fail
    obtain ⟨wz, hwz⟩ : ∃ wz, wz = (((w2.setCell ⟨w.heap.size + 1 + 1, 0, none⟩ (.slice none 0 0)).setCell ⟨w.heap.size + 1 + 1, 1, none⟩ (.slice none 0 0)).setCell ⟨w.heap.size + 1 + 1, 2, none⟩ (.int .i64 0)) := ⟨_, rfl⟩
    obtain ⟨y0, y1, y2, hbz, htz⟩ := set3 HE.out.bel HE.out.has.1 (by omega) hwz
    rw [← hwz]
    exact bodyPost_ret (v := .tuple #[.agg #[.slice none 0 0, .slice none 0 0, .int .i64 0], .slice none 0 0, .int .i64 ck1]) (by simp [results, Try.results52, go_sem, y0, y1, y2]) rfl (.inl ⟨by rw [HQ.out]; exact hnz, by rw [HQ.out], hbz⟩)
end Go.Proofs.Ytgmchedfgdgenaa
