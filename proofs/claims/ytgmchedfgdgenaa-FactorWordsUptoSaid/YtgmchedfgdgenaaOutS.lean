/- factor.Out at string, walked. Conditions: the lists read, within Go's bound; the cells may be added. -/
import Derived.Test.YtgmchedfgdgenaaJ10
import Derived.Test.YtgmchedfgdgenaaJ8
import Derived.Test.YtgmchedfgdgenaaWithoutS
import Derived.Test.YtgmchedfgdgenaaFirstsS
namespace Go.Proofs.Ytgmchedfgdgenaa
open Go.RowKit
attribute [local go_sem] Oper.semAt_some

/-- the cells that are added to cell t, the first k of them -/
def partL_s (L : List ByteArray) (z step t k : Nat) : List ByteArray := (List.range k).map fun j => nth L ((firstF z step t).toNat + j * step)
def outL_s (L : List ByteArray) (z step m : Nat) : List ByteArray := (List.range m).map fun t => foldF_s zeroF_s (partL_s L z step t z)
def OutPost_s (S Z : List Int) (L : List ByteArray) (v : Int) (w : World) (e : Ending) (w' : World) : Prop :=
  (outErr S Z L.length v ≠ 0 ∧ e = .returned (.tuple #[.agg #[.slice none 0 0, .slice none 0 0, .slice none 0 0], .int .i64 (outErr S Z L.length v)]) ∧ Below w.heap.size w w') ∨
  (outErr S Z L.length v = 0 ∧ ∃ i z step P : Nat, OutAt S Z v L.length i z step P ∧ ∃ A c B d C k, e = .returned (.tuple #[.agg #[.slice A (S.length - 1) c, .slice B (S.length - 1) d, .slice C (P * step) k], .int .i64 0]) ∧
    Trio (Value.int .i64) (Value.int .i64) (Value.string) w' w.heap.size 3 3 9 A (S.length - 1) c (S.take i ++ S.drop (i + 1)) B (S.length - 1) d (Z.take i ++ Z.drop (i + 1)) C (P * step) k (outL_s L z step (P * step)) ∧ Below w.heap.size w w')
set_option maxRecDepth 100000 in
set_option maxHeartbeats 4000000 in
theorem out_s (A1 A2 A3 : Option Addr) (n1 c1 n2 c2 n3 c3 : Nat) (S Z : List Int) (L : List ByteArray) (v : Int) (w : World)
    (h1 : Sl (Value.int .i64) w A1 n1 S) (h2 : Sl (Value.int .i64) w A2 n2 Z) (h3 : Sl (Value.string) w A3 n3 L) (hb : n1 * 8 ≤ 140737488351232) (hc2 : n2 ≤ c2)
    (hsum : ∀ i z step P, OutAt S Z v L.length i z step P → ∀ t, t < P * step → FoldOk_s zeroF_s (partL_s L z step t z)) :
    Calls Try.prog 55 #[.iface 45 (.agg #[]), .agg #[.slice A1 n1 c1, .slice A2 n2 c2, .slice A3 n3 c3], .int .i64 v] w (OutPost_s S Z L v w) := by
  have HL := Lib.hid (And.intro h1.len (And.intro h2.len (And.intro h3.len hsum)))
  have HI := Lib.hid (And.intro h1 (And.intro h2 h3))
  have big1 := h3.big
  have H0 := (((((Held.init w).sl h1).sl h2).sl h3).new 33 [.slice A1 n1 c1, .slice A2 n2 c2, .slice A3 n3 c3]).new 33 [.slice none 0 0, .slice none 0 0, .slice none 0 0]
  simp only [World.size_alloc] at H0
  clear h1 h2 h3 hsum
  have hni := isNilT_s
  have a0 := H0.has.2.1.cell 0
  have a1 := H0.has.2.1.cell 1
  have a2 := H0.has.2.1.cell 2
  go_enter Try.func55, Try.ntmps55
  go_wp2_with fail
  obtain ⟨l1, l2, l3, hsum⟩ := HL.out
  have HM := Lib.hid hsum
  clear hsum
  refine (check_s A1 A2 A3 n1 c1 n2 c2 n3 c3 S Z _ H0.has.2.2.2.2.1 H0.has.2.2.2.1 big1).mono ?_
  rintro e w1 ⟨rfl, hb1⟩
  have H1 := H0.step hb1
  clear H0 hb1 a0 a1 a2
  generalize hck1 : checkC S Z n3 = ck1 at *
  by_cases hk1 : ck1 = 0
  · subst hk1
    obtain ⟨T1, hN1⟩ := checkC_ok hck1
    have a0 := H1.has.2.1.cell 0
    have hn12 : n1 * 8 ≤ 140737488355328 := by omega
    have HC1 := Lib.hid hck1
    clear hck1
    have HT := Lib.hid (And.intro T1 hN1)
    have HA := Lib.hid T1.asc
    clear T1 hN1
    go_wp2_with fail
    refine (SoI.bs_any A1 n1 c1 S v _ H1.has.2.2.2.2.1 HA.out).mono ?_
    rintro e w2 ⟨i, rfl, hpl, rfl⟩
    rcases hin : isIn cmpI v S with _ | _
    · have x0 := (H1.has.1).cell 0
      have x1 := (H1.has.1).cell 1
      have x2 := (H1.has.1).cell 2
      have f0 := (H1.has.1).frozen 0
      have f1 := (H1.has.1).frozen 1
      have f2 := (H1.has.1).frozen 2
      have HE := Lib.hid (And.intro H1 hin)
      clear H1 hin hpl
      go_wp2_with fail
      obtain ⟨wz, hwz⟩ : ∃ wz, wz = (((w1.setCell ⟨w.heap.size + 1, 0, none⟩ (.slice none 0 0)).setCell ⟨w.heap.size + 1, 1, none⟩ (.slice none 0 0)).setCell ⟨w.heap.size + 1, 2, none⟩ (.slice none 0 0)) := ⟨_, rfl⟩
      obtain ⟨y0, y1, y2, hbz, htz⟩ := set3 HE.out.1.bel HE.out.1.has.1 (by omega) hwz
      rw [← hwz]
      exact bodyPost_ret (v := .tuple #[.agg #[.slice none 0 0, .slice none 0 0, .slice none 0 0], .int .i64 61]) (by simp [results, Try.results55, go_sem, y0, y1, y2]) rfl (.inl ⟨by unfold outErr; rw [l3, HC1.out, HE.out.2]; simp, by unfold outErr; rw [l3, HC1.out, HE.out.2]; simp, hbz⟩)
    · have hmem : v ∈ S := by
        obtain ⟨y, hy, h0⟩ := isIn_iff.1 hin
        rw [cmpI_zero] at h0
        subst h0
        exact hy
      obtain ⟨hi, hv⟩ := bs_at hpl HA.out hmem
      subst hv
      obtain ⟨z, step, P, hO⟩ := outAt_of HT.out.1 HT.out.2 hi
      have hs := hO.apart
      have hz := hO.size
      have hz1 := hO.z1
      have hs1 := hO.s1
      have hn3 := hO.m
      have hm3 : sufP Z 0 ≤ 2147483647 := HT.out.1.cnt
      have hn32 : n3 ≤ 2147483647 := by have := HT.out.2; omega
      obtain rfl : n2 = n1 := by have := HT.out.1.len; omega
      rw [l1] at hi
      have HO := Lib.hid (And.intro hO (And.intro hs (And.intro hz (And.intro hn3 hm3))))
      have HIN := Lib.hid hin
      have hw1 : w.heap.size + 1 < w1.heap.size := H1.has.1.lt
      clear hO hs hz hn3 hm3 hpl hin hmem
      have a1 := H1.has.2.1.cell 1
      have a2 := H1.has.2.1.cell 2
      go_wp2_with fail
      refine (without_s A1 A2 A3 n2 c1 c2 n3 c3 i S Z _ H1.has.2.2.2.2.1 H1.has.2.2.2.1 hi hb HT.out.1.one HO.out.2.2.2.2 hc2).mono ?_
      rintro e w2 ⟨B, d, C, k, rfl, hoB, hoC, hdis, hb2⟩
      rw [HO.out.2.1]
      have H2 := ((H1.step hb2).own hoB).own hoC
      have HB := Lib.hid (And.intro hdis H2)
      clear hoB hoC hb2 H1 a0 a1 a2
      have H3 := H2.new 33 [.slice B (n2 - 1) d, .slice C (n2 - 1) k, .slice none 0 0]
      have a0 := H3.has.2.2.2.2.1.cell 0
      have a1 := H3.has.2.2.2.2.1.cell 1
      have a2 := H3.has.2.2.2.2.1.cell 2
      clear hdis
      go_wp2_with fail
      refine (firsts_s A1 A2 A3 n2 c1 c2 n3 c3 i z step P Z _ H3.has.2.2.2.2.2.2.1 hi HO.out.2.2.1 hz1 hs1 HO.out.2.2.2.1 hn32).mono ?_
      rintro e w4 ⟨F, fd, rfl, hoF, hb4⟩
      have H4 := (H3.step hb4).own hoF
      clear hoF hb4 H3 H2 a0 a1 a2
      have HT4 := Lib.hid H4
      obtain ⟨m, hm⟩ : ∃ m, m = P * step := ⟨_, rfl⟩
      rw [← hm] at HT4 ⊢
      have hmb : m ≤ 2147483647 := by
        have h1 := HO.out.2.2.2.1
        have h2 : P * step ≤ P * step * z := Nat.le_mul_of_pos_right _ hz1
        rw [Nat.mul_assoc] at h2
        omega
      have HM2 := Lib.hid hm
      clear hm H4
      go_wp2_with fail
      have hpp : w.heap.size + 1 < w2.heap.size := HB.out.2.has.2.2.1.lt
      go_loopw [53] (fun c wr => ∃ (t : Nat) (C' : Option Addr) (kk : Nat), t ≤ m ∧ c = .int .i64 (t : Nat) ∧ OutLp (Value.string) 33 9 w4 w2.heap.size (.slice B (n2 - 1) d) (.slice C (n2 - 1) k) wr C' t kk (outL_s L z step t)) (fun c _ => m - (intOf c).toNat)
      case atStart => exact ⟨0, none, 0, Nat.zero_le _, rfl, Turn.refl _ _, HT4.out.has.2.1, OwnR.nil _ _ _ _, HT4.out.has.2.1.lt⟩
      case round =>
        obtain ⟨t, C', kk, ht, rfl, lp⟩ := hrel
        obtain ⟨wo, hwo⟩ : ∃ wo : World, wo = wr := ⟨_, rfl⟩
        subst hwo
        have LP := Lib.hid lp
        have hwo4 := lp.tu.size
        have hpw : w2.heap.size < w4.heap.size := HT4.out.has.2.1.lt
        by_cases hlt : t < m
        · have ff := HT4.out.has.1
          have fge : ∀ g o, F = some ⟨g, o, none⟩ → ¬ (g = w2.heap.size) := fun g o e1 e2 => by
            rcases ff.at_row with h1 | ⟨g', h1, h2, _⟩
            · rw [e1] at h1; cases h1
            · rw [e1] at h1; injection h1 with h1; injection h1 with h1; subst h1; simp at h2; omega
          obtain ⟨fb, fo, rfl, _, hfc⟩ := ((ff.sl (by omega)).turn lp.tu fge).at' (by omega)
          have g1 := hfc t hlt
          rw [nth_firstL hlt] at g1
          clear hfc fge ff
          have lo : ∀ {α : Type} [Inhabited α] {enc : α → Value} {A : Option Addr} {n : Nat} {xs : List α}, 0 < n → Sl enc w A n xs → Sl enc w4 A n xs → Sl enc wo A n xs ∧ ∀ g o, A = some ⟨g, o, none⟩ → g < w.heap.size := fun hn h h4 => by
            obtain ⟨b, off, e, hlt, _⟩ := h.at' hn
            exact ⟨h4.turn lp.tu (fun g o e1 e2 => by rw [e] at e1; injection e1 with e1; injection e1 with e1; omega), fun g o e1 => by rw [e] at e1; injection e1 with e1; injection e1 with e1; omega⟩
          have hn3 : 0 < n3 := by
            have h1 := HO.out.1.first_lt (t := t) (by rw [← HM2.out]; exact hlt) (k := 0) (by omega)
            omega
          obtain ⟨sZ, ltZ⟩ := lo (by omega) HI.out.2.1 HT4.out.has.2.2.2.2.2.2.2.1
          obtain ⟨sL, ltL⟩ := lo hn3 HI.out.2.2 HT4.out.has.2.2.2.2.2.2.1
          obtain ⟨zb, zo, rfl, _, hzc⟩ := sZ.at' (by omega)
          obtain ⟨lb, lp', rfl, _, hlc⟩ := sL.at' hn3
          have abx := HT4.out.has.2.2.2.2.2.1.turn lp.tu (show ¬ (w.heap.size = w2.heap.size) by omega)
          have q1 := abx.cell 1
          have q2 := abx.cell 2
          have g2 := hzc i hi
          rw [HO.out.2.2.1] at g2
          have hzb := ltZ _ _ rfl
          have hlb := ltL _ _ rfl
          obtain ⟨f, hf⟩ : ∃ f : Nat, firstF z step t = (f : Int) := ⟨(firstF z step t).toNat, by have := firstF_nonneg z step t; omega⟩
          rw [hf] at g1
          have hfl : ∀ k, k < z → f + k * step < n3 := fun k hk => by
            have h1 := HO.out.1.first_lt (t := t) (by rw [← HM2.out]; exact hlt) hk
            rw [hf] at h1
            simpa using h1
          have hpl : ∀ k, k ≤ z → partL_s L z step t k = (List.range k).map fun j => nth L (f + j * step) := fun k _ => by unfold partL_s; rw [hf]; rfl
          have hzn : z ≤ n3 := by
            have h1 := HO.out.2.2.2.1
            have h2 : step * z ≤ P * (step * z) := Nat.le_mul_of_pos_left _ (by
              rcases Nat.eq_zero_or_pos P with h | h
              · rw [h, Nat.zero_mul] at h1; omega
              · exact h)
            have h3 : z ≤ step * z := Nat.le_mul_of_pos_left _ hs1
            omega
          have hzq : 16 * z ≤ 281474976710656 := by omega
          have HC := Lib.hid (And.intro hlc (And.intro abx (And.intro hfl (And.intro hpl hf))))
          clear hlc abx hzc sZ sL ltZ ltL lo hfl hpl hf lp
          go_wp2_with (first
            | (refine wpList_mk0 _ eiSt (Value.string) rfl _ _ rfl z rfl rfl hzq ?_)
            | fail)
          intro w5 hr hb5
          have hsz5 := hb5.size
          have q1 : w5.cell? ⟨w.heap.size, 1, none⟩ = some _ := (hb5.cell (p := ⟨w.heap.size, 1, none⟩) (by show w.heap.size < _; omega)).trans q1
          have q2 : w5.cell? ⟨w.heap.size, 2, none⟩ = some _ := (hb5.cell (p := ⟨w.heap.size, 2, none⟩) (by show w.heap.size < _; omega)).trans q2
          have g2 : w5.cell? ⟨zb, zo + i, none⟩ = some _ := (hb5.cell (p := ⟨zb, zo + i, none⟩) (by show zb < _; omega)).trans g2
          have HR := Lib.hid (And.intro hr hb5)
          clear hr hb5 g1
          go_wp2_with fail
          clear q1 q2 g2
          go_loopw [17, 68] (fun ps c wr => ∃ (k : Nat) (D : Option Addr) (dd : Nat), k ≤ z ∧ c = .int .i64 (k : Nat) ∧ ps = .slice D k dd ∧ OwnR (Value.string) wr wo.heap.size 9 D k dd (partL_s L z step t k) ∧ Below wo.heap.size wo wr) (fun _ c _ => z - (intOf c).toNat)
          case atStart => exact ⟨0, _, _, Nat.zero_le _, rfl, rfl, HR.out.1, HR.out.2⟩
          case round =>
            obtain ⟨k, D, dd, hk, rfl, rfl, ho, hbr⟩ := hrel
            have hszr := hbr.size
            by_cases hkz : k < z
            · have hfq := HC.out.2.2.1 k hkz
              obtain ⟨q, hq⟩ : ∃ q, q = k * step := ⟨_, rfl⟩
              rw [← hq] at hfq
              have hqw : IntKind.i64.wrap ((k : Int) * (step : Int)) = (q : Int) := by
                rw [← Int.natCast_mul, ← hq]
                simp [IntKind.wrap, IntKind.bits, IntKind.signed]; omega
              have HQ := Lib.hid hq
              clear hq
              have abx := HC.out.2.1.below hbr (by omega)
              have q2 := abx.cell 2
              have g3 : wr.cell? ⟨lb, lp' + (f + q), none⟩ = some (Value.string (nth L (f + q))) := (hbr.cell (p := ⟨lb, lp' + (f + q), none⟩) (by show lb < _; omega)).trans (HC.out.1 (f + q) hfq)
              have hstep : partL_s L z step t (k + 1) = partL_s L z step t k ++ [nth L (f + q)] := by
                rw [HC.out.2.2.2.1 (k + 1) hkz, HC.out.2.2.2.1 k hk, List.range_succ, List.map_append, HQ.out]; rfl
              have ho1 := ho.alloc (.cells #[Value.string (nth L (f + q))] 9)
              have hsz : wo.heap.size ≤ (wr.alloc (.cells #[Value.string (nth L (f + q))] 9)).heap.size := by simp; omega
              have hq8 : (k + 1) * 16 ≤ 140737488355328 := by omega
              have HS := Lib.hid (And.intro hstep (hbr.alloc hszr (.cells #[Value.string (nth L (f + q))] 9)))
              clear ho hbr abx hstep
              go_wp2_with (first
                | (at_builtin; refine wpList_app _ eiSt (Value.string) (fun _ => rfl) rfl _ _ rfl wo.heap.size _ _ _ _ rfl ho1 _ _ _ _ rfl (Sl.one (enc := Value.string) _ _ _) hq8 hsz ?_)
                | fail)
              intro C9 k9 w9 ho9 _ hb9 _
              have ho9 : OwnR (Value.string) w9 wo.heap.size 9 C9 (k + 1) k9 (partL_s L z step t (k + 1)) := by rw [HS.out.1]; exact ho9
              have HR := Lib.hid (And.intro ho9 (HS.out.2.trans hb9))
              clear ho9 hb9 ho1 hsz hq8
              go_wp2_with fail
              exact ⟨⟨k + 1, C9, k9, by omega, by go_num, rfl, HR.out.1, HR.out.2⟩, by simp [intOf]; omega⟩
            · obtain rfl : k = z := by omega
              have lq := LP.out.below HR.out.2
              have lp := LP.out.below hbr
              have p2 := lp.box.cell 2
              have hsum := HM.out i k step P (by rw [l3]; exact HO.out.1) t (by rw [← HM2.out]; exact hlt)
              have HD := Lib.hid lp.drew
              have HB2 := Lib.hid (And.intro ho hbr)
              have sp := ho.sl (by omega)
              clear lq
              go_wp2_with fail
              have HS := Lib.hid (show Sl (Value.string) wr.drew D k (partL_s L k step t k) from sp.drewN 1)
              obtain ⟨⟨ix, e1, e2, e3, e4, e5⟩, _, _⟩ := eiSt
              have hk1 : t + 1 ≤ maxLen := by unfold maxLen; omega
              have hk2 : (t + 1) * 16 ≤ 140737488355328 := by omega
              clear sp ho hbr lp g2
              go_upto_region 20 with fail
--R
              refine wp_region_lastL (S := fun w' => w'.cell? ⟨w2.heap.size, 2, none⟩ = some (.slice C' t kk)) 8 8 (by kernel_rfl) rfl rfl rfl (by kernel_rfl) ?hS1 (fun hHeld => ?rest1)
              case hS1 => (first | assumption | exact p2 | exact p5 | exact p6 | exact p9 | go_keep)
              refine wpAnyH_takeL (i := 0) (v := ?v2) rfl (by kernel_rfl) (by kernel_rfl) (by kernel_rfl) (fun _ _ _ h => h) (by rfl) ?hy2 (by assumption) ?rest2
              case hy2 => (intro w hSw; (try dsimp only at hSw); go_simp; try with_reducible rfl)
              try simp only [Act.put, List.setIfInBounds_toArray, List.set_cons_zero, List.set_cons_succ]
              refine wpAnyH_takeL (i := 1) (v := ?v3) rfl (by kernel_rfl) (by kernel_rfl) (by kernel_rfl) (fun _ _ _ h => h) (by rfl) ?hy3 (by assumption) ?rest3
              case hy3 => (intro w hSw; (try dsimp only at hSw); go_simp; try with_reducible rfl)
              try simp only [Act.put, List.setIfInBounds_toArray, List.set_cons_zero, List.set_cons_succ]
              refine wpAnyH_takeL (i := 2) (v := ?v4) rfl (by kernel_rfl) (by kernel_rfl) (by kernel_rfl) (fun _ _ _ h => h) (by rfl) ?hy4 (by assumption) ?rest4
              case hy4 => (intro w hSw; (try dsimp only at hSw); go_simp; try with_reducible rfl)
              try simp only [Act.put, List.setIfInBounds_toArray, List.set_cons_zero, List.set_cons_succ]
              refine wpAnyH_takeL (i := 3) (v := ?v5) rfl (by kernel_rfl) (by kernel_rfl) (by kernel_rfl) (fun _ _ _ h => h) (by rfl) ?hy5 (by assumption) ?rest5
              case hy5 => (intro w hSw; (try dsimp only at hSw); go_simp; try with_reducible rfl)
              try simp only [Act.put, List.setIfInBounds_toArray, List.set_cons_zero, List.set_cons_succ]
              refine wpAnyH_ready (rs := [4]) (by kernel_rfl) (by simp) (consL rfl (fun K hK => ?step6))
              (go_simp; (refine (sum_s D k dd _ _ HS.out hsum).mono ?_); (rintro e w7 ⟨rfl, hb7⟩); (have P5 := HD.out.below hb7); (have p5 := P5.box.cell 2); (have P6 := P5.alloc (.cells #[Value.string (foldF_s zeroF_s (partL_s L k step t k))] 9)); (have p6 := P6.box.cell 2); (have hz6 := P6.tu.size))
              refine hK.out _ _ ?hS6 (fun hHeld => ?rest6)
              case hS6 => (first | assumption | exact p2 | exact p5 | exact p6 | exact p9 | go_keep)
              clear hK K
              try simp only [Act.put, List.setIfInBounds_toArray, List.set_cons_zero, List.set_cons_succ]
              refine wpAnyH_ready (rs := [5]) (by kernel_rfl) (by simp) (consL rfl (fun K hK => ?step7))
              go_simp
              refine hK.out _ _ ?hS7 (fun hHeld => ?rest7)
              case hS7 => (first | assumption | exact p2 | exact p5 | exact p6 | exact p9 | go_keep)
              clear hK K
              try simp only [Act.put, List.setIfInBounds_toArray, List.set_cons_zero, List.set_cons_succ]
              refine wpAnyH_ready (rs := [6]) (by kernel_rfl) (by simp) (consL rfl (fun K hK => ?step8))
              (refine step_append_sl _ (Value.string) (fun _ => rfl) (by rfl) (.tmp 85) (.tmp 89) 31 (by rfl) w4.heap.size 9 ix (.string ⟨#[]⟩) 16 e1 e2 e3 e4 e5 (by rfl) C' t kk (outL_s L k step t) (by rfl) P6.cells _ 1 1 [foldF_s zeroF_s (partL_s L k step t k)] (by rfl) (Sl.one (enc := Value.string) _ _ _) hk1 hk2 hz6 ?_; intro C9 k9 w9 ho9 hg9 hb9 hd9; have hrow9 := P6.box.turn (Turn.of_grown hg9) (fun e => by have := (P6.cells.geT (P6.cells.block_eq e)).1; have := P6.pw; omega); have p9 := hrow9.cell 2; have f9 := hrow9.frozen 2)
              refine hK.out _ _ ?hS8 (fun hHeld => ?rest8)
              case hS8 => (first | assumption | exact p2 | exact p5 | exact p6 | exact p9 | go_keep)
              clear hK K
              try simp only [Act.put, List.setIfInBounds_toArray, List.set_cons_zero, List.set_cons_succ]
              refine wpAnyH_takeL (i := 7) (v := ?v9) rfl (by kernel_rfl) (by kernel_rfl) (by kernel_rfl) (fun _ _ _ h => h) (by rfl) ?hy9 (by assumption) ?rest9
              case hy9 => (intro w hSw; (try dsimp only at hSw); go_simp; try with_reducible rfl)
              try simp only [Act.put, List.setIfInBounds_toArray, List.set_cons_zero, List.set_cons_succ]
              refine wpAnyH_done (by kernel_rfl) ?_ _
              unfold AheadOf
              go_simp
--RE
              have P7 := P6.app (ys := outL_s L k step (t + 1)) (by unfold outL_s at ho9 ⊢; rw [List.range_succ, List.map_append]; exact ho9) hg9
              have HR := Lib.hid P7
              clear P6 P5 P7 ho9 hg9 hb9 hd9 hb7 hrow9 p9 f9 p5 p6 p2 HS
              go_wp2_with fail
              exact ⟨⟨t + 1, C9, k9, by omega, by go_num, HR.out⟩, by simp [intOf]; omega⟩
        · obtain rfl : t = m := by omega
          have rbx := HT4.out.has.2.2.2.2.1.turn lp.tu (show ¬ (w.heap.size + 1 = w2.heap.size) by omega)
          have BB : Below w.heap.size w wo := HT4.out.bel.trans (lp.tu.below (by omega) (fun x hx e => by omega))
          have p0 := lp.box.cell 0
          have p1 := lp.box.cell 1
          have p2 := lp.box.cell 2
          have x0 := rbx.cell 0
          have x1 := rbx.cell 1
          have x2 := rbx.cell 2
          have f0 := rbx.frozen 0
          have f1 := rbx.frozen 1
          have f2 := rbx.frozen 2
          have HE := Lib.hid (And.intro rbx (And.intro BB lp))
          clear rbx BB lp
          go_wp2_with fail
          obtain ⟨wz, hwz⟩ : ∃ wz, wz = (((wo.setCell ⟨w.heap.size + 1, 0, none⟩ (.slice B (n2 - 1) d)).setCell ⟨w.heap.size + 1, 1, none⟩ (.slice C (n2 - 1) k)).setCell ⟨w.heap.size + 1, 2, none⟩ (.slice C' t kk)) := ⟨_, rfl⟩
          obtain ⟨y0, y1, y2, hbz, htz⟩ := set3 HE.out.2.1 HE.out.1 (by omega) hwz
          rw [← hwz]
          refine bodyPost_ret (v := .tuple #[.agg #[.slice B (n2 - 1) d, .slice C (n2 - 1) k, .slice C' t kk], .int .i64 0]) (by simp [results, Try.results55, go_sem, y0, y1, y2]) rfl (.inr ⟨?_, i, z, step, P, by rw [l3]; exact HO.out.1, B, d, C, k, C', kk, ?_, ?_, hbz⟩)
          · unfold outErr; rw [l3, HC1.out, HIN.out]; simp
          · rw [l1, HM2.out]
          · rw [l1, ← HM2.out]
            have gB : ∀ g, B = some ⟨g, 0, none⟩ → w1.heap.size ≤ g ∧ g < w2.heap.size := fun g e => HB.out.2.has.2.1.geT e
            have gC : ∀ g, C = some ⟨g, 0, none⟩ → w1.heap.size ≤ g ∧ g < w2.heap.size := fun g e => HB.out.2.has.1.geT e
            have gK : ∀ g, C' = some ⟨g, 0, none⟩ → w4.heap.size ≤ g := fun g e => (HE.out.2.2.cells.geT e).1
            refine ⟨((HT4.out.has.2.2.2.1.turn HE.out.2.2.tu (fun g e e2 => by have := gB g e; omega)).turn htz (fun g e e2 => by have := gB g e; omega)).mono (by omega), ((HT4.out.has.2.2.1.turn HE.out.2.2.tu (fun g e e2 => by have := gC g e; omega)).turn htz (fun g e e2 => by have := gC g e; omega)).mono (by omega), (HE.out.2.2.cells.turn htz (fun g e e2 => by have := gK g e; omega)).mono (by omega), HB.out.1, fun g e1 e2 => ?_, fun g e1 e2 => ?_⟩
            · have := gB g e1; have := gK g e2; omega
            · have := gC g e1; have := gK g e2; omega
  · have hne1 : decide (ck1 = 0) = false := by simpa using hk1
    have x0 := (H1.has.1).cell 0
    have x1 := (H1.has.1).cell 1
    have x2 := (H1.has.1).cell 2
    have f0 := (H1.has.1).frozen 0
    have f1 := (H1.has.1).frozen 1
    have f2 := (H1.has.1).frozen 2
    have HE := Lib.hid H1
    clear H1
    go_wp2_with fail
    obtain ⟨wz, hwz⟩ : ∃ wz, wz = (((w1.setCell ⟨w.heap.size + 1, 0, none⟩ (.slice none 0 0)).setCell ⟨w.heap.size + 1, 1, none⟩ (.slice none 0 0)).setCell ⟨w.heap.size + 1, 2, none⟩ (.slice none 0 0)) := ⟨_, rfl⟩
    obtain ⟨y0, y1, y2, hbz, htz⟩ := set3 HE.out.bel HE.out.has.1 (by omega) hwz
    rw [← hwz]
    exact bodyPost_ret (v := .tuple #[.agg #[.slice none 0 0, .slice none 0 0, .slice none 0 0], .int .i64 ck1]) (by simp [results, Try.results55, go_sem, y0, y1, y2]) rfl (.inl ⟨by unfold outErr; rw [l3, hck1]; simp [hk1], by unfold outErr; rw [l3, hck1]; simp [hk1], hbz⟩)
end Go.Proofs.Ytgmchedfgdgenaa
