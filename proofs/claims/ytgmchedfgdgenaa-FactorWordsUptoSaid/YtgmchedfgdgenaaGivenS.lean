/- factor.Given at string, walked. Conditions: the lists read, within Go's bound. -/
import Derived.Test.YtgmchedfgdgenaaJ10
import Derived.Test.YtgmchedfgdgenaaJ12
import Derived.Test.YtgmchedfgdgenaaJ8
import Derived.Test.YtgmchedfgdgenaaJ9
import Derived.Test.YtgmchedfgdgenaaWithoutS
import Derived.Test.YtgmchedfgdgenaaFirstsS
import Derived.Test.YtgmchedfgdgenaaJ3
import Derived.Deep.QuietTactic
import Derived.BigQuiet
namespace Go.Proofs.Ytgmchedfgdgenaa
open Go.RowKit
attribute [local go_sem] Oper.semAt_some

/-- the cells in which a variable has a value -/
def givL_s (L : List ByteArray) (z step x m : Nat) : List ByteArray := (List.range m).map fun t => nth L ((firstF z step t).toNat + x * step)
def GivenPost_s (S Z : List Int) (L : List ByteArray) (v x : Int) (w : World) (e : Ending) (w' : World) : Prop :=
  (givenErr S Z L.length v x ≠ 0 ∧ e = .returned (.tuple #[.agg #[.slice none 0 0, .slice none 0 0, .slice none 0 0], .int .i64 (givenErr S Z L.length v x)]) ∧ Below w.heap.size w w') ∨
  (givenErr S Z L.length v x = 0 ∧ ∃ i z step P : Nat, OutAt S Z v L.length i z step P ∧ 0 ≤ x ∧ x < (z : Int) ∧ ∃ A c B d C k, e = .returned (.tuple #[.agg #[.slice A (S.length - 1) c, .slice B (S.length - 1) d, .slice C (P * step) k], .int .i64 0]) ∧
    Trio (Value.int .i64) (Value.int .i64) (Value.string) w' w.heap.size 3 3 9 A (S.length - 1) c (S.take i ++ S.drop (i + 1)) B (S.length - 1) d (Z.take i ++ Z.drop (i + 1)) C (P * step) k (givL_s L z step x.toNat (P * step)) ∧ Below w.heap.size w w')
set_option maxRecDepth 100000 in
set_option maxHeartbeats 4000000 in
theorem given_s (A1 A2 A3 : Option Addr) (n1 c1 n2 c2 n3 c3 : Nat) (S Z : List Int) (L : List ByteArray) (v x : Int) (w : World)
    (h1 : Sl (Value.int .i64) w A1 n1 S) (h2 : Sl (Value.int .i64) w A2 n2 Z) (h3 : Sl (Value.string) w A3 n3 L) (hb : n1 * 8 ≤ 140737488351232) (hc2 : n2 ≤ c2) :
    Calls Try.prog 57 #[.agg #[.slice A1 n1 c1, .slice A2 n2 c2, .slice A3 n3 c3], .agg #[.int .i64 v, .int .i64 x]] w (GivenPost_s S Z L v x w) := by
  have HL := Lib.hid (And.intro h1.len (And.intro h2.len h3.len))
  have HI := Lib.hid (And.intro h1 (And.intro h2 h3))
  have big1 := h3.big
  have H0 := (((((Held.init w).sl h1).sl h2).sl h3).new 33 [.slice A1 n1 c1, .slice A2 n2 c2, .slice A3 n3 c3]).new 64 [.int .i64 v, .int .i64 x] |>.new 33 [.slice none 0 0, .slice none 0 0, .slice none 0 0]
  simp only [World.size_alloc] at H0
  clear h1 h2 h3
  have a0 := H0.has.2.2.1.cell 0
  have a1 := H0.has.2.2.1.cell 1
  have a2 := H0.has.2.2.1.cell 2
  go_enter Try.func57, Try.ntmps57
  go_wp2_with fail
  obtain ⟨l1, l2, l3⟩ := HL.out
  refine (check_s A1 A2 A3 n1 c1 n2 c2 n3 c3 S Z _ H0.has.2.2.2.2.2.1 H0.has.2.2.2.2.1 big1).mono ?_
  rintro e w1 ⟨rfl, hb1⟩
  have H1 := H0.step hb1
  clear H0 hb1 a0 a1 a2
  generalize hck1 : checkC S Z n3 = ck1 at *
  by_cases hk1 : ck1 = 0
  · subst hk1
    obtain ⟨T1, hN1⟩ := checkC_ok hck1
    have a0 := H1.has.2.2.1.cell 0
    have hn12 : n1 * 8 ≤ 140737488355328 := by omega
    have HC1 := Lib.hid hck1
    clear hck1
    have b0 := H1.has.2.1.cell 0
    have HT := Lib.hid (And.intro T1 hN1)
    have HA := Lib.hid T1.asc
    clear T1 hN1
    go_wp2_with fail
    refine (SoI.bs_any A1 n1 c1 S v _ H1.has.2.2.2.2.2.1 HA.out).mono ?_
    rintro e w2 ⟨i, rfl, hpl, rfl⟩
    rcases hin : isIn cmpI v S with _ | _
    · have x0 := (H1.has.1).cell 0
      have x1 := (H1.has.1).cell 1
      have x2 := (H1.has.1).cell 2
      have f0 := (H1.has.1).frozen 0
      have f1 := (H1.has.1).frozen 1
      have f2 := (H1.has.1).frozen 2
      have HE := Lib.hid (And.intro H1 hin)
      clear H1 hin hpl
      go_wp2_with fail
      obtain ⟨wz, hwz⟩ : ∃ wz, wz = (((w1.setCell ⟨w.heap.size + 1 + 1, 0, none⟩ (.slice none 0 0)).setCell ⟨w.heap.size + 1 + 1, 1, none⟩ (.slice none 0 0)).setCell ⟨w.heap.size + 1 + 1, 2, none⟩ (.slice none 0 0)) := ⟨_, rfl⟩
      obtain ⟨y0, y1, y2, hbz, htz⟩ := set3 HE.out.1.bel HE.out.1.has.1 (by omega) hwz
      rw [← hwz]
      exact bodyPost_ret (v := .tuple #[.agg #[.slice none 0 0, .slice none 0 0, .slice none 0 0], .int .i64 61]) (by simp [results, Try.results57, go_sem, y0, y1, y2]) rfl (.inl ⟨by rw [l3]; unfold givenErr outErr; rw [HC1.out, HE.out.2]; simp, by rw [l3]; unfold givenErr outErr; rw [HC1.out, HE.out.2]; simp, hbz⟩)
    · have hmem : v ∈ S := by
        obtain ⟨y, hy, h0⟩ := isIn_iff.1 hin
        rw [cmpI_zero] at h0
        subst h0
        exact hy
      obtain ⟨hi, hv⟩ := bs_at hpl HA.out hmem
      subst hv
      obtain ⟨z, step, P, hO⟩ := outAt_of HT.out.1 HT.out.2 hi
      have hs := hO.apart
      have hz := hO.size
      have hz1 := hO.z1
      have hs1 := hO.s1
      have hn3 := hO.m
      have hm3 : sufP Z 0 ≤ 2147483647 := HT.out.1.cnt
      have hn32 : n3 ≤ 2147483647 := by have := HT.out.2; omega
      obtain rfl : n2 = n1 := by have := HT.out.1.len; omega
      rw [l1] at hi
      have HO := Lib.hid (And.intro hO (And.intro hs (And.intro hz (And.intro hn3 hm3))))
      have hge : givenErr S Z n3 (nth S i) x = if x < 0 ∨ (z : Int) ≤ x then 3 else 0 := by
        unfold givenErr outErr
        rw [HC1.out, hin, hO.find (asc_nodup HA.out)]
        simp [hz]
      have HGE := Lib.hid hge
      clear hO hs hz hn3 hm3 hpl hin hmem hge
      have a1 := H1.has.2.2.1.cell 1
      have b1 := H1.has.2.1.cell 1
      have HZ1 := Lib.hid H1
      by_cases hx0 : x < 0
      · have d1 : decide (x < 0) = true := by simpa using hx0
        have heq : givenErr S Z n3 (nth S i) x = 3 := by rw [HGE.out, if_pos (.inl hx0)]
        have HQ := Lib.hid heq
        clear heq H1
        go_wp2_with fail
        go_quiet (fail)
        have H3 := HZ1.out.drewN nq
        clear a0 a1 b0 b1
        have x0 := (H3.has.1).cell 0
        have x1 := (H3.has.1).cell 1
        have x2 := (H3.has.1).cell 2
        have f0 := (H3.has.1).frozen 0
        have f1 := (H3.has.1).frozen 1
        have f2 := (H3.has.1).frozen 2
        have HE := Lib.hid H3
        clear H3
        go_wp2_with fail
        obtain ⟨wz, hwz⟩ : ∃ wz, wz = ((((w1.drewN nq).setCell ⟨w.heap.size + 1 + 1, 0, none⟩ (.slice none 0 0)).setCell ⟨w.heap.size + 1 + 1, 1, none⟩ (.slice none 0 0)).setCell ⟨w.heap.size + 1 + 1, 2, none⟩ (.slice none 0 0)) := ⟨_, rfl⟩
        obtain ⟨y0, y1, y2, hbz, htz⟩ := set3 HE.out.bel HE.out.has.1 (by omega) hwz
        rw [← hwz]
        exact bodyPost_ret (v := .tuple #[.agg #[.slice none 0 0, .slice none 0 0, .slice none 0 0], .int .i64 3]) (by simp [results, Try.results57, go_sem, y0, y1, y2]) rfl (.inl ⟨by rw [l3, HQ.out]; decide, by rw [l3, HQ.out], hbz⟩)
      · obtain ⟨val, hval⟩ : ∃ val : Nat, x = (val : Int) := ⟨x.toNat, by omega⟩
        subst hval
        have d1 : decide ((val : Int) < 0) = false := by simp
        have hi0 : (0 : Int) ≤ (i : Int) := by omega
        have hi1 : (i : Int) < (n2 : Int) := by omega
        obtain ⟨zb0, zo0, rfl, hzb0, hzc0⟩ := H1.has.2.2.2.2.1.at' (by omega)
        have g2 := hzc0 i hi
        rw [HO.out.2.2.1] at g2
        clear hzc0 H1 hx0
        by_cases hxz : z ≤ val
        · have d2 : decide ((z : Int) ≤ (val : Int)) = true := by simpa using hxz
          have heq : givenErr S Z n3 (nth S i) (val : Int) = 3 := by rw [HGE.out, if_pos (.inr (by omega))]
          have HQ := Lib.hid heq
          clear heq
          go_wp2_with fail
          go_quiet (fail)
          have H3 := HZ1.out.drewN nq
          clear a0 a1 b0 b1 g2
          have x0 := (H3.has.1).cell 0
          have x1 := (H3.has.1).cell 1
          have x2 := (H3.has.1).cell 2
          have f0 := (H3.has.1).frozen 0
          have f1 := (H3.has.1).frozen 1
          have f2 := (H3.has.1).frozen 2
          have HE := Lib.hid H3
          clear H3
          go_wp2_with fail
          obtain ⟨wz, hwz⟩ : ∃ wz, wz = ((((w1.drewN nq).setCell ⟨w.heap.size + 1 + 1, 0, none⟩ (.slice none 0 0)).setCell ⟨w.heap.size + 1 + 1, 1, none⟩ (.slice none 0 0)).setCell ⟨w.heap.size + 1 + 1, 2, none⟩ (.slice none 0 0)) := ⟨_, rfl⟩
          obtain ⟨y0, y1, y2, hbz, htz⟩ := set3 HE.out.bel HE.out.has.1 (by omega) hwz
          rw [← hwz]
          exact bodyPost_ret (v := .tuple #[.agg #[.slice none 0 0, .slice none 0 0, .slice none 0 0], .int .i64 3]) (by simp [results, Try.results57, go_sem, y0, y1, y2]) rfl (.inl ⟨by rw [l3, HQ.out]; decide, by rw [l3, HQ.out], hbz⟩)
        · have d2 : decide ((z : Int) ≤ (val : Int)) = false := by simp; omega
          have heq : givenErr S Z n3 (nth S i) (val : Int) = 0 := by rw [HGE.out, if_neg (by omega)]
          have HQ := Lib.hid heq
          have hvz : val < z := by omega
          clear heq hxz
          go_wp2_with fail
          go_quiet (fail)
          obtain ⟨wq, hwq⟩ : ∃ wq, wq = w1.drewN nq := ⟨_, rfl⟩
          have H1 := HZ1.out.drewN nq
          have H1 : Held w _ wq := hwq ▸ H1
          rw [← hwq]
          have hw1 : w.heap.size + 1 + 1 < wq.heap.size := H1.has.1.lt
          clear hwq a0 a1 b0 b1 g2
          have a0 := H1.has.2.2.1.cell 0
          have a1 := H1.has.2.2.1.cell 1
          have a2 := H1.has.2.2.1.cell 2
          go_wp2_with fail
          refine (without_s A1 (some ⟨zb0, zo0, none⟩) A3 n2 c1 c2 n3 c3 i S Z _ H1.has.2.2.2.2.2.1 H1.has.2.2.2.2.1 hi hb HT.out.1.one HO.out.2.2.2.2 hc2).mono ?_
          rintro e w2 ⟨B, d, C, k, rfl, hoB, hoC, hdis, hb2⟩
          rw [HO.out.2.1]
          have H2 := ((H1.step hb2).own hoB).own hoC
          have HB := Lib.hid (And.intro hdis H2)
          clear hoB hoC hb2 H1 a0 a1 a2
          have H3 := H2.new 33 [.slice B (n2 - 1) d, .slice C (n2 - 1) k, .slice none 0 0]
          have a0 := H3.has.2.2.2.2.2.1.cell 0
          have a1 := H3.has.2.2.2.2.2.1.cell 1
          have a2 := H3.has.2.2.2.2.2.1.cell 2
          clear hdis
          go_wp2_with fail
          refine (firsts_s A1 (some ⟨zb0, zo0, none⟩) A3 n2 c1 c2 n3 c3 i z step P Z _ H3.has.2.2.2.2.2.2.2.1 hi HO.out.2.2.1 hz1 hs1 HO.out.2.2.2.1 hn32).mono ?_
          rintro e w4 ⟨F, fd, rfl, hoF, hb4⟩
          have H4 := (H3.step hb4).own hoF
          clear hoF hb4 H3 H2 a0 a1 a2
          have HT4 := Lib.hid H4
          obtain ⟨m, hm⟩ : ∃ m, m = P * step := ⟨_, rfl⟩
          rw [← hm] at HT4 ⊢
          have hmb : m ≤ 2147483647 := by
            have h1 := HO.out.2.2.2.1
            have h2 : P * step ≤ P * step * z := Nat.le_mul_of_pos_right _ hz1
            rw [Nat.mul_assoc] at h2
            omega
          have HM2 := Lib.hid hm
          clear hm H4
          go_wp2_with fail
          have hpp : w.heap.size + 1 + 1 < w2.heap.size := HB.out.2.has.2.2.1.lt
          go_loopw [61] (fun c wr => ∃ (t : Nat) (C' : Option Addr) (kk : Nat), t ≤ m ∧ c = .int .i64 (t : Nat) ∧ OutLp (Value.string) 33 9 w4 w2.heap.size (.slice B (n2 - 1) d) (.slice C (n2 - 1) k) wr C' t kk (givL_s L z step val t)) (fun c _ => m - (intOf c).toNat)
          case atStart => exact ⟨0, none, 0, Nat.zero_le _, rfl, Turn.refl _ _, HT4.out.has.2.1, OwnR.nil _ _ _ _, HT4.out.has.2.1.lt⟩
          case round =>
            obtain ⟨t, C', kk, ht, rfl, lp⟩ := hrel
            have LP := Lib.hid lp
            have hwo4 := lp.tu.size
            have hpw : w2.heap.size < w4.heap.size := HT4.out.has.2.1.lt
            by_cases hlt : t < m
            · have ff := HT4.out.has.1
              have fge : ∀ g o, F = some ⟨g, o, none⟩ → ¬ (g = w2.heap.size) := fun g o e1 e2 => by
                rcases ff.at_row with h1 | ⟨g', h1, h2, _⟩
                · rw [e1] at h1; cases h1
                · rw [e1] at h1; injection h1 with h1; injection h1 with h1; subst h1; simp at h2; omega
              obtain ⟨fb, fo, rfl, _, hfc⟩ := ((ff.sl (by omega)).turn lp.tu fge).at' (by omega)
              have g1 := hfc t hlt
              rw [nth_firstL hlt] at g1
              clear hfc fge ff
              have hn3 : val * step < n3 := by
                have h1 := HO.out.1.first_lt (t := t) (by rw [← HM2.out]; exact hlt) hvz
                omega
              obtain ⟨lb0, lq, elb, hlb, _⟩ := HI.out.2.2.at' (by omega)
              have sL := HT4.out.has.2.2.2.2.2.2.2.1.turn lp.tu (fun g o e1 e2 => by rw [elb] at e1; injection e1 with e1; injection e1 with e1; omega)
              obtain ⟨lb, lp', rfl, _, hlc⟩ := sL.at' (by omega)
              injection elb with elb
              injection elb with elb elb2
              subst elb
              subst elb2
              have abx := HT4.out.has.2.2.2.2.2.2.1.turn lp.tu (show ¬ (w.heap.size = w2.heap.size) by omega)
              have fbx := HT4.out.has.2.2.2.2.2.1.turn lp.tu (show ¬ (w.heap.size + 1 = w2.heap.size) by omega)
              have q2 := abx.cell 2
              have v1 := fbx.cell 1
              obtain ⟨f, hf⟩ : ∃ f : Nat, firstF z step t = (f : Int) := ⟨(firstF z step t).toNat, by have := firstF_nonneg z step t; omega⟩
              rw [hf] at g1
              obtain ⟨q, hq⟩ : ∃ q, q = val * step := ⟨_, rfl⟩
              have hfq : f + q < n3 := by
                have h1 := HO.out.1.first_lt (t := t) (by rw [← HM2.out]; exact hlt) hvz
                rw [hf, ← hq] at h1
                simpa using h1
              have g3 := hlc (f + q) hfq
              have hqw : IntKind.i64.wrap ((val : Int) * (step : Int)) = (q : Int) := by
                rw [← Int.natCast_mul, ← hq]
                simp [IntKind.wrap, IntKind.bits, IntKind.signed]; omega
              have hsw : IntKind.i64.wrap ((f : Int) + (q : Int)) = (f : Int) + (q : Int) := by
                simp [IntKind.wrap, IntKind.bits, IntKind.signed]; omega
              have hs0 : (0 : Int) ≤ (f : Int) + (q : Int) := by omega
              have hs1' : (f : Int) + (q : Int) < (n3 : Int) := by omega
              have hs2 : ((f : Int) + (q : Int)).toNat = f + q := by omega
              have hgl : givL_s L z step val (t + 1) = givL_s L z step val t ++ [nth L (f + q)] := by
                unfold givL_s; rw [List.range_succ, List.map_append, List.map_cons, List.map_nil, hf, ← hq]; rfl
              obtain ⟨X, hX⟩ : ∃ X, X = nth L (f + q) := ⟨_, rfl⟩
              rw [← hX] at g3 hgl
              have p2 := lp.box.cell 2
              have hblb : lb < wr.heap.size := by have := lp.tu.size; omega
              have hbw : w.heap.size + 1 < wr.heap.size := by omega
              obtain ⟨⟨ix, e1, e2, e3, e4, e5⟩, _, _⟩ := eiSt
              have hk1 : t + 1 ≤ maxLen := by unfold maxLen; omega
              have hk2 : (t + 1) * 16 ≤ 140737488355328 := by omega
              have HG := Lib.hid hgl
              clear hlc abx fbx sL hf hq hX hgl lp
              go_upto_region 14 with fail
--R
              refine wp_region_lastL (S := fun w' => w'.cell? ⟨w2.heap.size, 2, none⟩ = some (.slice C' t kk) ∧ w'.cell? ⟨w.heap.size, 2, none⟩ = some (.slice (some ⟨lb, lp', none⟩) n3 c3) ∧ w'.cell? ⟨w.heap.size + 1, 1, none⟩ = some (.int .i64 (val : Int)) ∧ w'.cell? ⟨lb, lp' + (f + q), none⟩ = some (Value.string X)) 15 15 (by kernel_rfl) rfl rfl rfl (by kernel_rfl) ?hS1 (fun hHeld => ?rest1)
              case hS1 => (first | assumption | exact ⟨p2, q2, v1, g3⟩ | exact ⟨p6, q6, v6, g6⟩ | exact ⟨p9, q9, v9, g9⟩ | go_keep)
              refine wpAnyH_takeL (i := 0) (v := ?v2) rfl (by kernel_rfl) (by kernel_rfl) (by kernel_rfl) (fun _ _ _ h => h) (by rfl) ?hy2 (by assumption) ?rest2
              case hy2 => (intro w hSw; (try dsimp only at hSw); go_simp; try with_reducible rfl)
              try simp only [Act.put, List.setIfInBounds_toArray, List.set_cons_zero, List.set_cons_succ]
              refine wpAnyH_takeL (i := 1) (v := ?v3) rfl (by kernel_rfl) (by kernel_rfl) (by kernel_rfl) (fun _ _ _ h => h) (by rfl) ?hy3 (by assumption) ?rest3
              case hy3 => (intro w hSw; (try dsimp only at hSw); go_simp; try with_reducible rfl)
              try simp only [Act.put, List.setIfInBounds_toArray, List.set_cons_zero, List.set_cons_succ]
              refine wpAnyH_takeL (i := 2) (v := ?v4) rfl (by kernel_rfl) (by kernel_rfl) (by kernel_rfl) (fun _ _ _ h => h) (by rfl) ?hy4 (by assumption) ?rest4
              case hy4 => (intro w hSw; (try dsimp only at hSw); go_simp; try with_reducible rfl)
              try simp only [Act.put, List.setIfInBounds_toArray, List.set_cons_zero, List.set_cons_succ]
              refine wpAnyH_takeL (i := 3) (v := ?v5) rfl (by kernel_rfl) (by kernel_rfl) (by kernel_rfl) (fun _ _ _ h => h) (by rfl) ?hy5 (by assumption) ?rest5
              case hy5 => (intro w hSw; (try dsimp only at hSw); go_simp; try with_reducible rfl)
              try simp only [Act.put, List.setIfInBounds_toArray, List.set_cons_zero, List.set_cons_succ]
              refine wpAnyH_takeL (i := 4) (v := ?v6) rfl (by kernel_rfl) (by kernel_rfl) (by kernel_rfl) (fun _ _ _ h => h) (by rfl) ?hy6 (by assumption) ?rest6
              case hy6 => (intro w hSw; (try dsimp only at hSw); go_simp; try with_reducible rfl)
              try simp only [Act.put, List.setIfInBounds_toArray, List.set_cons_zero, List.set_cons_succ]
              refine wpAnyH_takeL (i := 5) (v := ?v7) rfl (by kernel_rfl) (by kernel_rfl) (by kernel_rfl) (fun _ _ _ h => h) (by rfl) ?hy7 (by assumption) ?rest7
              case hy7 => (intro w hSw; (try dsimp only at hSw); go_simp; try with_reducible rfl)
              try simp only [Act.put, List.setIfInBounds_toArray, List.set_cons_zero, List.set_cons_succ]
              refine wpAnyH_takeL (i := 6) (v := ?v8) rfl (by kernel_rfl) (by kernel_rfl) (by kernel_rfl) (fun _ _ _ h => h) (by rfl) ?hy8 (by assumption) ?rest8
              case hy8 => (intro w hSw; (try dsimp only at hSw); go_simp; try with_reducible rfl)
              try simp only [Act.put, List.setIfInBounds_toArray, List.set_cons_zero, List.set_cons_succ]
              refine wpAnyH_takeL (i := 7) (v := ?v9) rfl (by kernel_rfl) (by kernel_rfl) (by kernel_rfl) (fun _ _ _ h => h) (by rfl) ?hy9 (by assumption) ?rest9
              case hy9 => (intro w hSw; (try dsimp only at hSw); go_simp; try with_reducible rfl)
              try simp only [Act.put, List.setIfInBounds_toArray, List.set_cons_zero, List.set_cons_succ]
              refine wpAnyH_takeL (i := 8) (v := ?v10) rfl (by kernel_rfl) (by kernel_rfl) (by kernel_rfl) (fun _ _ _ h => h) (by rfl) ?hy10 (by assumption) ?rest10
              case hy10 => (intro w hSw; (try dsimp only at hSw); go_simp; try with_reducible rfl)
              try simp only [Act.put, List.setIfInBounds_toArray, List.set_cons_zero, List.set_cons_succ]
              refine wpAnyH_takeL (i := 9) (v := ?v11) rfl (by kernel_rfl) (by kernel_rfl) (by kernel_rfl) (fun _ _ _ h => h) (by rfl) ?hy11 (by assumption) ?rest11
              case hy11 => (intro w hSw; (try dsimp only at hSw); go_simp; try with_reducible rfl)
              try simp only [Act.put, List.setIfInBounds_toArray, List.set_cons_zero, List.set_cons_succ]
              refine wpAnyH_takeL (i := 10) (v := ?v12) rfl (by kernel_rfl) (by kernel_rfl) (by kernel_rfl) (fun _ _ _ h => h) (by rfl) ?hy12 (by assumption) ?rest12
              case hy12 => (intro w hSw; (try dsimp only at hSw); go_simp; try with_reducible rfl)
              try simp only [Act.put, List.setIfInBounds_toArray, List.set_cons_zero, List.set_cons_succ]
              refine wpAnyH_takeL (i := 11) (v := ?v13) rfl (by kernel_rfl) (by kernel_rfl) (by kernel_rfl) (fun _ _ _ h => h) (by rfl) ?hy13 (by assumption) ?rest13
              case hy13 => (intro w hSw; (try dsimp only at hSw); go_simp; try with_reducible rfl)
              try simp only [Act.put, List.setIfInBounds_toArray, List.set_cons_zero, List.set_cons_succ]
              refine wpAnyH_ready (rs := [12]) (by kernel_rfl) (by simp) (consL rfl (fun K hK => ?step14))
              (go_simp; (have P6 := (LP.out.alloc (.cells #[Value.string X] 9)).drew); (have hq1 : Below wr.heap.size wr ((wr.alloc (.cells #[Value.string X] 9)).drew) := below_drewN ((Below.refl _ _).alloc (Nat.le_refl _) _) 1); (have p6 := P6.box.cell 2); (have q6 := (hq1.cell (p := ⟨w.heap.size, 2, none⟩) (by show w.heap.size < _; omega)).trans q2); (have v6 := (hq1.cell (p := ⟨w.heap.size + 1, 1, none⟩) hbw).trans v1); (have g6 := (hq1.cell (p := ⟨lb, lp' + (f + q), none⟩) hblb).trans g3); (have hz6 := P6.tu.size))
              refine hK.out _ _ ?hS14 (fun hHeld => ?rest14)
              case hS14 => (first | assumption | exact ⟨p2, q2, v1, g3⟩ | exact ⟨p6, q6, v6, g6⟩ | exact ⟨p9, q9, v9, g9⟩ | go_keep)
              clear hK K
              try simp only [Act.put, List.setIfInBounds_toArray, List.set_cons_zero, List.set_cons_succ]
              refine wpAnyH_ready (rs := [13]) (by kernel_rfl) (by simp) (consL rfl (fun K hK => ?step15))
              (refine step_append_sl _ (Value.string) (fun _ => rfl) (by rfl) (.tmp 66) (.tmp 77) 31 (by rfl) w4.heap.size 9 ix (.string ⟨#[]⟩) 16 e1 e2 e3 e4 e5 (by rfl) C' t kk (givL_s L z step val t) (by rfl) P6.cells _ 1 1 [X] (by rfl) ((Sl.one (enc := Value.string) _ _ _).drewN 1) hk1 hk2 hz6 ?_; intro C9 k9 w9 ho9 hg9 hb9 hd9; have hrow9 := P6.box.turn (Turn.of_grown hg9) (fun e => by have := (P6.cells.geT (P6.cells.block_eq e)).1; have := P6.pw; omega); have p9 := hrow9.cell 2; have f9 := hrow9.frozen 2; have q9 := (hb9.cell (p := ⟨w.heap.size, 2, none⟩) (by show w.heap.size < _; omega)).trans q6; have v9 := (hb9.cell (p := ⟨w.heap.size + 1, 1, none⟩) (by show w.heap.size + 1 < _; omega)).trans v6; have g9 := (hb9.cell (p := ⟨lb, lp' + (f + q), none⟩) (by show lb < _; omega)).trans g6)
              refine hK.out _ _ ?hS15 (fun hHeld => ?rest15)
              case hS15 => (first | assumption | exact ⟨p2, q2, v1, g3⟩ | exact ⟨p6, q6, v6, g6⟩ | exact ⟨p9, q9, v9, g9⟩ | go_keep)
              clear hK K
              try simp only [Act.put, List.setIfInBounds_toArray, List.set_cons_zero, List.set_cons_succ]
              refine wpAnyH_takeL (i := 14) (v := ?v16) rfl (by kernel_rfl) (by kernel_rfl) (by kernel_rfl) (fun _ _ _ h => h) (by rfl) ?hy16 (by assumption) ?rest16
              case hy16 => (intro w hSw; (try dsimp only at hSw); go_simp; try with_reducible rfl)
              try simp only [Act.put, List.setIfInBounds_toArray, List.set_cons_zero, List.set_cons_succ]
              refine wpAnyH_done (by kernel_rfl) ?_ _
              unfold AheadOf
              go_simp
--RE
              have P7 := P6.app (ys := givL_s L z step val (t + 1)) (by rw [HG.out]; exact ho9) hg9
              have HR := Lib.hid P7
              clear P6 P7 hq1 ho9 hg9 hb9 hd9 hrow9 p9 f9 p6 p2 q2 q6 q9 v1 v6 v9 g3 g6 g9 hqw hsw hs0 hs1' hs2 hz6 hk1 hk2
              go_wp2_with fail
              exact ⟨⟨t + 1, C9, k9, by omega, by go_num, HR.out⟩, by simp [intOf]; omega⟩
            · obtain rfl : t = m := by omega
              have rbx := HT4.out.has.2.2.2.2.1.turn lp.tu (show ¬ (w.heap.size + 1 + 1 = w2.heap.size) by omega)
              have BB : Below w.heap.size w wr := HT4.out.bel.trans (lp.tu.below (by omega) (fun x hx e => by omega))
              have p0 := lp.box.cell 0
              have p1 := lp.box.cell 1
              have p2 := lp.box.cell 2
              have x0 := rbx.cell 0
              have x1 := rbx.cell 1
              have x2 := rbx.cell 2
              have f0 := rbx.frozen 0
              have f1 := rbx.frozen 1
              have f2 := rbx.frozen 2
              have HE := Lib.hid (And.intro rbx (And.intro BB lp))
              clear rbx BB lp
              go_wp2_with fail
              obtain ⟨wz, hwz⟩ : ∃ wz, wz = (((wr.setCell ⟨w.heap.size + 1 + 1, 0, none⟩ (.slice B (n2 - 1) d)).setCell ⟨w.heap.size + 1 + 1, 1, none⟩ (.slice C (n2 - 1) k)).setCell ⟨w.heap.size + 1 + 1, 2, none⟩ (.slice C' t kk)) := ⟨_, rfl⟩
              obtain ⟨y0, y1, y2, hbz, htz⟩ := set3 HE.out.2.1 HE.out.1 (by omega) hwz
              rw [← hwz]
              refine bodyPost_ret (v := .tuple #[.agg #[.slice B (n2 - 1) d, .slice C (n2 - 1) k, .slice C' t kk], .int .i64 0]) (by simp [results, Try.results57, go_sem, y0, y1, y2]) rfl (.inr ⟨by rw [l3]; exact HQ.out, i, z, step, P, by rw [l3]; exact HO.out.1, by omega, by omega, B, d, C, k, C', kk, ?_, ?_, hbz⟩)
              · rw [l1, HM2.out]
              · rw [l1, ← HM2.out, show ((val : Int)).toNat = val from Int.toNat_natCast _]
                have gB : ∀ g, B = some ⟨g, 0, none⟩ → wq.heap.size ≤ g ∧ g < w2.heap.size := fun g e => HB.out.2.has.2.1.geT e
                have gC : ∀ g, C = some ⟨g, 0, none⟩ → wq.heap.size ≤ g ∧ g < w2.heap.size := fun g e => HB.out.2.has.1.geT e
                have gK : ∀ g, C' = some ⟨g, 0, none⟩ → w4.heap.size ≤ g := fun g e => (HE.out.2.2.cells.geT e).1
                refine ⟨((HT4.out.has.2.2.2.1.turn HE.out.2.2.tu (fun g e e2 => by have := gB g e; omega)).turn htz (fun g e e2 => by have := gB g e; omega)).mono (by omega), ((HT4.out.has.2.2.1.turn HE.out.2.2.tu (fun g e e2 => by have := gC g e; omega)).turn htz (fun g e e2 => by have := gC g e; omega)).mono (by omega), (HE.out.2.2.cells.turn htz (fun g e e2 => by have := gK g e; omega)).mono (by omega), HB.out.1, fun g e1 e2 => ?_, fun g e1 e2 => ?_⟩
                · have := gB g e1; have := gK g e2; omega
                · have := gC g e1; have := gK g e2; omega
  · have hne1 : decide (ck1 = 0) = false := by simpa using hk1
    have x0 := (H1.has.1).cell 0
    have x1 := (H1.has.1).cell 1
    have x2 := (H1.has.1).cell 2
    have f0 := (H1.has.1).frozen 0
    have f1 := (H1.has.1).frozen 1
    have f2 := (H1.has.1).frozen 2
    have HE := Lib.hid H1
    clear H1
    go_wp2_with fail
    obtain ⟨wz, hwz⟩ : ∃ wz, wz = (((w1.setCell ⟨w.heap.size + 1 + 1, 0, none⟩ (.slice none 0 0)).setCell ⟨w.heap.size + 1 + 1, 1, none⟩ (.slice none 0 0)).setCell ⟨w.heap.size + 1 + 1, 2, none⟩ (.slice none 0 0)) := ⟨_, rfl⟩
    obtain ⟨y0, y1, y2, hbz, htz⟩ := set3 HE.out.bel HE.out.has.1 (by omega) hwz
    rw [← hwz]
    exact bodyPost_ret (v := .tuple #[.agg #[.slice none 0 0, .slice none 0 0, .slice none 0 0], .int .i64 ck1]) (by simp [results, Try.results57, go_sem, y0, y1, y2]) rfl (.inl ⟨by rw [l3]; unfold givenErr outErr; rw [hck1]; simp [hk1], by rw [l3]; unfold givenErr outErr; rw [hck1]; simp [hk1], hbz⟩)
end Go.Proofs.Ytgmchedfgdgenaa
