/- credenceref14's out and Check, walked: the points that can be put out one by one. Conditions: the parents read and are points, within Go's bound. -/
import Derived.Test.YtaibdlnolpbpiaaRefDag
namespace Go.Proofs.Ytaibdlnolpbpiaa
open Go.RowKit

/-- Has on numbers from 0 on -/
theorem has_refN (A : Option Addr) (n c : Nat) (xs : List Nat) (x : Nat) (w : World) (h : Sl eN w A n xs) :
    Calls Try.prog 47 #[.slice A n c, .int .i64 (x : Int)] w fun e w' => e = .returned (.bool (decide (x ∈ xs))) ∧ w' = w := by
  have := has_ref A n c (castL xs) (x : Int) w h.toInt
  have e : decide ((x : Int) ∈ castL xs) = decide (x ∈ xs) := by rw [Bool.eq_iff_iff, decide_eq_true_iff, decide_eq_true_iff]; exact mem_castL
  rw [e] at this
  exact this
/-- may a point be put out next? -/
def Rdy (G : List (List Nat)) (L : List Nat) (i : Nat) : Prop := i ∉ L ∧ ∀ p, p ∈ nth G i → p ∈ L
/-- .. as far as its first k parents say -/
def RdyTo (G : List (List Nat)) (L : List Nat) (i k : Nat) : Prop := i ∉ L ∧ ∀ j, j < k → nth (nth G i) j ∈ L
theorem RdyTo_succ {G : List (List Nat)} {L : List Nat} {i k : Nat} : RdyTo G L i (k + 1) ↔ RdyTo G L i k ∧ nth (nth G i) k ∈ L := by
  unfold RdyTo
  constructor
  · rintro ⟨h1, h2⟩
    exact ⟨⟨h1, fun j hj => h2 j (by omega)⟩, h2 k (by omega)⟩
  · rintro ⟨⟨h1, h2⟩, h3⟩
    refine ⟨h1, fun j hj => ?_⟩
    rcases Nat.lt_or_ge j k with h | h
    · exact h2 j h
    · obtain rfl : j = k := by omega
      exact h3
theorem RdyTo_full {G : List (List Nat)} {L : List Nat} {i k : Nat} (h : (nth G i).length = k) : RdyTo G L i k ↔ Rdy G L i := by
  unfold RdyTo Rdy
  refine and_congr_right fun _ => ⟨fun h2 p hp => ?_, fun h2 j hj => h2 _ (nth_mem (by omega))⟩
  obtain ⟨j, hj, e⟩ := mem_nth hp
  rw [← e]; exact h2 j (by omega)

open Classical in
set_option maxRecDepth 100000 in
set_option maxHeartbeats 1600000 in
theorem out_ref (A : Option Addr) (n c : Nat) (G : List (List Nat)) (w : World) (h : Rows eN w A n G) (hg : GoodG G) (hn : n * 24 ≤ 140737488351232) :
    Calls Try.prog 79 #[.slice A n c] w (SrtPost w n G) := by
  have hbig := h.big
  have HI := Lib.hid (And.intro h.len hg); clear hg
  obtain ⟨wa, hwa⟩ : ∃ wa : World, wa = w := ⟨_, rfl⟩
  subst hwa
  go_enter Try.func79, Try.ntmps79
  go_wp2_with fail
  go_loopw [3] (fun l wr => ∃ (k c' : Nat) (B : Option Addr) (L : List Nat), l = .slice B k c' ∧ OwnR eN wr wa.heap.size 3 B k c' L ∧ Kahn G L ∧ Below wa.heap.size wa wr) (fun l _ => n - slLen l)
  case atStart => exact ⟨0, 0, none, [], rfl, OwnR.nil _ _ _ _, Kahn.nil G, Below.refl _ _⟩
  case round =>
    obtain ⟨k, c1, B, L, rfl, how, hkahn, hbl⟩ := hrel
    obtain ⟨wb, hwb⟩ : ∃ wb : World, wb = wr := ⟨_, rfl⟩
    subst hwb
    have hkl := how.length
    have hLn := hkahn.length_le
    rw [HI.out.1] at hLn
    have hkn : k ≤ n := by omega
    have hsl := how.sl (by omega)
    have H1 := Lib.hid (And.intro how (And.intro hkahn (And.intro hbl (And.intro hsl hkl)))); clear how hkahn hbl hsl hLn hkl
    go_wp2_with fail
    go_loopw [4, 5] (fun nx i wr => ∃ (i' : Nat) (x : Int), nx = .int .i64 x ∧ i = .int .i64 (i' : Nat) ∧ i' ≤ n ∧ ((x = -1 ∧ ∀ j, j < i' → ¬ Rdy G L j) ∨ (∃ r : Nat, x = (r : Int) ∧ r < n ∧ Rdy G L r)) ∧ wr = wb) (fun _ i _ => n - (intOf i).toNat)
    case atStart => exact ⟨0, -1, rfl, rfl, Nat.zero_le _, .inl ⟨rfl, fun j hj => by omega⟩, rfl⟩
    case round =>
      obtain ⟨i, x, rfl, rfl, hi, hnx, hwr⟩ := hrel
      have hwr := hwr.symm
      subst hwr
      by_cases hgo : i < n ∧ x < 0
      · obtain ⟨hin, hx0⟩ := hgo
        have hnr : ∀ j, j < i → ¬ Rdy G L j := by
          rcases hnx with ⟨_, h2⟩ | ⟨r, rfl, _⟩
          · exact h2
          · omega
        have hxe : x = -1 := by
          rcases hnx with ⟨h2, _⟩ | ⟨r, rfl, _⟩
          · exact h2
          · omega
        subst hxe
        clear hnx
        obtain ⟨b, off, P, m, d, rfl, hbb, g0, hrow0⟩ := h.row hin
        have g1 := ((keeps H1.out.2.2.1).1 b (off + i) hbb).trans g0
        have hrow := hrow0.below (Nat.le_refl _) H1.out.2.2.1
        have hbm := hrow.big
        have HR := Lib.hid (And.intro hnr (And.intro hrow hrow.len)); clear hnr hrow hrow0 g0
        go_wp2_with fail
        refine (has_refN B k c1 L i _ H1.out.2.2.2.1).mono ?_
        rintro e w2 ⟨rfl, rfl⟩
        go_wp2_with fail
        go_loopw [6, 7] (fun r j wr => ∃ (q : Nat), r = .bool (decide (RdyTo G L i q)) ∧ j = .int .i64 (q : Nat) ∧ q ≤ m ∧ wr = w2) (fun _ j _ => m - (intOf j).toNat)
        case atStart => exact ⟨0, by simp [RdyTo], rfl, Nat.zero_le _, rfl⟩
        case round =>
          obtain ⟨q, rfl, rfl, hq, hwr⟩ := hrel
          have hwr := hwr.symm
          subst hwr
          by_cases hqm : q < m
          · obtain ⟨b2, off2, rfl, _, hc⟩ := HR.out.2.1.at' (by omega)
            have g2 := hc q hqm
            have hsucc := RdyTo_succ (G := G) (L := L) (i := i) (k := q)
            have HS := Lib.hid hsucc; clear hsucc hc
            generalize nth (nth G i) q = s at *
            by_cases hr : RdyTo G L i q
            · have hr' := decide_eq_true hr
              have HC := Lib.hid (show decide (RdyTo G L i (q + 1)) = decide (s ∈ L) by rw [Bool.eq_iff_iff, decide_eq_true_iff, decide_eq_true_iff, HS.out]; exact ⟨fun h => h.2, fun h => ⟨hr, h⟩⟩)
              clear hr
              go_wp2_with fail
              refine (has_refN B k c1 L s _ H1.out.2.2.2.1).mono ?_
              rintro e w2 ⟨rfl, rfl⟩
              go_wp2_with fail
              exact ⟨⟨q + 1, by rw [HC.out], by go_num, by omega, trivial⟩, by simp [intOf]; omega⟩
            · have hr' := decide_eq_false hr
              have HC := Lib.hid (show decide (RdyTo G L i (q + 1)) = false by rw [decide_eq_false_iff_not, HS.out]; exact fun h => hr h.1)
              clear hr
              go_wp2_with fail
              exact ⟨⟨q + 1, by rw [HC.out], by go_num, by omega, trivial⟩, by simp [intOf]; omega⟩
          · obtain rfl : q = m := by omega
            have hfull := RdyTo_full (G := G) (L := L) (i := i) HR.out.2.2
            have HF := Lib.hid hfull; clear hfull
            obtain ⟨rb, hrb⟩ : ∃ rb, decide (RdyTo G L i q) = rb := ⟨_, rfl⟩
            rw [hrb]
            rcases rb
            · have HC := Lib.hid (fun h => of_decide_eq_false hrb (HF.out.2 h)); clear hrb
              go_wp2_with fail
              refine ⟨⟨i + 1, -1, rfl, by go_num, by omega, .inl ⟨rfl, fun j hj => ?_⟩, trivial⟩, by simp [intOf]; omega⟩
              rcases Nat.lt_or_ge j i with h1 | h1
              · exact HR.out.1 j h1
              · obtain rfl : j = i := by omega
                exact HC.out
            · have HC := Lib.hid (HF.out.1 (of_decide_eq_true hrb)); clear hrb
              go_wp2_with fail
              exact ⟨⟨i + 1, (i : Int), rfl, by go_num, by omega, .inr ⟨i, rfl, hin, HC.out⟩, trivial⟩, by simp [intOf]; omega⟩
      · rcases hnx with ⟨rfl, hnr⟩ | ⟨r, rfl, hrn, hrdy⟩
        · obtain rfl : i = n := by omega
          have hfin : SrtPost wa i G (.returned (.slice B k c1)) wb := ⟨B, k, c1, L, rfl, H1.out.2.2.2.1, H1.out.2.1, fun j hj hjL => by
            apply Classical.byContradiction
            intro hex
            exact hnr j (by rw [← HI.out.1]; exact hj) ⟨hjL, fun p hp => Classical.byContradiction fun hpl => hex ⟨p, hp, hpl⟩⟩, H1.out.2.2.1⟩
          have HF := Lib.hid hfin; clear hfin hnr
          go_wp2_with fail
          go_ret
          exact HF.out
        · have hk2 := H1.out.2.1.snoc (by rw [HI.out.1]; exact hrn) hrdy.1 hrdy.2
          have hlen2 := hk2.length_le
          rw [HI.out.1, List.length_append, List.length_singleton, H1.out.2.2.2.2] at hlen2
          have hos := H1.out.1.alloc (.cells #[.int .i64 (r : Int)] 3)
          have hsz := H1.out.2.2.1.size
          have HK := Lib.hid hk2; clear hk2 hrdy
          have q0 : ¬ ((r : Nat) : Int) < 0 := by omega
          by_cases hin : i < n
          all_goals
            go_wp2_with (first
              | (at_builtin; refine wpList_app _ eiInt eN one_eN rfl _ _ rfl wa.heap.size _ _ _ _ rfl hos _ _ _ _ rfl (Sl.one (enc := eN) _ _ _) (by omega) (by simp; omega) ?_)
              | fail)
            intro A9 c9 w9 ho9 hg9 hb9 _
            have hb10 := (H1.out.2.2.1.alloc hsz (.cells #[.int .i64 (r : Int)] 3)).trans hb9
            have H9 := Lib.hid (And.intro ho9 hb10); clear ho9 hb9 hb10 hg9 hos
            go_wp2_with fail
            exact ⟨⟨k + 1, c9, A9, L ++ [r], rfl, H9.out.1, HK.out, H9.out.2⟩, by simp [slLen]; omega⟩

set_option maxRecDepth 100000 in
set_option maxHeartbeats 1600000 in
theorem check_ref (A : Option Addr) (n c : Nat) (Ps : List (List Int)) (w : World) (h : Rows (Value.int .i64) w A n Ps) (hn : n * 24 ≤ 140737488351232) :
    Calls Try.prog 58 #[.slice A n c] w fun e w' => e = .returned (.int .i64 (checkP Ps)) ∧ Below w.heap.size w w' := by
  have HL := Lib.hid h.len
  obtain ⟨wa, hwa⟩ : ∃ wa : World, wa = w := ⟨_, rfl⟩
  subst hwa
  go_enter Try.func58, Try.ntmps58
  go_wp2_with fail
  refine (inside_ref A n c Ps _ h).mono ?_
  rintro e w1 ⟨rfl, rfl⟩
  rcases hr : inR Ps
  · have HC := Lib.hid (checkP_3 hr); clear hr
    go_wp2_with fail
    go_ret
    exact ⟨ret_int HC.out.symm, Below.refl _ _⟩
  · have HR := Lib.hid hr; clear hr
    go_wp2_with fail
    refine (twice_ref A n c Ps _ h).mono ?_
    rintro e w2 ⟨rfl, d, rfl⟩
    rcases hd : Ps.any dup
    · have HD := Lib.hid hd; clear hd
      have h2 := (h.drewN d).toNat HR.out
      have hg := good_toG HR.out
      have hlg : (toG Ps).length = n := by rw [toG_length]; exact HL.out
      have HG := Lib.hid (And.intro hg hlg); clear hg hlg
      obtain ⟨w3, hw3⟩ : ∃ w3 : World, w3 = w1.drewN d := ⟨_, rfl⟩
      rw [← hw3] at h2 ⊢
      have HW := Lib.hid hw3; clear hw3
      go_wp2_with fail
      refine (out_ref A n c (toG Ps) _ h2 HG.out.1 hn).mono ?_
      rintro e w4 ⟨C, k, d4, L, rfl, hs, hk, hst, hb4⟩
      have hkl : k ≤ n := by have h1 := hk.length_le; have h2 := hs.len; have h3 := HG.out.2; omega
      have hiff := hk.full_iff HG.out.1 hst
      rw [hs.len, HG.out.2] at hiff
      have hbw : Below w1.heap.size w1 w4 := by
        have := HW.out
        rw [this] at hb4
        exact (below_refl_drewN _ w1 d).trans hb4
      have H4 := Lib.hid (And.intro hbw hiff); clear hbw hiff hb4 hs hk hst h2
      by_cases hlt : k < n
      · have HC := Lib.hid (checkP_42 HR.out HD.out (fun ha => by have := H4.out.2.2 ha; omega))
        go_wp2_with fail
        go_ret
        exact ⟨ret_int HC.out.symm, H4.out.1⟩
      · have HC := Lib.hid (checkP_0 HR.out HD.out (H4.out.2.1 (by omega)))
        go_wp2_with fail
        go_ret
        exact ⟨ret_int HC.out.symm, H4.out.1⟩
    · have HC := Lib.hid (checkP_40 HR.out hd); clear hd
      go_wp2_with fail
      go_ret
      exact ⟨ret_int HC.out.symm, below_refl_drewN _ _ _⟩
end Go.Proofs.Ytaibdlnolpbpiaa
