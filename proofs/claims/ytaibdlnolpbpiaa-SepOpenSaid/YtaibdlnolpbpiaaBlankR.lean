/- credenceref16's Bad and Blanket, walked. Conditions: the parents and the points read, within Go's bound. -/
import Derived.Test.YtaibdlnolpbpiaaRefOut
import Derived.Test.YtaibdlnolpbpiaaBlank
namespace Go.Proofs.Ytaibdlnolpbpiaa
open Go.RowKit

/-- what is wrong with parents and points -/
noncomputable def badE (Ps : List (List Int)) (named : List Int) : Int := if checkP Ps ≠ 0 then checkP Ps else if inRow Ps.length named = true then 0 else 3
set_option maxRecDepth 100000 in
set_option maxHeartbeats 800000 in
theorem bad_ref (A B : Option Addr) (n c m d : Nat) (Ps : List (List Int)) (named : List Int) (w : World) (h : Rows (Value.int .i64) w A n Ps) (hm : Sl (Value.int .i64) w B m named) (hn : n * 24 ≤ 140737488351232) :
    Calls Try.prog 36 #[.slice A n c, .slice B m d] w fun e w' => e = .returned (.int .i64 (badE Ps named)) ∧ Below w.heap.size w w' := by
  have HL := Lib.hid (And.intro h.len hm.len)
  have hbig := hm.big
  obtain ⟨wa, hwa⟩ : ∃ wa : World, wa = w := ⟨_, rfl⟩
  subst hwa
  go_enter Try.func36, Try.ntmps36
  go_wp2_with fail
  refine (check_ref A n c Ps _ h hn).mono ?_
  rintro e w1 ⟨rfl, hb⟩
  have hm1 := hm.below (Nat.le_refl _) hb
  have HB := Lib.hid hb; clear hb
  by_cases hf : checkP Ps = 0
  · have HF := Lib.hid hf
    rw [hf]
    clear hf
    go_wp2_with fail
    go_loopw [6] (fun i wr => ∃ q : Nat, i = .int .i64 (q : Nat) ∧ q ≤ m ∧ inRow n (named.take q) = true ∧ wr = w1) (fun i _ => m - (intOf i).toNat)
    case atStart => exact ⟨0, rfl, Nat.zero_le _, rfl, rfl⟩
    case round =>
      obtain ⟨q, rfl, hq, hin, hwr⟩ := hrel
      have hwr := hwr.symm
      subst hwr
      by_cases hqm : q < m
      · obtain ⟨b2, off2, rfl, _, hc⟩ := hm1.at' (by omega)
        have g2 := hc q hqm
        have hql : q < named.length := by rw [HL.out.2]; exact hqm
        have hsn := all_inRow_snoc (n := n) hql
        rw [hin, Bool.true_and] at hsn
        have hbad : ¬ (0 ≤ nth named q ∧ nth named q < (n : Int)) → badE Ps named = 3 := fun hb => by
          unfold badE
          rw [if_neg (by rw [HF.out]; simp), if_neg]
          rw [HL.out.1]
          have : inRow n named = false := all_down _ hql (by simp only [Bool.and_eq_false_iff, decide_eq_false_iff_not]; omega)
          rw [this]; simp
        have HS := Lib.hid (And.intro hbad hsn); clear hbad hsn hc hin hql
        generalize hs : nth named q = s at *
        by_cases hs0 : s < 0
        · have HC := Lib.hid (HS.out.1 (by omega))
          go_wp2_with fail
          go_ret
          exact ⟨ret_int HC.out.symm, HB.out⟩
        · by_cases hs1 : (n : Int) ≤ s
          · have HC := Lib.hid (HS.out.1 (by omega))
            go_wp2_with fail
            go_ret
            exact ⟨ret_int HC.out.symm, HB.out⟩
          · have HC := Lib.hid (show inRow n (named.take (q + 1)) = true by rw [HS.out.2]; simp; omega)
            clear hs
            go_wp2_with fail
            exact ⟨⟨q + 1, by go_num, by omega, HC.out, trivial⟩, by simp [intOf]; omega⟩
      · obtain rfl : q = m := by omega
        have HC := Lib.hid (show badE Ps named = 0 by
          unfold badE
          rw [if_neg (by rw [HF.out]; simp), if_pos]
          rw [HL.out.1]
          rw [take_all (by rw [HL.out.2]; exact Nat.le_refl _)] at hin; exact hin)
        clear hin
        go_wp2_with fail
        go_ret
        exact ⟨ret_int HC.out.symm, HB.out⟩
  · have HC := Lib.hid (show badE Ps named = checkP Ps by unfold badE; rw [if_pos hf])
    go_wp2_with fail
    go_ret
    exact ⟨ret_int HC.out.symm, HB.out⟩
theorem lookE_badE (Ps : List (List Int)) (a : Int) : lookE Ps [] [a] = badE Ps [a] := by
  unfold lookE badE
  have : inRow Ps.length [] = true := rfl
  rw [this]
  simp

/-- is p near a by one of the points below c? -/
def Mate (G : List (List Nat)) (a p c : Nat) : Prop := p ∈ nth G a ∨ a ∈ nth G p ∨ ∃ m, m < c ∧ a ∈ nth G m ∧ p ∈ nth G m
theorem mate_bl {G : List (List Nat)} {a p : Nat} (hp : p < G.length) : (Mate G a p G.length ∧ p ≠ a) ↔ Bl G a p := by
  unfold Mate Bl
  constructor
  · rintro ⟨h | h | ⟨m, h1, h2, h3⟩, hne⟩
    · exact ⟨hne, .inl h⟩
    · exact ⟨hne, .inr ⟨p, hp, h, .inl rfl⟩⟩
    · exact ⟨hne, .inr ⟨m, h1, h2, .inr h3⟩⟩
  · rintro ⟨hne, h | ⟨c, h1, h2, rfl | h3⟩⟩
    · exact ⟨.inl h, hne⟩
    · exact ⟨.inr (.inl h2), hne⟩
    · exact ⟨.inr (.inr ⟨c, h1, h2, h3⟩), hne⟩
theorem ptsOf_succ (p : Nat) (P : Nat → Prop) (b : Bool) (hb : b = true ↔ P p) : ptsOf (p + 1) P = ptsOf p P ++ if b then [p] else [] := by
  unfold ptsOf
  rw [List.range_succ, List.filter_append]
  congr 1
  rcases b with _ | _
  · have : ¬ P p := fun h => by have := hb.2 h; cases this
    simp [this]
  · have : P p := hb.1 rfl
    simp [this]
theorem mate_succ {G : List (List Nat)} {a p q : Nat} : Mate G a p (q + 1) ↔ Mate G a p q ∨ (a ∈ nth G q ∧ p ∈ nth G q) := by
  unfold Mate
  constructor
  · rintro (h | h | ⟨m, h1, h2, h3⟩)
    · exact .inl (.inl h)
    · exact .inl (.inr (.inl h))
    · rcases Nat.lt_or_ge m q with h4 | h4
      · exact .inl (.inr (.inr ⟨m, h4, h2, h3⟩))
      · obtain rfl : m = q := by omega
        exact .inr ⟨h2, h3⟩
  · rintro ((h | h | ⟨m, h1, h2, h3⟩) | ⟨h2, h3⟩)
    · exact .inl h
    · exact .inr (.inl h)
    · exact .inr (.inr ⟨m, by omega, h2, h3⟩)
    · exact .inr (.inr ⟨q, by omega, h2, h3⟩)
def BlankRPost (w : World) (Ps : List (List Int)) (a : Int) (e : Ending) (w' : World) : Prop :=
  Below w.heap.size w w' ∧ ∃ A k c, e = .returned (.tuple #[.slice A k c, .int .i64 (badE Ps [a])]) ∧ (badE Ps [a] ≠ 0 → A = none ∧ k = 0 ∧ c = 0) ∧
    (badE Ps [a] = 0 → Sl (Value.int .i64) w' A k (castL (ptsOf Ps.length (Bl (toG Ps) a.toNat))))

set_option maxRecDepth 100000 in
set_option maxHeartbeats 1600000 in
theorem blanket_ref (A : Option Addr) (n c : Nat) (Ps : List (List Int)) (a : Int) (w : World) (h : Rows (Value.int .i64) w A n Ps) (hn : n * 24 ≤ 140737488351232) :
    Calls Try.prog 24 #[.slice A n c, .int .i64 a] w (BlankRPost w Ps a) := by
  have HL := Lib.hid h.len
  obtain ⟨wa, hwa⟩ : ∃ wa : World, wa = w := ⟨_, rfl⟩
  subst hwa
  have h0 := h.below (Nat.le_refl _) ((Below.refl _ _).alloc (Nat.le_refl _) (.cells #[.int .i64 a] 3))
  have hb0 := (Below.refl wa.heap.size wa).alloc (Nat.le_refl _) (.cells #[.int .i64 a] 3)
  have HB0 := Lib.hid (And.intro hb0 h); clear hb0 h
  go_enter Try.func24, Try.ntmps24
  go_wp2_with fail
  refine (bad_ref A (some ⟨wa.heap.size, 0, none⟩) n c 1 1 Ps [a] _ h0 (Sl.one (enc := Value.int .i64) wa 3 a) hn).mono ?_
  rintro e w1 ⟨rfl, hb⟩
  have hbl := HB0.out.1.trans (hb.mono (by simp))
  clear hb h0
  by_cases hE : badE Ps [a] = 0
  · have hck : checkP Ps = 0 ∧ inRow Ps.length [a] = true := by
      unfold badE at hE
      split at hE
      · exact absurd hE ‹_›
      · split at hE
        · exact ⟨Classical.not_not.1 ‹_›, ‹_›⟩
        · omega
    have hrng := inRow_iff.1 hck.2 a (by simp)
    rw [HL.out] at hrng
    obtain ⟨x, rfl⟩ : ∃ x : Nat, a = (x : Int) := ⟨a.toNat, by omega⟩
    have hx : x < n := by omega
    have hR := (HB0.out.2.below (Nat.le_refl _) hbl).toNat (checkP_ok hck.1).1
    have hGl : (toG Ps).length = n := by rw [toG_length]; exact HL.out
    have HE := Lib.hid (And.intro hE (And.intro hGl hbl))
    rw [hE]
    clear hE hck hrng hGl hbl
    go_wp2_with fail
    go_loopw [7, 8] (fun l i wr => ∃ (p k d : Nat) (B : Option Addr), l = .slice B k d ∧ i = .int .i64 (p : Nat) ∧ p ≤ n ∧ OwnR eN wr w1.heap.size 3 B k d (ptsOf p (Bl (toG Ps) x)) ∧ Below w1.heap.size w1 wr) (fun _ i _ => n - (intOf i).toNat)
    case atStart => exact ⟨0, 0, 0, none, rfl, rfl, Nat.zero_le _, OwnR.nil _ _ _ _, Below.refl _ _⟩
    case round =>
      obtain ⟨p, k, d, B, rfl, rfl, hp, ho, hbl⟩ := hrel
      obtain ⟨wb, hwb⟩ : ∃ wb : World, wb = wr := ⟨_, rfl⟩
      subst hwb
      have hkp : k ≤ n := by have h1 := ho.length; have h2 := ptsOf_length_le p (Bl (toG Ps) x); omega
      by_cases hpn : p < n
      · obtain ⟨b0, o0, P0, m0, d0, rfl, hb0, g0, hrow0⟩ := hR.row hx
        obtain ⟨b0', o0', P1, m1, d1, he1, _, g1, hrow1⟩ := hR.row hpn
        injection he1 with he1; injection he1 with e1 e2 _; subst e1 e2
        have g0b := ((keeps hbl).1 b0 (o0 + x) hb0).trans g0
        have g1b := ((keeps hbl).1 b0 (o0 + p) hb0).trans g1
        have hrow0b := hrow0.below (Nat.le_refl _) hbl
        have hrow1b := hrow1.below (Nat.le_refl _) hbl
        have hpG : p < (toG Ps).length := by rw [HE.out.2.1]; exact hpn
        have hmb := mate_bl (G := toG Ps) (a := x) hpG
        rw [HE.out.2.1] at hmb
        have HO := Lib.hid (And.intro ho (And.intro hbl (And.intro hrow0b (And.intro hrow1b hmb)))); clear ho hbl hrow0 hrow1 hrow0b hrow1b g0 g1 hpG hmb
        go_wp2_with fail
        refine (has_refN P0 m0 d0 (nth (toG Ps) x) p _ HO.out.2.2.1).mono ?_
        rintro e w2 ⟨rfl, rfl⟩
        have hstart : ∀ bn : Bool, (bn = true ↔ p ∈ nth (toG Ps) x ∨ x ∈ nth (toG Ps) p) → (bn = true ↔ Mate (toG Ps) x p 0) := fun bn hb => by
          unfold Mate
          rw [hb]
          constructor
          · rintro (h | h); exact .inl h; exact .inr (.inl h)
          · rintro (h | h | ⟨m, h, _⟩); exact .inl h; exact .inr h; omega
        have HS := Lib.hid hstart; clear hstart
        -- what is left of the round, once near is known
        by_cases h1 : p ∈ nth (toG Ps) x
        · have HM := Lib.hid (HS.out true ⟨fun _ => .inl h1, fun _ => rfl⟩)
          have hd1 : decide (p ∈ nth (toG Ps) x) = true := decide_eq_true h1
          rw [hd1]
          clear h1 hd1
          go_wp2_with fail
          go_loopw [9, 10] (fun nr j wr => ∃ (q : Nat) (bn : Bool), nr = .bool bn ∧ (bn = true ↔ Mate (toG Ps) x p q) ∧ j = .int .i64 (q : Nat) ∧ q ≤ n ∧ wr = w2) (fun _ j _ => n - (intOf j).toNat)
          case atStart => exact ⟨0, true, rfl, by simpa using HM.out, rfl, Nat.zero_le _, rfl⟩
          case round =>
            obtain ⟨q, bn, rfl, hbn, rfl, hq, hwr⟩ := hrel
            have hwr := hwr.symm
            subst hwr
            by_cases hqn : q < n
            · obtain ⟨b5', o5', P5, m5, d5, he5, _, g5, hrow5⟩ := hR.row hqn
              injection he5 with he5; injection he5 with e1 e2 _; subst e1 e2
              have g5b := ((keeps HO.out.2.1).1 b0 (o0 + q) hb0).trans g5
              have hrow5b := hrow5.below (Nat.le_refl _) HO.out.2.1
              have hms := mate_succ (G := toG Ps) (a := x) (p := p) (q := q)
              have HQ := Lib.hid (And.intro hbn (And.intro hms hrow5b)); clear hbn hms hrow5 hrow5b g5
              go_wp2_with fail
              refine (has_refN P5 m5 d5 (nth (toG Ps) q) x _ HQ.out.2.2).mono ?_
              rintro e w7 ⟨rfl, rfl⟩
              by_cases h7 : x ∈ nth (toG Ps) q
              · have hd7 : decide (x ∈ nth (toG Ps) q) = true := decide_eq_true h7
                rw [hd7]
                have H7 := Lib.hid h7
                clear h7 hd7
                go_wp2_with fail
                refine (has_refN P5 m5 d5 (nth (toG Ps) q) p _ HQ.out.2.2).mono ?_
                rintro e w8 ⟨rfl, rfl⟩
                obtain ⟨b8, hb8⟩ : ∃ b8, decide (p ∈ nth (toG Ps) q) = b8 := ⟨_, rfl⟩
                rw [hb8]
                have H8 := Lib.hid (show b8 = true ↔ p ∈ nth (toG Ps) q by rw [← hb8, decide_eq_true_iff]); clear hb8
                rcases bn with _ | _
                · go_wp2_with fail
                  exact ⟨⟨q + 1, b8, rfl, by rw [HQ.out.2.1, ← HQ.out.1, H8.out]; exact ⟨fun h => .inr ⟨H7.out, h⟩, fun h => (h.resolve_left (by simp)).2⟩, by go_num, by omega, trivial⟩, by simp [intOf]; omega⟩
                · go_wp2_with fail
                  exact ⟨⟨q + 1, true, rfl, ⟨fun _ => HQ.out.2.1.2 (.inl (HQ.out.1.1 (by simp))), fun _ => rfl⟩, by go_num, by omega, trivial⟩, by simp [intOf]; omega⟩
              · have hd7 : decide (x ∈ nth (toG Ps) q) = false := decide_eq_false h7
                rw [hd7]
                have H7 := Lib.hid h7
                clear h7 hd7
                rcases bn with _ | _
                · go_wp2_with fail
                  exact ⟨⟨q + 1, false, rfl, ⟨fun h => (by cases h), fun h => by rcases HQ.out.2.1.1 h with h | h; exact HQ.out.1.2 h; exact absurd h.1 H7.out⟩, by go_num, by omega, trivial⟩, by simp [intOf]; omega⟩
                · go_wp2_with fail
                  exact ⟨⟨q + 1, true, rfl, ⟨fun _ => HQ.out.2.1.2 (.inl (HQ.out.1.1 (by simp))), fun _ => rfl⟩, by go_num, by omega, trivial⟩, by simp [intOf]; omega⟩
            · obtain rfl : q = n := by omega
              have HQ := Lib.hid hbn; clear hbn
              have hos := HO.out.1.alloc (.cells #[.int .i64 (p : Int)] 3)
              have hsz := HO.out.2.1.size
              rcases bn with _ | _
              · have hnot : ¬ Bl (toG Ps) x p := fun h => by have := HQ.out.2 (HO.out.2.2.2.2.2 h).1; cases this
                have HP := Lib.hid (ptsOf_succ p (Bl (toG Ps) x) false ⟨fun h => (by cases h), fun h => absurd h hnot⟩); clear hnot
                go_wp2_with fail
                refine ⟨⟨p + 1, k, d, B, rfl, by go_num, by omega, ?_, HO.out.2.1⟩, by simp [intOf]; omega⟩
                rw [HP.out]; simpa using HO.out.1
              · by_cases hpx : p = x
                · subst hpx
                  have HP := Lib.hid (ptsOf_succ p (Bl (toG Ps) p) false ⟨fun h => (by cases h), fun h => absurd rfl h.1⟩)
                  go_wp2_with fail
                  refine ⟨⟨p + 1, k, d, B, rfl, by go_num, by omega, ?_, HO.out.2.1⟩, by simp [intOf]; omega⟩
                  rw [HP.out]; simpa using HO.out.1
                · have hpx' : ¬ ((p : Nat) : Int) = ((x : Nat) : Int) := by omega
                  have HP := Lib.hid (ptsOf_succ p (Bl (toG Ps) x) true ⟨fun _ => HO.out.2.2.2.2.1 ⟨HQ.out.1 (by simp), hpx⟩, fun _ => rfl⟩)
                  go_wp2_with (first
                    | (at_builtin; refine wpList_app _ eiInt eN one_eN rfl _ _ rfl w1.heap.size _ _ _ _ rfl hos _ _ _ _ rfl (Sl.one (enc := eN) _ _ _) (by omega) (by simp; omega) ?_)
                    | fail)
                  intro A9 c9 w9 ho9 _ hb9 _
                  have hb10 := (HO.out.2.1.alloc hsz (.cells #[.int .i64 (p : Int)] 3)).trans hb9
                  have H9 := Lib.hid (And.intro ho9 hb10); clear ho9 hb9 hb10 hos
                  go_wp2_with fail
                  refine ⟨⟨p + 1, k + 1, c9, A9, rfl, by go_num, by omega, ?_, H9.out.2⟩, by simp [intOf]; omega⟩
                  rw [HP.out]; exact H9.out.1
        · have hd1 : decide (p ∈ nth (toG Ps) x) = false := decide_eq_false h1
          rw [hd1]
          have HN := Lib.hid h1
          clear h1 hd1
          go_wp2_with fail
          refine (has_refN P1 m1 d1 (nth (toG Ps) p) x _ HO.out.2.2.2.1).mono ?_
          rintro e w3 ⟨rfl, rfl⟩
          obtain ⟨bn0, hbn0⟩ : ∃ bn0, decide (x ∈ nth (toG Ps) p) = bn0 := ⟨_, rfl⟩
          rw [hbn0]
          have HM := Lib.hid (HS.out bn0 (by rw [← hbn0, decide_eq_true_iff]; exact ⟨.inr, fun h => h.resolve_left HN.out⟩))
          clear hbn0
          go_wp2_with fail
          go_loopw [9, 10] (fun nr j wr => ∃ (q : Nat) (bn : Bool), nr = .bool bn ∧ (bn = true ↔ Mate (toG Ps) x p q) ∧ j = .int .i64 (q : Nat) ∧ q ≤ n ∧ wr = w3) (fun _ j _ => n - (intOf j).toNat)
          case atStart => exact ⟨0, bn0, rfl, HM.out, rfl, Nat.zero_le _, rfl⟩
          case round =>
            obtain ⟨q, bn, rfl, hbn, rfl, hq, hwr⟩ := hrel
            have hwr := hwr.symm
            subst hwr
            by_cases hqn : q < n
            · obtain ⟨b5', o5', P5, m5, d5, he5, _, g5, hrow5⟩ := hR.row hqn
              injection he5 with he5; injection he5 with e1 e2 _; subst e1 e2
              have g5b := ((keeps HO.out.2.1).1 b0 (o0 + q) hb0).trans g5
              have hrow5b := hrow5.below (Nat.le_refl _) HO.out.2.1
              have hms := mate_succ (G := toG Ps) (a := x) (p := p) (q := q)
              have HQ := Lib.hid (And.intro hbn (And.intro hms hrow5b)); clear hbn hms hrow5 hrow5b g5
              go_wp2_with fail
              refine (has_refN P5 m5 d5 (nth (toG Ps) q) x _ HQ.out.2.2).mono ?_
              rintro e w7 ⟨rfl, rfl⟩
              by_cases h7 : x ∈ nth (toG Ps) q
              · have hd7 : decide (x ∈ nth (toG Ps) q) = true := decide_eq_true h7
                rw [hd7]
                have H7 := Lib.hid h7
                clear h7 hd7
                go_wp2_with fail
                refine (has_refN P5 m5 d5 (nth (toG Ps) q) p _ HQ.out.2.2).mono ?_
                rintro e w8 ⟨rfl, rfl⟩
                obtain ⟨b8, hb8⟩ : ∃ b8, decide (p ∈ nth (toG Ps) q) = b8 := ⟨_, rfl⟩
                rw [hb8]
                have H8 := Lib.hid (show b8 = true ↔ p ∈ nth (toG Ps) q by rw [← hb8, decide_eq_true_iff]); clear hb8
                rcases bn with _ | _
                · go_wp2_with fail
                  exact ⟨⟨q + 1, b8, rfl, by rw [HQ.out.2.1, ← HQ.out.1, H8.out]; exact ⟨fun h => .inr ⟨H7.out, h⟩, fun h => (h.resolve_left (by simp)).2⟩, by go_num, by omega, trivial⟩, by simp [intOf]; omega⟩
                · go_wp2_with fail
                  exact ⟨⟨q + 1, true, rfl, ⟨fun _ => HQ.out.2.1.2 (.inl (HQ.out.1.1 (by simp))), fun _ => rfl⟩, by go_num, by omega, trivial⟩, by simp [intOf]; omega⟩
              · have hd7 : decide (x ∈ nth (toG Ps) q) = false := decide_eq_false h7
                rw [hd7]
                have H7 := Lib.hid h7
                clear h7 hd7
                rcases bn with _ | _
                · go_wp2_with fail
                  exact ⟨⟨q + 1, false, rfl, ⟨fun h => (by cases h), fun h => by rcases HQ.out.2.1.1 h with h | h; exact HQ.out.1.2 h; exact absurd h.1 H7.out⟩, by go_num, by omega, trivial⟩, by simp [intOf]; omega⟩
                · go_wp2_with fail
                  exact ⟨⟨q + 1, true, rfl, ⟨fun _ => HQ.out.2.1.2 (.inl (HQ.out.1.1 (by simp))), fun _ => rfl⟩, by go_num, by omega, trivial⟩, by simp [intOf]; omega⟩
            · obtain rfl : q = n := by omega
              have HQ := Lib.hid hbn; clear hbn
              have hos := HO.out.1.alloc (.cells #[.int .i64 (p : Int)] 3)
              have hsz := HO.out.2.1.size
              rcases bn with _ | _
              · have hnot : ¬ Bl (toG Ps) x p := fun h => by have := HQ.out.2 (HO.out.2.2.2.2.2 h).1; cases this
                have HP := Lib.hid (ptsOf_succ p (Bl (toG Ps) x) false ⟨fun h => (by cases h), fun h => absurd h hnot⟩); clear hnot
                go_wp2_with fail
                refine ⟨⟨p + 1, k, d, B, rfl, by go_num, by omega, ?_, HO.out.2.1⟩, by simp [intOf]; omega⟩
                rw [HP.out]; simpa using HO.out.1
              · by_cases hpx : p = x
                · subst hpx
                  have HP := Lib.hid (ptsOf_succ p (Bl (toG Ps) p) false ⟨fun h => (by cases h), fun h => absurd rfl h.1⟩)
                  go_wp2_with fail
                  refine ⟨⟨p + 1, k, d, B, rfl, by go_num, by omega, ?_, HO.out.2.1⟩, by simp [intOf]; omega⟩
                  rw [HP.out]; simpa using HO.out.1
                · have hpx' : ¬ ((p : Nat) : Int) = ((x : Nat) : Int) := by omega
                  have HP := Lib.hid (ptsOf_succ p (Bl (toG Ps) x) true ⟨fun _ => HO.out.2.2.2.2.1 ⟨HQ.out.1 (by simp), hpx⟩, fun _ => rfl⟩)
                  go_wp2_with (first
                    | (at_builtin; refine wpList_app _ eiInt eN one_eN rfl _ _ rfl w1.heap.size _ _ _ _ rfl hos _ _ _ _ rfl (Sl.one (enc := eN) _ _ _) (by omega) (by simp; omega) ?_)
                    | fail)
                  intro A9 c9 w9 ho9 _ hb9 _
                  have hb10 := (HO.out.2.1.alloc hsz (.cells #[.int .i64 (p : Int)] 3)).trans hb9
                  have H9 := Lib.hid (And.intro ho9 hb10); clear ho9 hb9 hb10 hos
                  go_wp2_with fail
                  refine ⟨⟨p + 1, k + 1, c9, A9, rfl, by go_num, by omega, ?_, H9.out.2⟩, by simp [intOf]; omega⟩
                  rw [HP.out]; exact H9.out.1
      · obtain rfl : p = n := by omega
        have hsl := (ho.sl (by omega)).toInt
        have HF := Lib.hid (And.intro hsl hbl); clear hsl ho hbl
        go_wp2_with fail
        go_ret2
        refine ⟨HE.out.2.2.trans (HF.out.2.mono HE.out.2.2.size), B, k, d, by rw [HE.out.1]; rfl, fun h => absurd HE.out.1 h, fun _ => ?_⟩
        rw [HL.out]
        simp only [Int.toNat_natCast]
        exact HF.out.1
  · have HF := Lib.hid (And.intro hbl hE); clear hbl
    go_wp2_with fail
    go_ret2
    exact ⟨HF.out.1, none, 0, 0, rfl, fun _ => ⟨rfl, rfl, rfl⟩, fun h => absurd h hE⟩
end Go.Proofs.Ytaibdlnolpbpiaa
