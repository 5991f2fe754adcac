/- Joined by program out of: TellLaw, TellFn, TellFn2, RefPrune, RefKept. What each says stands at its own head. -/
import Derived.Test.YtdlnglffimcopaaPruneLaw
import Derived.Test.YtdlnglffimcopaaAlive
import Derived.Test.YtdlnglffimcopaaHuntAll
import Derived.Test.YtdlnglffimcopaaKept
import Derived.Test.YtdlnglffimcopaaMany
/- Plain law: passes over all pairs of points come to all that is joined, around what is given; this is what is not apart. Condition: parents that may be, points that are there. -/
namespace Go.Proofs.Ytdlnglffimcopaa

/-- come to from a point -/
inductive FE (E : Nat → Nat → Prop) (N fr : Nat) : Nat → Prop
  | base : FE E N fr fr
  | step {p q : Nat} : FE E N fr p → E p q → q < N → FE E N fr q
def Shut (E : Nat → Nat → Prop) (N : Nat) (S : List Bool) : Prop := ∀ a b, a < N → b < N → nth S a = true → E a b → nth S b = true
def seenN (S : List Bool) : Nat := S.countP fun b => b
theorem seenN_set : ∀ {S : List Bool} {q : Nat}, q < S.length → nth S q = false → seenN (S.set q true) = seenN S + 1
  | [], q, h, _ => by simp at h
  | b :: S, 0, _, h => by
    have : b = false := h
    subst this
    unfold seenN
    simp
  | b :: S, q + 1, h, h0 => by
    have h1 : nth S q = false := by
      have : nth (b :: S) (q + 1) = nth S q := by simp [nth]
      rw [← this]; exact h0
    have := seenN_set (S := S) (q := q) (by simpa using h) h1
    unfold seenN at this ⊢
    rw [List.set_cons_succ, List.countP_cons, List.countP_cons]
    omega
theorem seenN_le (S : List Bool) : seenN S ≤ S.length := List.countP_le_length
/-- what holds at all times -/
structure TA (E : Nat → Nat → Prop) (N fr : Nat) (S : List Bool) : Prop where
  len : S.length = N
  snd : ∀ q, q < N → nth S q = true → FE E N fr q
  fst : nth S fr = true
/-- behind t passes -/
structure TP (E : Nat → Nat → Prop) (N fr t : Nat) (S : List Bool) : Prop where
  ta : TA E N fr S
  prog : Shut E N S ∨ t + 1 ≤ seenN S
/-- in a pass that began with S0: the points ahead of a, and of a's the ones ahead of b -/
structure TI (E : Nat → Nat → Prop) (N fr a b : Nat) (S0 S : List Bool) : Prop where
  ta : TA E N fr S
  prog : (S = S0 ∧ (∀ x y, x < a → y < N → nth S0 x = true → E x y → nth S0 y = true) ∧ (nth S0 a = true → ∀ y, y < b → E a y → nth S0 y = true)) ∨ (¬ Shut E N S0 ∧ seenN S0 + 1 ≤ seenN S)
section
variable {E : Nat → Nat → Prop} {N fr t a b : Nat} {S S0 : List Bool}
theorem seen_set (hl : b < S.length) (p : Nat) : nth (S.set b true) p = true ↔ nth S p = true ∨ p = b := by
  by_cases e : b = p
  · subst e; rw [nth_set_same hl]; simp
  · rw [nth_set_other e]
    constructor
    · exact .inl
    · rintro (h | h)
      · exact h
      · exact absurd h.symm e
theorem TP.start (hfr : fr < N) : TP E N fr 0 ((List.replicate N false).set fr true) := by
  have hl : fr < (List.replicate N false).length := by simpa using hfr
  refine ⟨⟨by simp, fun q hq h => ?_, by rw [nth_set_same hl]⟩, .inr ?_⟩
  · rcases (seen_set hl q).1 h with h1 | h1
    · rw [nth_eq (by simpa using hq)] at h1; simp at h1
    · subst h1; exact .base
  · rw [seenN_set hl (by rw [nth_eq hl]; simp)]; omega
theorem TP.begin (h : TP E N fr t S) : TI E N fr 0 0 S S := ⟨h.ta, .inl ⟨rfl, fun x y hx => by omega, fun _ y hy => by omega⟩⟩
/-- nothing turns at b -/
theorem TI.skip (h : TI E N fr a b S0 S) (hs : ¬ E a b ∨ nth S b = true) : TI E N fr a (b + 1) S0 S :=
  ⟨h.ta, h.prog.imp (fun ⟨e, h1, h2⟩ => ⟨e, h1, fun ha y hy he => by
    rcases Nat.lt_or_ge y b with h3 | h3
    · exact h2 ha y h3 he
    · obtain rfl : y = b := by omega
      rcases hs with h4 | h4
      · exact absurd he h4
      · rwa [← e]⟩) id⟩
theorem TI.put (h : TI E N fr a b S0 S) (ha : a < N) (hb : b < N) (hsa : nth S a = true) (he : E a b) (hsb : nth S b = false) : TI E N fr a (b + 1) S0 (S.set b true) := by
  have hl : b < S.length := by rw [h.ta.len]; exact hb
  refine ⟨⟨by simp [h.ta.len], fun q hq hs => ?_, (seen_set hl fr).2 (.inl h.ta.fst)⟩, .inr ?_⟩
  · rcases (seen_set hl q).1 hs with h1 | h1
    · exact h.ta.snd q hq h1
    · subst h1; exact .step (h.ta.snd a ha hsa) he hb
  · rw [seenN_set hl hsb]
    rcases h.prog with ⟨rfl, _⟩ | ⟨h1, h2⟩
    · exact ⟨fun hsh => (by have := hsh a b ha hb hsa he; rw [this] at hsb; cases hsb), by omega⟩
    · exact ⟨h1, by omega⟩
/-- a is gone over -/
theorem TI.next (h : TI E N fr a b S0 S) (hb : b = N ∨ nth S a = false) : TI E N fr (a + 1) 0 S0 S :=
  ⟨h.ta, h.prog.imp (fun ⟨e, h1, h2⟩ => ⟨e, (fun x y hx hy hsx he => by
    rcases Nat.lt_or_ge x a with h3 | h3
    · exact h1 x y h3 hy hsx he
    · obtain rfl : x = a := by omega
      rcases hb with rfl | h4
      · exact h2 hsx y hy he
      · rw [e] at h4; rw [h4] at hsx; cases hsx), fun _ y hy => by omega⟩) id⟩
theorem TI.done (h : TI E N fr N 0 S0 S) (h0 : TP E N fr t S0) : TP E N fr (t + 1) S :=
  ⟨h.ta, by
    rcases h.prog with ⟨rfl, h1, _⟩ | ⟨h1, h2⟩
    · exact .inl fun a b ha hb hs he => h1 a b ha hb hs he
    · rcases h0.prog with h3 | h3
      · exact absurd h3 h1
      · exact .inr (by omega)⟩
theorem TP.all (h : TP E N fr N S) (hfr : fr < N) {q : Nat} (hq : q < N) : nth S q = true ↔ FE E N fr q := by
  refine ⟨h.ta.snd q hq, fun hf => ?_⟩
  have hsh : Shut E N S := by
    rcases h.prog with h1 | h1
    · exact h1
    · have := seenN_le S; rw [h.ta.len] at this; omega
  have key : ∀ q, FE E N fr q → q < N ∧ nth S q = true := fun q hq => by
    induction hq with
    | base => exact ⟨hfr, h.ta.fst⟩
    | step _ he hq ih => exact ⟨hq, hsh _ _ ih.1 hq ih.2 he⟩
  exact (key q hf).2
end
/-- joined in the moral graph of some points, as Go's lists say it -/
def JoinP (Ps : List (List Int)) (In : Nat → Prop) (a b : Nat) : Prop := (b : Int) ∈ nth Ps a ∨ (a : Int) ∈ nth Ps b ∨ ∃ c, c < Ps.length ∧ In c ∧ (a : Int) ∈ nth Ps c ∧ (b : Int) ∈ nth Ps c
section
variable {Ps : List (List Int)} {a b given : List Int}
theorem mem_toG {i : Nat} {p : Nat} (hr : inR Ps = true) (hi : i < Ps.length) : p ∈ nth (toG Ps) i ↔ (p : Int) ∈ nth Ps i := by
  rw [nth_toG hi, List.mem_map]
  constructor
  · rintro ⟨q, hq, rfl⟩
    have := inR_row hr hi q hq
    rwa [Int.toNat_of_nonneg this.1]
  · intro h; exact ⟨_, h, by simp⟩
theorem join_jnd (hr : inR Ps = true) {In : Nat → Prop} {x y : Nat} (hx : x < Ps.length) (hy : y < Ps.length) : JoinP Ps In x y ↔ Jnd (toG Ps) In x y := by
  unfold JoinP Jnd
  constructor
  · rintro (h | h | ⟨c, h1, h2, h3, h4⟩)
    · exact .inr (.inl ((mem_toG hr hx).2 h))
    · exact .inl ((mem_toG hr hy).2 h)
    · exact .inr (.inr ⟨c, h2, (mem_toG hr h1).2 h3, (mem_toG hr h1).2 h4⟩)
  · rintro (h | h | ⟨c, h2, h3, h4⟩)
    · exact .inr (.inl ((mem_toG hr hy).1 h))
    · exact .inl ((mem_toG hr hx).1 h)
    · have hc : c < Ps.length := by have := len_of_mem h3; rwa [toG_length] at this
      exact .inr (.inr ⟨c, hc, h2, (mem_toG hr hc).1 h3, (mem_toG hr hc).1 h4⟩)
/-- all above some points, as a list of points -/
noncomputable def tIn (Ps : List (List Int)) (l : List Int) (x : Nat) : Prop := x ∈ upList (toG Ps) (l.map Int.toNat)
/-- where a pair goes on -/
def tE (Ps : List (List Int)) (l given : List Int) (x y : Nat) : Prop := tIn Ps l y ∧ zB given y = false ∧ JoinP Ps (tIn Ps l) x y
theorem tell_apart (hc : checkP Ps = 0) {fr : Nat} (hfr : fr < Ps.length) (hb : InN Ps.length b) (hg : InN Ps.length given) (hz : zB given fr = false) :
    apartB Ps [(fr : Int)] b given = true ↔ ∀ y, y ∈ b → ¬ FE (tE Ps ([(fr : Int)] ++ b ++ given) given) Ps.length fr y.toNat := by
  have ha : InN Ps.length [(fr : Int)] := fun x hx => by rw [List.mem_singleton] at hx; omega
  have hl := lookE_ok hc hg.row (ha.app hb).row
  have hr := (checkP_ok hc).1
  have hgood := good_toG hr
  have hin : ∀ z, z ∈ given → 0 ≤ z ∧ z < ((toG Ps).length : Int) := fun z hz => by rw [toG_length]; exact hg z hz
  have hall := (ha.app hb).app hg
  have hs : ∀ x, x ∈ ([(fr : Int)] ++ b ++ given).map Int.toNat → x < (toG Ps).length := fun x hx => by
    obtain ⟨y, hy, rfl⟩ := List.mem_map.1 hx
    have := hall y hy
    rw [toG_length]; omega
  have hIn : ∀ x, tIn Ps ([(fr : Int)] ++ b ++ given) x ↔ InM (toG Ps) (Zp given) (· ∈ [(fr : Int)].map Int.toNat) (· ∈ b.map Int.toNat) x := fun x => by
    unfold tIn InM
    rw [mem_upList hgood hs]
    have e : ∀ x, x ∈ ([(fr : Int)] ++ b ++ given).map Int.toNat ↔ (x ∈ [(fr : Int)].map Int.toNat ∨ x ∈ b.map Int.toNat ∨ Zp given x) := fun x => by
      have ez : Zp given x ↔ x ∈ given.map Int.toNat := by
        unfold Zp zB
        rw [decide_eq_true_iff, List.mem_map]
        constructor
        · intro h; exact ⟨_, h, by simp⟩
        · rintro ⟨y, hy, rfl⟩
          have := hg y hy
          rwa [Int.toNat_of_nonneg this.1]
      rw [ez, List.map_append, List.map_append, List.mem_append, List.mem_append, or_assoc]
    constructor <;> exact fun h => Up.mono (fun y hy => by first | exact (e y).1 hy | exact (e y).2 hy) h
  have hlt : ∀ x, tIn Ps ([(fr : Int)] ++ b ++ given) x → x < Ps.length := fun x hx => by
    unfold tIn upList at hx
    have := (mem_ptsOf.1 hx).1
    rwa [toG_length] at this
  have hZ : ∀ q, zB given q = false ↔ ¬ Zp given q := fun q => by unfold Zp; simp
  have hcong : tIn Ps ([(fr : Int)] ++ b ++ given) = InM (toG Ps) (Zp given) (· ∈ [(fr : Int)].map Int.toNat) (· ∈ b.map Int.toNat) := funext fun x => propext (hIn x)
  have hfe : ∀ q, FE (tE Ps ([(fr : Int)] ++ b ++ given) given) Ps.length fr q ↔ Mor (toG Ps) (InM (toG Ps) (Zp given) (· ∈ [(fr : Int)].map Int.toNat) (· ∈ b.map Int.toNat)) (Zp given) (· ∈ [(fr : Int)].map Int.toNat) q := fun q => by
    rw [← hcong]
    have hfi : tIn Ps ([(fr : Int)] ++ b ++ given) fr := (hIn fr).2 (.base (.inl (by simp)))
    constructor
    · intro h
      suffices hh : q < Ps.length ∧ Mor (toG Ps) (tIn Ps ([(fr : Int)] ++ b ++ given)) (Zp given) (· ∈ [(fr : Int)].map Int.toNat) q from hh.2
      induction h with
      | base => exact ⟨hfr, .base (by simp) ((hZ _).1 hz)⟩
      | @step p q _ he hq ih =>
        obtain ⟨h1, h2, h3⟩ := he
        exact ⟨hq, ih.2.step ((join_jnd hr ih.1 hq).1 h3) h1 ((hZ _).1 h2)⟩
    · intro h
      induction h with
      | @base x ha _ =>
        have : x = fr := by simpa using ha
        subst this; exact .base
      | @step x y hm hj hi hzz ih =>
        have hx : x < Ps.length := hlt x (hm.inn (fun a ha => by
          have : a = fr := by simpa using ha
          subst this; exact hfi)).1
        exact ih.step ⟨hi, (hZ _).2 hzz, (join_jnd hr hx (hlt y hi)).2 hj⟩ (hlt y hi)
  have key := (told_hit (Ps := Ps) (a := [(fr : Int)]) (given := given) hb).trans (moral_iff (abOk hgood hin) (ap_up hgood hin))
  rw [apart_iff hl]
  constructor
  · intro h y hy hf
    obtain ⟨z, hz, hz2⟩ := key.2 ⟨y.toNat, List.mem_map.2 ⟨y, hy, rfl⟩, (hfe _).1 hf⟩
    exact h z hz hz2
  · intro h y hy ht
    obtain ⟨x, hx, hm⟩ := key.1 ⟨y, hy, ht⟩
    obtain ⟨z, hz, rfl⟩ := List.mem_map.1 hx
    exact h z hz ((hfe _).2 hm)
end
end Go.Proofs.Ytdlnglffimcopaa
/- credenceref17's joined and Tells, walked: does a point tell something of some others, by the moral graph? Conditions: parents that may be, points that are there, few. -/
namespace Go.Proofs.Ytdlnglffimcopaa
open Go.RowKit

theorem has_rb (b : Bool) (A : Option Addr) (n c : Nat) (xs : List Int) (x : Int) (w : World) (h : Sl (Value.int .i64) w A n xs) (hb : decide (x ∈ xs) = b) :
    Calls Try.prog 34 #[.slice A n c, .int .i64 x] w fun e w' => e = .returned (.bool b) ∧ w = w' := by
  subst hb; exact (has_ref A n c xs x w h).mono fun _ _ h => ⟨h.1, h.2.symm⟩
open Classical in
noncomputable def joinB (Ps : List (List Int)) (L : List Bool) (a b : Nat) : Bool := decide (JoinP Ps (fun c => nth L c = true) a b)
open Classical in
theorem joinB_iff {Ps : List (List Int)} {L : List Bool} {a b : Nat} : joinB Ps L a b = true ↔ JoinP Ps (fun c => nth L c = true) a b := by unfold joinB; exact decide_eq_true_iff
theorem joinB_no {Ps : List (List Int)} {L : List Bool} {a b : Nat} (h : ¬ JoinP Ps (fun c => nth L c = true) a b) : joinB Ps L a b = false := by
  cases hb : joinB Ps L a b
  · rfl
  · exact absurd (joinB_iff.1 hb) h
set_option maxRecDepth 100000 in
set_option maxHeartbeats 800000 in
theorem joined_any (A I : Option Addr) (n c ci : Nat) (Ps : List (List Int)) (L : List Bool) (a b : Nat) (w : World) (h : Rows (Value.int .i64) w A n Ps) (hI : Sl eB w I n L) (ha : a < n) (hb : b < n) :
    Calls Try.prog 133 #[.slice A n c, .slice I n ci, .int .i64 (a : Int), .int .i64 (b : Int)] w fun e w' => e = .returned (.bool (joinB Ps L a b)) ∧ w = w' := by
  have hbig := h.big
  obtain ⟨wa, hwa⟩ : ∃ wa : World, wa = w := ⟨_, rfl⟩
  subst hwa
  obtain ⟨bA, oA, R1, m1, q1, e1, hbA, g1, hr1⟩ := h.row ha
  obtain ⟨bA2, oA2, R2, m2, q2, e2, _, g2, hr2⟩ := h.row hb
  rw [e1] at e2
  injection e2 with e2
  injection e2 with e2 e3 _
  subst e2 e3
  have hai : (a : Int) < (n : Nat) := by omega
  have hbi : (b : Int) < (n : Nat) := by omega
  have HI := Lib.hid (And.intro h (And.intro hI h.len))
  obtain ⟨x1, hx1⟩ : ∃ x, x = decide ((b : Int) ∈ nth Ps a) := ⟨_, rfl⟩
  obtain ⟨x2, hx2⟩ : ∃ x, x = decide ((a : Int) ∈ nth Ps b) := ⟨_, rfl⟩
  have HX := Lib.hid (And.intro hx1 (And.intro hx2 (And.intro hr1 hr2)))
  subst e1
  clear h hI hx1 hx2 hr1 hr2
  cases x1 with
  | true =>
    have HJ := Lib.hid (show joinB Ps L a b = true from joinB_iff.2 (.inl (by simpa using HX.out.1.symm)))
    go_enter Try.func133, Try.ntmps133
    go_wp2_with fail
    refine (has_rb true _ _ _ _ _ _ HX.out.2.2.1 HX.out.1.symm).mono ?_
    rintro e w9 ⟨rfl, rfl⟩
    go_wp2_with fail
    go_ret
    exact ⟨ret_bool HJ.out.symm, rfl⟩
  | false =>
    cases x2 with
    | true =>
      have HJ := Lib.hid (show joinB Ps L a b = true from joinB_iff.2 (.inr (.inl (by simpa using HX.out.2.1.symm))))
      go_enter Try.func133, Try.ntmps133
      go_wp2_with fail
      refine (has_rb false _ _ _ _ _ _ HX.out.2.2.1 HX.out.1.symm).mono ?_
      rintro e w9 ⟨rfl, rfl⟩
      go_wp2_with fail
      refine (has_rb true _ _ _ _ _ _ HX.out.2.2.2 HX.out.2.1.symm).mono ?_
      rintro e w9 ⟨rfl, rfl⟩
      go_wp2_with fail
      go_ret
      exact ⟨ret_bool HJ.out.symm, rfl⟩
    | false =>
      have hn1 : ¬ (b : Int) ∈ nth Ps a := by simpa using HX.out.1.symm
      have hn2 : ¬ (a : Int) ∈ nth Ps b := by simpa using HX.out.2.1.symm
      have HN := Lib.hid (And.intro hn1 hn2)
      clear hn1 hn2
      go_enter Try.func133, Try.ntmps133
      go_wp2_with fail
      refine (has_rb false _ _ _ _ _ _ HX.out.2.2.1 HX.out.1.symm).mono ?_
      rintro e w9 ⟨rfl, rfl⟩
      go_wp2_with fail
      refine (has_rb false _ _ _ _ _ _ HX.out.2.2.2 HX.out.2.1.symm).mono ?_
      rintro e w9 ⟨rfl, rfl⟩
      go_wp2_with fail
      clear g1 g2
      go_loopw [9] (fun i wr => ∃ k : Nat, i = .int .i64 (k : Nat) ∧ k ≤ n ∧ (∀ c, c < k → ¬ (nth L c = true ∧ (a : Int) ∈ nth Ps c ∧ (b : Int) ∈ nth Ps c)) ∧ wr = wa) (fun i _ => n - (intOf i).toNat)
      case atStart => exact ⟨0, rfl, Nat.zero_le _, fun c hc => by omega, rfl⟩
      case round => as_aux_lemma =>
        obtain ⟨k, rfl, hk, hno, hwr⟩ := hrel
        have hwr := hwr.symm
        subst hwr
        by_cases hlt : k < n
        · have hki : (k : Int) < (n : Nat) := by omega
          obtain ⟨bI, oI, rfl, _, hcI⟩ := HI.out.2.1.at' (by omega)
          have g3 := hcI k hlt
          obtain ⟨bA3, oA3, R3, m3, q3, e3, _, g4, hr3⟩ := HI.out.1.row hlt
          injection e3 with e3
          injection e3 with e4 e5 _
          subst e4 e5
          obtain ⟨y0, hy0⟩ : ∃ y, y = nth L k := ⟨_, rfl⟩
          obtain ⟨y1, hy1⟩ : ∃ y, y = decide ((a : Int) ∈ nth Ps k) := ⟨_, rfl⟩
          obtain ⟨y2, hy2⟩ : ∃ y, y = decide ((b : Int) ∈ nth Ps k) := ⟨_, rfl⟩
          rw [← hy0] at g3
          have hnx : ¬ (y0 = true ∧ y1 = true ∧ y2 = true) → ∀ c, c < k + 1 → ¬ (nth L c = true ∧ (a : Int) ∈ nth Ps c ∧ (b : Int) ∈ nth Ps c) := fun hn c hc => by
            rcases Nat.lt_or_ge c k with h1 | h1
            · exact hno c h1
            · obtain rfl : c = k := by omega
              rw [hy0, hy1, hy2, decide_eq_true_iff, decide_eq_true_iff] at hn
              exact hn
          have hyes : y0 = true → y1 = true → y2 = true → joinB Ps L a b = true := fun h0 h1 h2 => by
            rw [hy0] at h0; rw [hy1, decide_eq_true_iff] at h1; rw [hy2, decide_eq_true_iff] at h2
            exact joinB_iff.2 (.inr (.inr ⟨k, by rw [HI.out.2.2]; exact hlt, h0, h1, h2⟩))
          have HY := Lib.hid (And.intro hnx (And.intro hyes (And.intro hy1 (And.intro hy2 hr3))))
          clear hnx hyes hy0 hy1 hy2 hr3 hcI hno
          cases y0 with
          | false =>
            have HZ := Lib.hid (HY.out.1 (by simp))
            go_wp2_with fail
            exact ⟨⟨k + 1, by go_num, by omega, HZ.out, trivial⟩, by simp [intOf]; omega⟩
          | true =>
            cases y1 with
            | false =>
              have HZ := Lib.hid (HY.out.1 (by simp))
              go_wp2_with fail
              refine (has_rb false _ _ _ _ _ _ HY.out.2.2.2.2 HY.out.2.2.1.symm).mono ?_
              rintro e w9 ⟨rfl, rfl⟩
              go_wp2_with fail
              exact ⟨⟨k + 1, by go_num, by omega, HZ.out, trivial⟩, by simp [intOf]; omega⟩
            | true =>
              cases y2 with
              | false =>
                have HZ := Lib.hid (HY.out.1 (by simp))
                go_wp2_with fail
                refine (has_rb true _ _ _ _ _ _ HY.out.2.2.2.2 HY.out.2.2.1.symm).mono ?_
                rintro e w9 ⟨rfl, rfl⟩
                go_wp2_with fail
                refine (has_rb false _ _ _ _ _ _ HY.out.2.2.2.2 HY.out.2.2.2.1.symm).mono ?_
                rintro e w9 ⟨rfl, rfl⟩
                go_wp2_with fail
                exact ⟨⟨k + 1, by go_num, by omega, HZ.out, trivial⟩, by simp [intOf]; omega⟩
              | true =>
                have HZ := Lib.hid (HY.out.2.1 rfl rfl rfl)
                go_wp2_with fail
                refine (has_rb true _ _ _ _ _ _ HY.out.2.2.2.2 HY.out.2.2.1.symm).mono ?_
                rintro e w9 ⟨rfl, rfl⟩
                go_wp2_with fail
                refine (has_rb true _ _ _ _ _ _ HY.out.2.2.2.2 HY.out.2.2.2.1.symm).mono ?_
                rintro e w9 ⟨rfl, rfl⟩
                go_wp2_with fail
                go_ret
                exact ⟨ret_bool HZ.out.symm, rfl⟩
        · obtain rfl : n = k := by omega
          have HZ := Lib.hid (show joinB Ps L a b = false from joinB_no fun h => by
            rcases h with h | h | ⟨c, h1, h2⟩
            · exact HN.out.1 h
            · exact HN.out.2 h
            · exact hno c (by rw [← HI.out.2.2]; exact h1) h2)
          clear hno
          go_wp2_with fail
          go_ret
          exact ⟨ret_bool HZ.out.symm, rfl⟩
end Go.Proofs.Ytdlnglffimcopaa
/- credenceref17.Tells, walked: does a point tell something of some others, by the moral graph? Conditions: parents that may be, points that are there, few. -/
namespace Go.Proofs.Ytdlnglffimcopaa
open Go.RowKit

theorem joinP_congr {Ps : List (List Int)} {In In' : Nat → Prop} (h : ∀ c, c < Ps.length → (In c ↔ In' c)) (a b : Nat) : JoinP Ps In a b ↔ JoinP Ps In' a b := by
  unfold JoinP
  refine or_congr Iff.rfl (or_congr Iff.rfl ?_)
  constructor
  · rintro ⟨c, h1, h2, h3⟩; exact ⟨c, h1, (h c h1).1 h2, h3⟩
  · rintro ⟨c, h1, h2, h3⟩; exact ⟨c, h1, (h c h1).2 h2, h3⟩
theorem mem_upL_lt {W : List (List Nat)} {S : List Nat} {x : Nat} (h : x ∈ upList W S) : x < W.length := by unfold upList at h; exact (mem_ptsOf.1 h).1
theorem nth_false (n q : Nat) : nth (List.replicate n false) q = false := by
  rcases Nat.lt_or_ge q n with h | h
  · rw [nth_eq (by simpa using h)]; simp
  · simp [nth, List.getD, List.getElem?_eq_none (show (List.replicate n false).length ≤ q by simpa using h)]
/-- a list that was typed out, as the call's own -/
theorem OwnR.lit1 (w : World) (x : Int) : OwnR (Value.int .i64) (w.alloc (.cells #[.int .i64 x] 3)) w.heap.size 3 (some ⟨w.heap.size, 0, none⟩) 1 1 [x] := by
  have hr : RowAt (Value.int .i64) (w.alloc (.cells #[.int .i64 x] 3)) w.heap.size 3 [x] [] := RowC.new w 3 [.int .i64 x]
  exact OwnR.of_row' hr (Nat.le_refl _) rfl (by unfold maxLen; simp) rfl
def TellPost (w : World) (Ps : List (List Int)) (fr : Nat) (asked given : List Int) (e : Ending) (w' : World) : Prop := e = .returned (.bool (!apartB Ps [(fr : Int)] asked given)) ∧ Below w.heap.size w w'
set_option maxRecDepth 100000 in
set_option maxHeartbeats 1600000 in
theorem tells_ref (A B C : Option Addr) (n c m1 d1 m2 d2 fr : Nat) (Ps : List (List Int)) (asked given : List Int) (w : World) (h : Rows (Value.int .i64) w A n Ps) (ha : Sl (Value.int .i64) w B m1 asked) (hg : Sl (Value.int .i64) w C m2 given)
    (hc : checkP Ps = 0) (hfr : fr < n) (hia : InN Ps.length asked) (hig : InN Ps.length given) (hz : zB given fr = false) (hn : n ≤ 1001) (hm1 : m1 ≤ 1000) (hm2 : m2 ≤ 1000) :
    Calls Try.prog 118 #[.slice A n c, .int .i64 (fr : Int), .slice B m1 d1, .slice C m2 d2] w (TellPost w Ps fr asked given) := by
  have hlen := h.len
  obtain ⟨wa, hwa⟩ : ∃ wa : World, wa = w := ⟨_, rfl⟩
  subst hwa
  have HL := Lib.hid (And.intro hlen (And.intro hc (And.intro hia (And.intro hig (And.intro hz (And.intro ha.len hg.len))))))
  have hb0 : Below wa.heap.size wa (wa.alloc (.cells #[.int .i64 (fr : Int)] 3)) := (Below.refl _ _).alloc (Nat.le_refl _) _
  have ho0 := OwnR.lit1 wa (fr : Int)
  have ha0 := ha.alloc (.cells #[.int .i64 (fr : Int)] 3)
  have H0 := Lib.hid (And.intro h (And.intro ha (And.intro hg hb0)))
  have hz0 : wa.heap.size ≤ (wa.alloc (.cells #[.int .i64 (fr : Int)] 3)).heap.size := hb0.size
  clear h ha hg hb0 hlen hc hia hig hz
  go_enter Try.func118, Try.ntmps118
  go_wp2_with (first
    | (at_builtin; (with_reducible refine wpList_app _ eiInt (Value.int .i64) (fun _ => rfl) rfl _ _ rfl wa.heap.size _ _ _ _ rfl ho0 _ _ _ _ rfl ha0 (by omega) hz0 ?_))
    | fail)
  intro A7 c7 w7 ho7 _ hb7 _
  have hb7 := H0.out.2.2.2.trans hb7
  have hz7 := hb7.size
  have hg7 := H0.out.2.2.1.below (Nat.le_refl _) hb7
  have HB := Lib.hid hb7
  clear hb7 ho0 ha0
  go_wp2_with (first
    | (at_builtin; (with_reducible refine wpList_app _ eiInt (Value.int .i64) (fun _ => rfl) rfl _ _ rfl wa.heap.size _ _ _ _ rfl ho7 _ _ _ _ rfl hg7 (by omega) hz7 ?_))
    | fail)
  intro A8 c8 w8 ho8 _ hb8 _
  have hb8 := HB.out.trans hb8
  have hs8 := ho8.sl (by omega)
  have hr8 := H0.out.1.below (Nat.le_refl _) hb8
  have hz8 := hb8.size
  try rw [← List.append_assoc] at hs8
  have HB := Lib.hid hb8
  clear hb8 ho7 hg7 ho8
  go_wp2_with fail
  refine (above_ref A A8 n c _ c8 Ps ([(fr : Int)] ++ asked ++ given) _ hr8 hs8 (by omega) HL.out.2.1).mono ?_
  rintro e w1 ⟨hb1, U, k, d, rfl, hU, _⟩
  have hall : InN Ps.length ([(fr : Int)] ++ asked ++ given) := ((show InN Ps.length [(fr : Int)] from fun x hx => by rw [List.mem_singleton] at hx; rw [HL.out.1]; omega).app HL.out.2.2.1).app HL.out.2.2.2.1
  have hU := hU (by rw [toG_length]; exact hall.row)
  rw [if_pos (show inRow (toG Ps).length ([(fr : Int)] ++ asked ++ given) = true by rw [toG_length]; exact hall.row)]
  have hb1 := HB.out.trans (hb1.mono hz8)
  have hkb := hU.big
  have hUn : ∀ j, j < k → nth (upList (toG Ps) (([(fr : Int)] ++ asked ++ given).map Int.toNat)) j < n := fun j hj => by
    have := nth_mem (xs := upList (toG Ps) (([(fr : Int)] ++ asked ++ given).map Int.toNat)) (j := j) (by rw [hU.len]; exact hj)
    have h2 := mem_upL_lt this
    rwa [toG_length, HL.out.1] at h2
  have hUm : ∀ x, tIn Ps ([(fr : Int)] ++ asked ++ given) x ↔ ∃ j, j < k ∧ nth (upList (toG Ps) (([(fr : Int)] ++ asked ++ given).map Int.toNat)) j = x := fun x => by
    unfold tIn
    constructor
    · intro h; obtain ⟨j, hj, e⟩ := mem_nth h; exact ⟨j, by rw [← hU.len]; exact hj, e⟩
    · rintro ⟨j, hj, rfl⟩; exact nth_mem (by rw [hU.len]; exact hj)
  generalize upList (toG Ps) (([(fr : Int)] ++ asked ++ given).map Int.toNat) = ul at *
  have H1 := Lib.hid (And.intro hb1 (And.intro hU (And.intro hUn hUm)))
  have hz1 := hb1.size
  clear hb1 hU hUn hUm hr8 hs8 hz8 HB hz7 hz0 hall
  go_wp2_with (first
    | (with_reducible refine wpList_mk _ eiBool eB false rfl rfl _ _ rfl n rfl rfl (by omega) ?_)
    | fail)
  intro w2 hrow2 hb2
  have H2 := Lib.hid (And.intro hrow2 hb2)
  have hz2 := hb2.size
  clear hrow2 hb2
  go_wp2_with fail
  go_loopw [13] (fun i wr => ∃ (j : Nat) (L : List Bool), i = .int .i64 (j : Nat) ∧ j ≤ k ∧ L.length = n ∧ RowAt eB wr w1.heap.size 4 L [] ∧ (∀ x, nth L x = true ↔ ∃ r, r < j ∧ nth ul r = x) ∧ Below w1.heap.size w1 wr) (fun i _ => k - (intOf i).toNat)
  case atStart => exact ⟨0, _, rfl, Nat.zero_le _, by simp, H2.out.1, fun x => by rw [nth_false]; simp, H2.out.2⟩
  case round => as_aux_lemma =>
    obtain ⟨j, L, rfl, hj, hLl, hr, hLm, hb⟩ := hrel
    obtain ⟨wb, hwb⟩ : ∃ wb : World, wb = wr := ⟨_, rfl⟩
    subst hwb
    by_cases hlt : j < k
    · have hji : (j : Int) < (k : Nat) := by omega
      obtain ⟨bU, oU, rfl, hbU, hc⟩ := (H1.out.2.1.below (Nat.le_refl _) hb).at' (by omega)
      have g1 := hc j hlt
      have hxn := H1.out.2.2.1 j hlt
      have hnx : ∀ (x : Nat), x = nth ul j → ∀ y, nth (L.set x true) y = true ↔ ∃ r, r < j + 1 ∧ nth ul r = y := fun x hx y => by
        rw [seen_set (by rw [hLl, hx]; exact hxn), hLm]
        constructor
        · rintro (⟨r, h1, h2⟩ | h1)
          · exact ⟨r, by omega, h2⟩
          · exact ⟨j, by omega, by rw [h1, hx]⟩
        · rintro ⟨r, h1, h2⟩
          rcases Nat.lt_or_ge r j with h3 | h3
          · exact .inl ⟨r, h3, h2⟩
          · obtain rfl : r = j := by omega
            exact .inr (by rw [← h2, hx])
      obtain ⟨x, hx⟩ : ∃ x, x = nth ul j := ⟨_, rfl⟩
      have hnx := hnx x hx
      rw [← hx] at g1 hxn
      have hxi : (x : Int) < (n : Nat) := by omega
      have g2 := hr.cell (j := x) (by rw [hLl]; exact hxn)
      have f2 := hr.frozen x
      have hrl := hr.lt
      have hset := hr.set (j := x) (by rw [hLl]; exact hxn) true
      have hbs := hb.setCell (p := ⟨w1.heap.size, x, none⟩) (Nat.le_refl _) (.bool true)
      have HF := Lib.hid (And.intro hset (And.intro hbs (And.intro hnx hLl)))
      clear hset hbs hnx hLl hr hLm hb hc hx
      go_wp2_with fail
      exact ⟨⟨j + 1, L.set x true, by go_num, by omega, by rw [List.length_set]; exact HF.out.2.2.2, HF.out.1, HF.out.2.2.1, HF.out.2.1⟩, by simp [intOf]; omega⟩
    · obtain rfl : k = j := by omega
      have hIn : ∀ x, nth L x = true ↔ tIn Ps ([(fr : Int)] ++ asked ++ given) x := fun x => by rw [hLm, H1.out.2.2.2]
      have hba := H1.out.1.trans (hb.mono hz1)
      have hIs := hr.sl (by rw [hLl]; omega)
      rw [hLl] at hIs
      have H3 := Lib.hid (And.intro hba (And.intro hIs (And.intro hIn hLl)))
      have hz3 := hba.size
      clear hba hIs hIn hLl hr hLm hb
      go_wp2_with (first
        | (with_reducible refine wpList_mk _ eiBool eB false rfl rfl _ _ rfl n rfl rfl (by omega) ?_)
        | fail)
      intro w4 hrow4 hb4
      have hfl : fr < (List.replicate n false).length := by simpa using hfr
      have g4 := hrow4.cell (j := fr) hfl
      have f4 := hrow4.frozen fr
      have hl4 := hrow4.lt
      have hset := hrow4.set (j := fr) hfl true
      have hbs := hb4.setCell (p := ⟨wb.heap.size, fr, none⟩) (Nat.le_refl _) (.bool true)
      have hfi : (fr : Int) < (n : Nat) := by omega
      have H4 := Lib.hid (And.intro hset hbs)
      clear hset hbs hrow4 hb4
      go_wp2_with fail
      clear g4 f4 hl4
      generalize hbq : wb.heap.size = bs at *
      have HBS := Lib.hid hbq
      clear hbq
      go_loopw [15] (fun i wr => ∃ (t : Nat) (S : List Bool), i = .int .i64 (t : Nat) ∧ t ≤ n ∧ TP (tE Ps ([(fr : Int)] ++ asked ++ given) given) n fr t S ∧ RowAt eB wr bs 4 S [] ∧ Below bs wb wr) (fun i _ => n - (intOf i).toNat)
      case atStart => exact ⟨0, _, rfl, Nat.zero_le _, TP.start hfr, H4.out.1, H4.out.2⟩
      case round => as_aux_lemma =>
        obtain ⟨t, S0, rfl, ht, hT, hr, hb⟩ := hrel
        obtain ⟨wc, hwc⟩ : ∃ wc : World, wc = wr := ⟨_, rfl⟩
        subst hwc
        by_cases hlt : t < n
        · have hti : (t : Int) < (n : Nat) := by omega
          have H5 := Lib.hid (And.intro hT (And.intro hr hb))
          clear hT hr hb
          go_wp2_with fail
          go_loopw [16] (fun i wr => ∃ (a : Nat) (S : List Bool), i = .int .i64 (a : Nat) ∧ a ≤ n ∧ TI (tE Ps ([(fr : Int)] ++ asked ++ given) given) n fr a 0 S0 S ∧ RowAt eB wr bs 4 S [] ∧ Below bs wb wr) (fun i _ => n - (intOf i).toNat)
          case atStart => exact ⟨0, S0, rfl, Nat.zero_le _, H5.out.1.begin, H5.out.2.1, H5.out.2.2⟩
          case round => as_aux_lemma =>
            obtain ⟨a, S1, rfl, hale, hT, hr, hb⟩ := hrel
            obtain ⟨wd, hwd⟩ : ∃ wd : World, wd = wr := ⟨_, rfl⟩
            subst hwd
            by_cases hla : a < n
            · have hai : (a : Int) < (n : Nat) := by omega
              have H6 := Lib.hid (And.intro hT (And.intro hr hb))
              clear hT hr hb
              go_wp2_with fail
              go_loopw [17] (fun i wr => ∃ (b : Nat) (S : List Bool), i = .int .i64 (b : Nat) ∧ b ≤ n ∧ TI (tE Ps ([(fr : Int)] ++ asked ++ given) given) n fr a b S0 S ∧ RowAt eB wr bs 4 S [] ∧ Below bs wb wr) (fun i _ => n - (intOf i).toNat)
              case atStart => exact ⟨0, S1, rfl, Nat.zero_le _, H6.out.1, H6.out.2.1, H6.out.2.2⟩
              case round => as_aux_lemma =>
                obtain ⟨b, S, rfl, hble, hT, hr, hb⟩ := hrel
                obtain ⟨we, hwe⟩ : ∃ we : World, we = wr := ⟨_, rfl⟩
                subst hwe
                by_cases hlb : b < n
                · have hbi : (b : Int) < (n : Nat) := by omega
                  have hSl := hT.ta.len
                  have ga := hr.cell (j := a) (by rw [hSl]; exact hla)
                  obtain ⟨sa, hsa⟩ : ∃ x, x = nth S a := ⟨_, rfl⟩
                  rw [← hsa] at ga
                  cases sa with
                  | false =>
                    have H7 := Lib.hid (And.intro (hT.next (.inr hsa.symm)) (And.intro hr hb))
                    clear hT hr hb hsa
                    go_wp2_with fail
                    exact ⟨⟨a + 1, S, by go_num, by omega, H7.out.1, H7.out.2.1, H7.out.2.2⟩, by simp [intOf]; omega⟩
                  | true =>
                    have gb := hr.cell (j := b) (by rw [hSl]; exact hlb)
                    have fb := hr.frozen b
                    have hbsl := hr.lt
                    obtain ⟨bI, oI, _, _, hcI⟩ := (H3.out.2.1.below (Nat.le_of_eq HBS.out) hb).at' (by omega)
                    rename_i eI _
                    injection eI with eI
                    injection eI with eI1 eI2 _
                    subst eI1 eI2
                    have gi := hcI b hlb
                    simp only [Nat.zero_add] at gi
                    obtain ⟨ib, hib⟩ : ∃ x, x = nth L b := ⟨_, rfl⟩
                    obtain ⟨sb, hsb⟩ : ∃ x, x = nth S b := ⟨_, rfl⟩
                    obtain ⟨zb, hzb⟩ : ∃ x, x = zB given b := ⟨_, rfl⟩
                    obtain ⟨jb, hjb⟩ : ∃ x, x = joinB Ps L a b := ⟨_, rfl⟩
                    rw [← hib] at gi
                    rw [← hsb] at gb
                    have hLi := H3.out.2.2.1
                    have hJ : jb = true ↔ JoinP Ps (tIn Ps ([(fr : Int)] ++ asked ++ given)) a b := by
                      rw [hjb, joinB_iff]; exact joinP_congr (fun c _ => hLi c) a b
                    have hE : tE Ps ([(fr : Int)] ++ asked ++ given) given a b ↔ ib = true ∧ zb = false ∧ jb = true := by
                      unfold tE; rw [hib, hLi, hzb, hJ]
                    have hgw := (H0.out.2.2.1.below (Nat.le_refl _) H3.out.1).below (Nat.le_of_eq HBS.out) hb
                    have hPw := (H0.out.1.below (Nat.le_refl _) H3.out.1).below (Nat.le_of_eq HBS.out) hb
                    have hIw := H3.out.2.1.below (Nat.le_of_eq HBS.out) hb
                    have hset := hr.set (j := b) (by rw [hSl]; exact hlb) true
                    have hbset := hb.setCell (p := ⟨bs, b, none⟩) (Nat.le_refl _) (.bool true)
                    have hskip : (ib = false ∨ sb = true ∨ zb = true ∨ jb = false) → TI (tE Ps ([(fr : Int)] ++ asked ++ given) given) n fr a (b + 1) S0 S := fun hh => hT.skip (by
                      rw [hE]
                      rcases hh with rfl | rfl | rfl | rfl
                      · left; rintro ⟨h, _⟩; cases h
                      · right; exact hsb.symm
                      · left; rintro ⟨_, h, _⟩; cases h
                      · left; rintro ⟨_, _, h⟩; cases h)
                    have hput : ib = true → sb = false → zb = false → jb = true → TI (tE Ps ([(fr : Int)] ++ asked ++ given) given) n fr a (b + 1) S0 (S.set b true) := fun h1 h2 h3 h4 => hT.put hla hlb hsa.symm (hE.2 ⟨h1, h3, h4⟩) (by rw [← hsb]; exact h2)
                    have H7 := Lib.hid (And.intro hskip (And.intro hput (And.intro hr (And.intro hb (And.intro hset (And.intro hbset (And.intro hgw (And.intro hPw (And.intro hIw (And.intro hzb hjb))))))))))
                    clear hskip hput hr hb hset hbset hgw hPw hIw hzb hjb hsb hib hJ hE hLi hcI hT hsa
                    cases ib with
                    | false =>
                      go_wp2_with fail
                      exact ⟨⟨b + 1, S, by go_num, by omega, H7.out.1 (.inl (by first | rfl | trivial)), H7.out.2.2.1, H7.out.2.2.2.1⟩, by simp [intOf]; omega⟩
                    | true =>
                      cases sb with
                      | true =>
                        go_wp2_with fail
                        exact ⟨⟨b + 1, S, by go_num, by omega, H7.out.1 (.inr (.inl (by first | rfl | trivial))), H7.out.2.2.1, H7.out.2.2.2.1⟩, by simp [intOf]; omega⟩
                      | false =>
                        cases zb with
                        | true =>
                          go_wp2_with fail
                          refine (has_rb true _ _ _ _ _ _ H7.out.2.2.2.2.2.2.1 H7.out.2.2.2.2.2.2.2.2.2.1.symm).mono ?_
                          rintro e w9 ⟨rfl, rfl⟩
                          go_wp2_with fail
                          exact ⟨⟨b + 1, S, by go_num, by omega, H7.out.1 (.inr (.inr (.inl (by first | rfl | trivial)))), H7.out.2.2.1, H7.out.2.2.2.1⟩, by simp [intOf]; omega⟩
                        | false =>
                          cases jb with
                          | false =>
                            go_wp2_with fail
                            refine (has_rb false _ _ _ _ _ _ H7.out.2.2.2.2.2.2.1 H7.out.2.2.2.2.2.2.2.2.2.1.symm).mono ?_
                            rintro e w9 ⟨rfl, rfl⟩
                            go_wp2_with fail
                            refine (joined_any _ _ n c n Ps L a b _ H7.out.2.2.2.2.2.2.2.1 H7.out.2.2.2.2.2.2.2.2.1 hla hlb).mono ?_
                            rintro e w9 ⟨rfl, rfl⟩
                            rw [← H7.out.2.2.2.2.2.2.2.2.2.2]
                            go_wp2_with fail
                            exact ⟨⟨b + 1, S, by go_num, by omega, H7.out.1 (.inr (.inr (.inr (by first | rfl | trivial)))), H7.out.2.2.1, H7.out.2.2.2.1⟩, by simp [intOf]; omega⟩
                          | true =>
                            go_wp2_with fail
                            refine (has_rb false _ _ _ _ _ _ H7.out.2.2.2.2.2.2.1 H7.out.2.2.2.2.2.2.2.2.2.1.symm).mono ?_
                            rintro e w9 ⟨rfl, rfl⟩
                            go_wp2_with fail
                            refine (joined_any _ _ n c n Ps L a b _ H7.out.2.2.2.2.2.2.2.1 H7.out.2.2.2.2.2.2.2.2.1 hla hlb).mono ?_
                            rintro e w9 ⟨rfl, rfl⟩
                            rw [← H7.out.2.2.2.2.2.2.2.2.2.2]
                            go_wp2_with fail
                            exact ⟨⟨b + 1, S.set b true, by go_num, by omega, H7.out.2.1 (by first | rfl | trivial) (by first | rfl | trivial) (by first | rfl | trivial) (by first | rfl | trivial), H7.out.2.2.2.2.1, H7.out.2.2.2.2.2.1⟩, by simp [intOf]; omega⟩
                · obtain rfl : n = b := by omega
                  have H7 := Lib.hid (And.intro (hT.next (.inl rfl)) (And.intro hr hb))
                  clear hT hr hb
                  go_wp2_with fail
                  exact ⟨⟨a + 1, S, by go_num, by omega, H7.out.1, H7.out.2.1, H7.out.2.2⟩, by simp [intOf]; omega⟩
            · obtain rfl : n = a := by omega
              have H7 := Lib.hid (And.intro (hT.done H5.out.1) (And.intro hr hb))
              clear hT hr hb
              go_wp2_with fail
              exact ⟨⟨t + 1, S1, by go_num, by omega, H7.out.1, H7.out.2.1, H7.out.2.2⟩, by simp [intOf]; omega⟩
        · obtain rfl : n = t := by omega
          have hsee : ∀ q, q < n → (nth S0 q = true ↔ FE (tE Ps ([(fr : Int)] ++ asked ++ given) given) n fr q) := fun q hq => hT.all hfr hq
          have hap := tell_apart (Ps := Ps) (fr := fr) (b := asked) (given := given) HL.out.2.1 (by rw [HL.out.1]; exact hfr) HL.out.2.2.1 HL.out.2.2.2.1 HL.out.2.2.2.2.1
          rw [HL.out.1] at hap
          have hbw := H3.out.1.trans (hb.mono (by have := HBS.out; omega))
          have haw := (H0.out.2.1.below (Nat.le_refl _) H3.out.1).below (Nat.le_of_eq HBS.out) hb
          have hSl := hT.ta.len
          have H7 := Lib.hid (And.intro hsee (And.intro hap (And.intro hr (And.intro hbw (And.intro haw hSl)))))
          have hrl := hr.lt
          clear hsee hap hr hb hT hbw haw hSl
          go_wp2_with fail
          go_loopw [18] (fun i wr => ∃ j : Nat, i = .int .i64 (j : Nat) ∧ j ≤ m1 ∧ (∀ r, r < j → nth S0 (nth asked r).toNat = false) ∧ wr = wc) (fun i _ => m1 - (intOf i).toNat)
          case atStart => exact ⟨0, rfl, Nat.zero_le _, fun r hr => by omega, rfl⟩
          case round => as_aux_lemma =>
            obtain ⟨j, rfl, hj, hno, hwr⟩ := hrel
            have hwr := hwr.symm
            subst hwr
            by_cases hlj : j < m1
            · have hji : (j : Int) < (m1 : Nat) := by omega
              obtain ⟨bB, oB, rfl, _, hc⟩ := H7.out.2.2.2.2.1.at' (by omega)
              have g1 := hc j hlj
              have hym := nth_mem (xs := asked) (j := j) (by rw [HL.out.2.2.2.2.2.1]; exact hlj)
              have hyr := HL.out.2.2.1 _ hym
              rw [HL.out.1] at hyr
              obtain ⟨q, hq⟩ : ∃ q : Nat, nth asked j = (q : Int) := ⟨(nth asked j).toNat, by omega⟩
              have hqn : q < n := by omega
              have g2 := H7.out.2.2.1.cell (j := q) (by rw [H7.out.2.2.2.2.2]; exact hqn)
              have hnx : nth S0 q = false → ∀ r, r < j + 1 → nth S0 (nth asked r).toNat = false := fun h r hr => by
                rcases Nat.lt_or_ge r j with h1 | h1
                · exact hno r h1
                · obtain rfl : r = j := by omega
                  rw [hq]; simpa using h
              have hyes : nth S0 q = true → apartB Ps [(fr : Int)] asked given = false := fun h => by
                cases hb : apartB Ps [(fr : Int)] asked given
                · rfl
                · have := H7.out.2.1.1 hb _ hym
                  rw [hq] at this
                  exact absurd ((H7.out.1 q hqn).1 h) (by simpa using this)
              rw [hq] at g1
              have hqi : (q : Int) < (n : Nat) := by omega
              obtain ⟨sq, hsq⟩ : ∃ x, x = nth S0 q := ⟨_, rfl⟩
              rw [← hsq] at g2 hnx hyes
              have H8 := Lib.hid (And.intro hnx hyes)
              clear hnx hyes hsq hno hc hym hyr hq
              cases sq with
              | true =>
                have H9 := Lib.hid (H8.out.2 rfl)
                go_wp2_with fail
                go_ret
                exact ⟨by rw [H9.out]; rfl, H7.out.2.2.2.1⟩
              | false =>
                have H9 := Lib.hid (H8.out.1 rfl)
                go_wp2_with fail
                exact ⟨⟨j + 1, by go_num, by omega, H9.out, trivial⟩, by simp [intOf]; omega⟩
            · obtain rfl : m1 = j := by omega
              have hat : apartB Ps [(fr : Int)] asked given = true := H7.out.2.1.2 fun y hy hf => by
                obtain ⟨r, hr, rfl⟩ := mem_nth hy
                have h1 := hno r (by rw [← HL.out.2.2.2.2.2.1]; exact hr)
                have hyr := HL.out.2.2.1 _ hy
                rw [HL.out.1] at hyr
                rw [(H7.out.1 _ (by omega)).2 hf] at h1
                cases h1
              have H9 := Lib.hid hat
              clear hat hno
              go_wp2_with fail
              go_ret
              exact ⟨by rw [H9.out]; rfl, H7.out.2.2.2.1⟩
end Go.Proofs.Ytdlnglffimcopaa
/- credenceref17's check, Barren, walked. Conditions: the parents and the points read, few. -/
namespace Go.Proofs.Ytdlnglffimcopaa
open Go.RowKit

set_option maxRecDepth 100000 in
set_option maxHeartbeats 800000 in
theorem check17_any (A B C : Option Addr) (n c m1 d1 m2 d2 : Nat) (Ps : List (List Int)) (asked given : List Int) (w : World) (h : Rows (Value.int .i64) w A n Ps) (ha : Sl (Value.int .i64) w B m1 asked) (hg : Sl (Value.int .i64) w C m2 given) (hn : n ≤ 1000) :
    Calls Try.prog 107 #[.slice A n c, .slice B m1 d1, .slice C m2 d2] w fun e w' => e = .returned (.int .i64 (aboveE Ps (asked ++ given))) ∧ Below w.heap.size w w' := by
  have hlen := h.len
  have hb1 := ha.big
  have hb2 := hg.big
  obtain ⟨wa, hwa⟩ : ∃ wa : World, wa = w := ⟨_, rfl⟩
  subst hwa
  have HL := Lib.hid (And.intro hlen (And.intro ha (And.intro hg (And.intro ha.len hg.len))))
  clear hlen
  go_enter Try.func107, Try.ntmps107
  go_wp2_with fail
  refine (check_ref A n c Ps _ h (by omega)).mono ?_
  rintro e w1 ⟨rfl, hb⟩
  by_cases hf : checkP Ps = 0
  · have HB := Lib.hid (And.intro hb hf)
    rw [hf]
    have ha1 := ha.below (Nat.le_refl _) hb
    have hg1 := hg.below (Nat.le_refl _) hb
    have H1 := Lib.hid (And.intro ha1 hg1)
    have hae3 : ∀ x, x ∈ asked ++ given → (x < 0 ∨ (n : Int) ≤ x) → aboveE Ps (asked ++ given) = 3 := fun x hx h => by
      unfold aboveE
      rw [if_neg (by rw [HB.out.2]; simp), if_neg]
      intro hr
      have := inRow_iff.1 hr x hx
      rw [HL.out.1] at this
      omega
    have hae0 : (∀ x, x ∈ asked ++ given → 0 ≤ x ∧ x < (n : Int)) → aboveE Ps (asked ++ given) = 0 := fun h => by
      unfold aboveE
      rw [if_neg (by rw [HB.out.2]; simp), if_pos]
      rw [HL.out.1]
      exact inRow_iff.2 h
    have HE := Lib.hid (And.intro hae3 hae0)
    clear hb h ha hg hf ha1 hg1 hae3 hae0
    go_wp2_with fail
    go_loop [8] (fun i => ∃ t : Nat, i = .int .i64 (t : Nat) ∧ t ≤ m1 ∧ ∀ r, r < t → 0 ≤ nth asked r ∧ nth asked r < (n : Int)) (fun i => m1 - (intOf i).toNat)
    case atStart => exact ⟨0, rfl, Nat.zero_le _, fun r hr => by omega⟩
    case round =>
      obtain ⟨t, rfl, ht, hok⟩ := hrel
      by_cases hlt : t < m1
      · have hti : (t : Int) < (m1 : Nat) := by omega
        obtain ⟨bB, oB, rfl, _, hc⟩ := H1.out.1.at' (by omega)
        have g1 := hc t hlt
        have hxm : nth asked t ∈ asked ++ given := List.mem_append_left _ (nth_mem (by rw [HL.out.2.2.2.1]; exact hlt))
        have hnx : 0 ≤ nth asked t ∧ nth asked t < (n : Int) → ∀ r, r < t + 1 → 0 ≤ nth asked r ∧ nth asked r < (n : Int) := fun h r hr => by
          rcases Nat.lt_or_ge r t with h1 | h1
          · exact hok r h1
          · obtain rfl : r = t := by omega
            exact h
        have h3 := HE.out.1 _ hxm
        generalize nth asked t = x at *
        have HX := Lib.hid (And.intro hnx h3)
        clear hnx h3 hxm hok hc
        by_cases hx0 : x < 0
        · have H3 := Lib.hid (HX.out.2 (.inl hx0))
          go_wp2_with fail
          go_ret
          exact ⟨by rw [H3.out]; rfl, HB.out.1⟩
        · by_cases hxn : (n : Int) ≤ x
          · have H3 := Lib.hid (HX.out.2 (.inr hxn))
            go_wp2_with fail
            go_ret
            exact ⟨by rw [H3.out]; rfl, HB.out.1⟩
          · have H3 := Lib.hid (HX.out.1 ⟨by omega, by omega⟩)
            go_wp2_with fail
            go_round
            case rel => exact ⟨t + 1, by go_num, by omega, H3.out⟩
            case measure => simp [intOf]; omega
      · obtain rfl : m1 = t := by omega
        have HO := Lib.hid hok
        clear hok
        go_wp2_with fail
        go_loop [9] (fun i => ∃ t : Nat, i = .int .i64 (t : Nat) ∧ t ≤ m2 ∧ ∀ r, r < t → 0 ≤ nth given r ∧ nth given r < (n : Int)) (fun i => m2 - (intOf i).toNat)
        case atStart => exact ⟨0, rfl, Nat.zero_le _, fun r hr => by omega⟩
        case round =>
          obtain ⟨t, rfl, ht, hok⟩ := hrel
          by_cases hlt : t < m2
          · have hti : (t : Int) < (m2 : Nat) := by omega
            obtain ⟨bB, oB, rfl, _, hc⟩ := H1.out.2.at' (by omega)
            have g1 := hc t hlt
            have hxm : nth given t ∈ asked ++ given := List.mem_append_right _ (nth_mem (by rw [HL.out.2.2.2.2]; exact hlt))
            have hnx : 0 ≤ nth given t ∧ nth given t < (n : Int) → ∀ r, r < t + 1 → 0 ≤ nth given r ∧ nth given r < (n : Int) := fun h r hr => by
              rcases Nat.lt_or_ge r t with h1 | h1
              · exact hok r h1
              · obtain rfl : r = t := by omega
                exact h
            have h3 := HE.out.1 _ hxm
            generalize nth given t = x at *
            have HX := Lib.hid (And.intro hnx h3)
            clear hnx h3 hxm hok hc
            by_cases hx0 : x < 0
            · have H3 := Lib.hid (HX.out.2 (.inl hx0))
              go_wp2_with fail
              go_ret
              exact ⟨by rw [H3.out]; rfl, HB.out.1⟩
            · by_cases hxn : (n : Int) ≤ x
              · have H3 := Lib.hid (HX.out.2 (.inr hxn))
                go_wp2_with fail
                go_ret
                exact ⟨by rw [H3.out]; rfl, HB.out.1⟩
              · have H3 := Lib.hid (HX.out.1 ⟨by omega, by omega⟩)
                go_wp2_with fail
                go_round
                case rel => exact ⟨t + 1, by go_num, by omega, H3.out⟩
                case measure => simp [intOf]; omega
          · obtain rfl : m2 = t := by omega
            have H0 := Lib.hid (HE.out.2 fun x hx => by
              rcases List.mem_append.1 hx with h | h
              · obtain ⟨r, hr, rfl⟩ := mem_nth h
                exact HO.out r (by rw [← HL.out.2.2.2.1]; exact hr)
              · obtain ⟨r, hr, rfl⟩ := mem_nth h
                exact hok r (by rw [← HL.out.2.2.2.2]; exact hr))
            clear hok
            go_wp2_with fail
            go_ret
            exact ⟨by rw [H0.out]; rfl, HB.out.1⟩
  · have hae : aboveE Ps (asked ++ given) = checkP Ps := by unfold aboveE; rw [if_pos hf]
    have HA := Lib.hid (And.intro hae hb)
    have hle := checkP_le Ps
    clear hae hb h ha hg
    generalize checkP Ps = cp at *
    have he2 : (cp == 0) = false := by simpa using hf
    go_wp2_with fail
    go_ret
    exact ⟨by rw [HA.out.1]; rfl, HA.out.2⟩
set_option maxRecDepth 100000 in
set_option maxHeartbeats 1600000 in
theorem barren17_any (A B C : Option Addr) (n c m1 d1 m2 d2 : Nat) (Ps : List (List Int)) (asked given : List Int) (w : World) (h : Rows (Value.int .i64) w A n Ps) (ha : Sl (Value.int .i64) w B m1 asked) (hg : Sl (Value.int .i64) w C m2 given) (hn : n ≤ 1000) (hm1 : m1 ≤ 1000) (hm2 : m2 ≤ 1000) :
    Calls Try.prog 89 #[.slice A n c, .slice B m1 d1, .slice C m2 d2] w (FitsPost w Ps (asked ++ given)) := by
  have hlen := h.len
  obtain ⟨wa, hwa⟩ : ∃ wa : World, wa = w := ⟨_, rfl⟩
  subst hwa
  have HL := Lib.hid (And.intro hlen (And.intro h (And.intro ha hg)))
  clear hlen
  go_enter Try.func89, Try.ntmps89
  go_wp2_with fail
  refine (check17_any A B C n c m1 d1 m2 d2 Ps asked given _ h ha hg hn).mono ?_
  rintro e w1 ⟨rfl, hb⟩
  have hz := hb.size
  have hle := aboveE_le Ps (asked ++ given)
  by_cases hf : aboveE Ps (asked ++ given) = 0
  · rw [hf]
    have ha1 := ha.below (Nat.le_refl _) hb
    have hemp : OwnR (Value.int .i64) w1 w1.heap.size 3 none 0 0 ([] : List Int) := OwnR.nil _ _ _ _
    have HB := Lib.hid (And.intro hb hf)
    clear h ha hg hb hf
    go_wp2_with (first
      | (at_builtin; (with_reducible refine wpList_app _ eiInt (Value.int .i64) (fun _ => rfl) rfl _ _ rfl w1.heap.size _ _ _ _ rfl hemp _ _ _ _ rfl ha1 (by omega) (Nat.le_refl _) ?_))
      | fail)
    intro A7 c7 w7 ho7 _ hb7 _
    try simp only [Nat.zero_add, List.nil_append] at ho7
    try simp only [Nat.zero_add]
    have HB7 := Lib.hid hb7
    have hz7 := hb7.size
    have hg7 := (HL.out.2.2.2.below (Nat.le_refl _) HB.out.1).below (Nat.le_refl _) hb7
    clear hb7 ha1 hemp
    go_wp2_with (first
      | (at_builtin; (with_reducible refine wpList_app _ eiInt (Value.int .i64) (fun _ => rfl) rfl _ _ rfl w1.heap.size _ _ _ _ rfl ho7 _ _ _ _ rfl hg7 (by omega) hz7 ?_))
      | fail)
    intro A8 c8 w8 ho8 _ hb8 _
    have hb8 := HB7.out.trans hb8
    have hbA := HB.out.1.trans (hb8.mono hz)
    have hs8 := ho8.sl (by omega)
    have hr8 := HL.out.2.1.below (Nat.le_refl _) hbA
    have hza := hbA.size
    have HA := Lib.hid hbA
    clear hbA hb8 hg7 ho7 ho8 HB7 hz7
    obtain ⟨hck, hin⟩ := aboveE_inv HB.out.2
    have hrw := hin.row
    have HC := Lib.hid (And.intro hck hrw)
    clear hin
    go_wp2_with fail
    refine (above_ref A A8 n c _ c8 Ps (asked ++ given) _ hr8 hs8 (by omega) HC.out.1).mono ?_
    rintro e w2 ⟨hb2, U, k, d, rfl, hU, _⟩
    have hru : inRow (toG Ps).length (asked ++ given) = true := by rw [toG_length]; exact HC.out.2
    have hU := hU hru
    rw [if_pos hru]
    have hbA := HA.out.trans (hb2.mono hza)
    have H2 := Lib.hid (And.intro hbA hU.toInt)
    have hza2 := hbA.size
    clear hbA hU hb2 hr8 hs8 hru hck hrw
    go_wp2_with fail
    go_loopw [12, 13] (fun o i wr => ∃ (t q dq : Nat) (O : Option Addr), i = .int .i64 (t : Nat) ∧ o = .slice O q dq ∧ t ≤ n ∧ OwnR (Value.int .i64) wr w2.heap.size 3 O q dq (castL (bareTo Ps (asked ++ given) t)) ∧ Below w2.heap.size w2 wr) (fun _ i _ => n - (intOf i).toNat)
    case atStart => exact ⟨0, 0, 0, none, rfl, rfl, Nat.zero_le _, OwnR.nil _ _ _ _, Below.refl _ _⟩
    case round =>
      obtain ⟨t, q, dq, O, rfl, rfl, ht, hO, hb⟩ := hrel
      obtain ⟨wb, hwb⟩ : ∃ wb : World, wb = wr := ⟨_, rfl⟩
      subst hwb
      by_cases hlt : t < n
      · have hti : (t : Int) < (n : Nat) := by omega
        have hql := hO.length
        have hqb : q ≤ t := by rw [← hql]; unfold castL; rw [List.length_map]; exact bareTo_length _ _ _
        have hUw := H2.out.2.below (Nat.le_refl _) hb
        have hwz := hb.size
        have hbx := hb.alloc hwz (.cells #[.int .i64 (t : Int)] 3)
        have hos := hO.alloc (.cells #[.int .i64 (t : Int)] 3)
        obtain ⟨xb, hxb⟩ : ∃ x, x = decide ((t : Int) ∈ castL (upList (toG Ps) ((asked ++ given).map Int.toNat))) := ⟨_, rfl⟩
        have HX := Lib.hid (And.intro hO (And.intro hb (And.intro hUw (And.intro hxb hbx))))
        clear hO hb hUw hxb hql hbx
        cases xb with
        | true =>
          have HN := Lib.hid (bareTo_skip (Ps := Ps) (pts := asked ++ given) (k := t) (mem_castL.1 (by simpa using HX.out.2.2.2.1.symm)))
          go_wp2_with fail
          refine (has_rb true _ _ _ _ _ _ HX.out.2.2.1 HX.out.2.2.2.1.symm).mono ?_
          rintro e w9 ⟨rfl, rfl⟩
          go_wp2_with fail
          exact ⟨⟨t + 1, q, dq, O, by go_num, rfl, by omega, by rw [HN.out]; exact HX.out.1, HX.out.2.1⟩, by simp [intOf]; omega⟩
        | false =>
          have HN := Lib.hid (show castL (bareTo Ps (asked ++ given) (t + 1)) = castL (bareTo Ps (asked ++ given) t) ++ [(t : Int)] by rw [bareTo_take (fun h => by have := HX.out.2.2.2.1.symm; rw [decide_eq_false_iff_not, mem_castL] at this; exact this h), castL_snoc])
          go_wp2_with fail
          refine (has_rb false _ _ _ _ _ _ HX.out.2.2.1 HX.out.2.2.2.1.symm).mono ?_
          rintro e w9 ⟨rfl, rfl⟩
          go_wp2_with (first
            | (at_builtin; refine wpList_app _ eiInt (Value.int .i64) (fun _ => rfl) rfl _ _ rfl w2.heap.size _ _ _ _ rfl hos _ _ _ [(t : Int)] rfl (Sl.one (enc := Value.int .i64) _ _ _) (by omega) (by simp; omega) ?_)
            | fail)
          intro A9 c9 w9 ho9 _ hb9 _
          have HE := Lib.hid (And.intro ho9 (HX.out.2.2.2.2.trans hb9))
          clear ho9 hb9 hos
          go_wp2_with fail
          exact ⟨⟨t + 1, q + 1, c9, A9, by go_num, rfl, by omega, by rw [HN.out]; exact HE.out.1, HE.out.2⟩, by simp [intOf]; omega⟩
      · obtain rfl : n = t := by omega
        have HX := Lib.hid (And.intro hO hb)
        clear hO hb
        go_wp2_with fail
        go_ret2
        refine ⟨H2.out.1.trans (HX.out.2.mono hza2), O, q, dq, by rw [HB.out.2]; rfl, fun _ => ?_, fun h0 => absurd HB.out.2 h0⟩
        unfold bareL
        rw [HL.out.1]
        exact HX.out.1.mono hza2
  · have HE := Lib.hid (And.intro hb hf)
    clear hb h ha hg
    generalize hae : aboveE Ps (asked ++ given) = ae at *
    have HAE := Lib.hid hae
    clear hae
    have he2 : (ae == 0) = false := by simpa using hf
    go_wp2_with fail
    go_ret2
    exact ⟨HE.out.1, none, 0, 0, by rw [HAE.out]; rfl, fun h0 => absurd (HAE.out.symm.trans h0) HE.out.2, fun _ => ⟨rfl, rfl, rfl⟩⟩
end Go.Proofs.Ytdlnglffimcopaa
/- credenceref17's needed and Kept, walked: the points whose tables a question needs, by the moral graph. Conditions: the parents and the points read, few. -/
namespace Go.Proofs.Ytdlnglffimcopaa
open Go.RowKit

theorem leave_f {ap bx ab : Bool} (h : false = (ap && !bx)) : (bx || (ap && ab)) = bx := by revert h; cases ap <;> cases bx <;> simp
theorem leave_t {ap bx ab : Bool} (h : true = (ap && !bx)) : (bx || (ap && ab)) = ab := by revert h; cases ap <;> cases bx <;> simp
def NeedPost (w : World) (Ps : List (List Int)) (v : Nat) (asked given : List Int) (e : Ending) (w' : World) : Prop := e = .returned (.bool (!apartB (widerP Ps v) [(Ps.length : Int)] (openL asked given) given)) ∧ Below w.heap.size w w'
set_option maxRecDepth 100000 in
set_option maxHeartbeats 1600000 in
theorem needed_any (A B C : Option Addr) (n c m1 d1 m2 d2 v : Nat) (Ps : List (List Int)) (asked given : List Int) (w : World) (h : Rows (Value.int .i64) w A n Ps) (ha : Sl (Value.int .i64) w B m1 asked) (hg : Sl (Value.int .i64) w C m2 given)
    (hc : checkP Ps = 0) (hia : InN Ps.length asked) (hig : InN Ps.length given) (hvn : v < n) (hn : n ≤ 1000) (hrow : ∀ i, i < Ps.length → (nth Ps i).length ≤ 1000) (hm1 : m1 ≤ 1000) (hm2 : m2 ≤ 1000) :
    Calls Try.prog 108 #[.slice A n c, .int .i64 (v : Int), .slice B m1 d1, .slice C m2 d2] w (NeedPost w Ps v asked given) := by
  have hlen := h.len
  obtain ⟨wa, hwa⟩ : ∃ wa : World, wa = w := ⟨_, rfl⟩
  subst hwa
  have HL := Lib.hid (And.intro hlen ha.len)
  have HI := Lib.hid (And.intro hc (And.intro hia hig))
  have HR := Lib.hid hrow
  have H2 := Lib.hid (And.intro h (And.intro ha hg))
  clear hlen hc hia hig hrow h ha hg
  go_enter Try.func108, Try.ntmps108
  go_wp2_with fail
  go_loopw [9, 10] (fun v i wr => ∃ (t q dq : Nat) (O : Option Addr), i = .int .i64 (t : Nat) ∧ v = .slice O q dq ∧ t ≤ m1 ∧ OwnR (Value.int .i64) wr wa.heap.size 3 O q dq (openL (asked.take t) given) ∧ Below wa.heap.size wa wr) (fun _ i _ => m1 - (intOf i).toNat)
  case atStart => exact ⟨0, 0, 0, none, rfl, rfl, Nat.zero_le _, OwnR.nil _ _ _ _, Below.refl _ _⟩
  case round => as_aux_lemma =>
    obtain ⟨t, q, dq, O, rfl, rfl, ht, hO, hb⟩ := hrel
    obtain ⟨wb, hwb⟩ : ∃ wb : World, wb = wr := ⟨_, rfl⟩
    subst hwb
    have hql : q ≤ t := by
      have h1 := hO.length
      have h2 := openL_length (asked.take t) given
      rw [List.length_take] at h2
      omega
    by_cases hlt : t < m1
    · have hi3 : (t : Int) < (m1 : Nat) := by omega
      obtain ⟨bB, oB, rfl, hbB, hc⟩ := (H2.out.2.1.below (Nat.le_refl _) hb).at' (by omega)
      have g1 := hc t hlt
      have htl : t < asked.length := by rw [HL.out.2]; exact hlt
      have hsn := openL_take (given := given) htl
      have hgw := H2.out.2.2.below (Nat.le_refl _) hb
      generalize nth asked t = x at *
      have hos := hO.alloc (.cells #[.int .i64 x] 3)
      have hz := hb.size
      have hbx := hb.alloc hz (.cells #[.int .i64 x] 3)
      have HX := Lib.hid (And.intro hO (And.intro hb (And.intro hsn (And.intro hgw hbx))))
      clear hO hb hsn hgw hc htl hbx
      by_cases hin : x ∈ given
      · have HN := Lib.hid (show openL (asked.take (t + 1)) given = openL (asked.take t) given by rw [HX.out.2.2.1, if_pos hin, List.append_nil])
        have HD := Lib.hid (show decide (x ∈ given) = true by simpa using hin)
        clear hin
        go_wp2_with fail
        refine (has_rb true _ _ _ _ _ _ HX.out.2.2.2.1 HD.out).mono ?_
        rintro e w9 ⟨rfl, rfl⟩
        go_wp2_with fail
        exact ⟨⟨t + 1, q, dq, O, by go_num, rfl, by omega, by rw [HN.out]; exact HX.out.1, HX.out.2.1⟩, by simp [intOf]; omega⟩
      · have HN := Lib.hid (show openL (asked.take (t + 1)) given = openL (asked.take t) given ++ [x] by rw [HX.out.2.2.1, if_neg hin])
        have HD := Lib.hid (show decide (x ∈ given) = false by simpa using hin)
        clear hin
        go_wp2_with fail
        refine (has_rb false _ _ _ _ _ _ HX.out.2.2.2.1 HD.out).mono ?_
        rintro e w9 ⟨rfl, rfl⟩
        go_wp2_with (first
          | (at_builtin; refine wpList_app _ eiInt (Value.int .i64) (fun _ => rfl) rfl _ _ rfl wa.heap.size _ _ _ _ rfl hos _ _ _ [x] rfl (Sl.one (enc := Value.int .i64) _ _ _) (by omega) (by simp; omega) ?_)
          | fail)
        intro A9 c9 w9 ho9 _ hb9 _
        have HF := Lib.hid (And.intro ho9 (HX.out.2.2.2.2.trans hb9))
        clear ho9 hb9 hos g1
        go_wp2_with fail
        exact ⟨⟨t + 1, q + 1, c9, A9, by go_num, rfl, by omega, by rw [HN.out]; exact HF.out.1, HF.out.2⟩, by simp [intOf]; omega⟩
    · obtain rfl : m1 = t := by omega
      rw [take_all (by rw [HL.out.2]; exact Nat.le_refl _)] at hO
      have hO3 := hO.sl (by omega)
      obtain ⟨wv, hwv⟩ : ∃ wv : World, wv = wb := ⟨_, rfl⟩
      subst hwv
      have hz := hb.size
      have hP3 := H2.out.1.below (Nat.le_refl _) hb
      have hg3 := H2.out.2.2.below (Nat.le_refl _) hb
      have HV := Lib.hid hb
      have H3 := Lib.hid (And.intro hP3 (And.intro hg3 hO3))
      clear hO hb hO3 hP3 hg3
      go_wp2_with fail
      go_loopw [11, 12] (fun s i wr => ∃ (t dw : Nat) (W : Option Addr) (vs : List (Option Addr × Nat × Nat)), i = .int .i64 (t : Nat) ∧ s = .slice W t dw ∧ t ≤ n ∧ Mats wr wv.heap.size W t dw (widTo Ps v t) vs ∧ Below wv.heap.size wv wr) (fun _ i _ => n - (intOf i).toNat)
      case atStart => exact ⟨0, 0, none, [], rfl, rfl, Nat.zero_le _, ⟨OwnR.nil _ _ _ _, fun i hi => by omega, rfl⟩, Below.refl _ _⟩
      case round => as_aux_lemma =>
        obtain ⟨t, dw, W, vs, rfl, rfl, ht, hM, hb⟩ := hrel
        obtain ⟨wb2, hwb2⟩ : ∃ wb2 : World, wb2 = wr := ⟨_, rfl⟩
        subst hwb2
        have hz2 := hb.size
        by_cases hlt2 : t < n
        · have hi4 : (t : Int) < (n : Nat) := by omega
          obtain ⟨bA, oA, R, m, dr, rfl, _, hcell, hrow⟩ := (H3.out.1.below (Nat.le_refl _) hb).row hlt2
          have hm90 : m ≤ 1000 := by rw [← hrow.len]; exact HR.out t (by rw [HL.out.1]; exact hlt2)
          have hemp : OwnR (Value.int .i64) wb2 wb2.heap.size 3 none 0 0 ([] : List Int) := OwnR.nil _ _ _ _
          have HM := Lib.hid (And.intro hM hb)
          have hW := widTo_succ Ps v t
          clear hM hb
          by_cases htv : t = v
          · subst htv
            rw [if_pos rfl, HL.out.1] at hW
            have HW := Lib.hid hW
            clear hW
            go_wp2_with (first
              | (at_builtin; refine wpList_app _ eiInt (Value.int .i64) (fun _ => rfl) rfl _ _ rfl wb2.heap.size _ _ _ _ rfl hemp _ _ _ _ rfl hrow (by omega) (Nat.le_refl _) ?_)
              | fail)
            intro A7 c7 w7 ho7 _ hb7 _
            try simp only [Nat.zero_add, List.nil_append] at ho7
            try simp only [Nat.zero_add]
            have hos := ho7.alloc (.cells #[.int .i64 (n : Int)] 3)
            have hz7 := hb7.size
            have HA := Lib.hid hb7
            clear hb7 hemp hrow hcell ho7
            go_wp2_with (first
              | (at_builtin; refine wpList_app _ eiInt (Value.int .i64) (fun _ => rfl) rfl _ _ rfl wb2.heap.size _ _ _ _ rfl hos _ _ _ [(n : Int)] rfl (Sl.one (enc := Value.int .i64) _ _ _) (by omega) (by simp; omega) ?_)
              | fail)
            intro A8 c8 w8 ho8 _ hb8 _
            have hbw8 : Below wb2.heap.size wb2 w8 := (HA.out.alloc (by omega) _).trans hb8
            clear hb8 hos
            have hM8 := HM.out.1.below hbw8
            have hb8 := HM.out.2.trans (hbw8.mono hz2)
            have hz8 := hb8.size
            have hrs := ho8.mono hz2
            have hMo := hM8.out.alloc (.cells #[.slice A8 (m + 1) c8] 23)
            have HP := Lib.hid (And.intro hM8 (And.intro hb8 hrs))
            clear hM8 hb8 hrs ho8
            go_wp2_with (first
              | (at_builtin; refine wpList_app _ eiRows eS one_eS rfl _ _ rfl wv.heap.size _ _ _ _ rfl hMo _ _ _ [(A8, (m + 1), c8)] rfl (Sl.one (enc := eS) _ _ (A8, (m + 1), c8)) (by omega) (by simp; omega) ?_)
              | fail)
            intro A9 c9 w9 ho9 hg9 hb9 _
            have hM9 := HP.out.1.snoc HP.out.2.2 ho9 hg9 (by decide)
            have hb9 := (HP.out.2.1.alloc hz8 _).trans hb9
            have HF := Lib.hid (And.intro hM9 hb9)
            clear hM9 hb9 ho9 hg9 hMo
            go_wp2_with fail
            exact ⟨⟨t + 1, c9, A9, _, by go_num, rfl, by omega, by rw [HW.out]; exact HF.out.1, HF.out.2⟩, by simp [intOf]; omega⟩
          · rw [if_neg htv] at hW
            have HW := Lib.hid hW
            have hi5 : ¬ (t : Int) = (v : Int) := by omega
            clear hW
            go_wp2_with (first
              | (at_builtin; refine wpList_app _ eiInt (Value.int .i64) (fun _ => rfl) rfl _ _ rfl wb2.heap.size _ _ _ _ rfl hemp _ _ _ _ rfl hrow (by omega) (Nat.le_refl _) ?_)
              | fail)
            intro A8 c8 w8 ho8 _ hbw8 _
            try simp only [Nat.zero_add, List.nil_append] at ho8
            try simp only [Nat.zero_add]
            clear hemp hrow hcell
            have hM8 := HM.out.1.below hbw8
            have hb8 := HM.out.2.trans (hbw8.mono hz2)
            have hz8 := hb8.size
            have hrs := ho8.mono hz2
            have hMo := hM8.out.alloc (.cells #[.slice A8 m c8] 23)
            have HP := Lib.hid (And.intro hM8 (And.intro hb8 hrs))
            clear hM8 hb8 hrs ho8
            go_wp2_with (first
              | (at_builtin; refine wpList_app _ eiRows eS one_eS rfl _ _ rfl wv.heap.size _ _ _ _ rfl hMo _ _ _ [(A8, m, c8)] rfl (Sl.one (enc := eS) _ _ (A8, m, c8)) (by omega) (by simp; omega) ?_)
              | fail)
            intro A9 c9 w9 ho9 hg9 hb9 _
            have hM9 := HP.out.1.snoc HP.out.2.2 ho9 hg9 (by decide)
            have hb9 := (HP.out.2.1.alloc hz8 _).trans hb9
            have HF := Lib.hid (And.intro hM9 hb9)
            clear hM9 hb9 ho9 hg9 hMo
            go_wp2_with fail
            exact ⟨⟨t + 1, c9, A9, _, by go_num, rfl, by omega, by rw [HW.out]; exact HF.out.1, HF.out.2⟩, by simp [intOf]; omega⟩
        · obtain rfl : n = t := by omega
          have hvp : v < Ps.length := by rw [HL.out.1]; exact hvn
          have hMo := hM.out.alloc (.cells #[.slice none 0 0] 23)
          have HP := Lib.hid (And.intro hM hb)
          clear hM hb
          go_wp2_with (first
            | (at_builtin; refine wpList_app _ eiRows eS one_eS rfl _ _ rfl wv.heap.size _ _ _ _ rfl hMo _ _ _ [(none, 0, 0)] rfl (Sl.one (enc := eS) _ _ (none, 0, 0)) (by omega) (by simp; omega) ?_)
            | fail)
          intro A9 c9 w9 ho9 hg9 hb9 _
          have hM9 := HP.out.1.snoc (OwnR.nil _ _ _ _) ho9 hg9 (by decide)
          have hb9 := (HP.out.2.alloc hz2 _).trans hb9
          rw [← HL.out.1, widTo_all hvp, HL.out.1] at hM9
          have hbl9 := hb9.size
          have hwr : ∀ i, i < n + 1 → (nth (widerP Ps v) i).length ≤ 140737488351232 := fun i hi => by
            have h90 : ∀ i, i < Ps.length → (nth Ps i).length ≤ 1000 := HR.out
            have hl1 := HL.out.1
            rcases Nat.lt_or_ge i Ps.length with g1 | g1
            · have := h90 i g1
              by_cases e : i = v
              · subst e; rw [nth_widerP_v hvp, List.length_append, List.length_singleton]; omega
              · rw [nth_widerP_other g1 e]; omega
            · obtain rfl : i = Ps.length := by omega
              rw [nth_widerP_n]; simp
          have hrw := hM9.rows (by omega) hwr
          have hO9 := H3.out.2.2.below (Nat.le_refl _) hb9
          have hg9 := H3.out.2.1.below (Nat.le_refl _) hb9
          have hck := wider_check HI.out.1 hvp
          have q1 : InN (widerP Ps v).length (openL asked given) := by rw [widerP_length]; exact (openL_in HI.out.2.1).mono (by omega)
          have q2 : InN (widerP Ps v).length given := by rw [widerP_length]; exact HI.out.2.2.mono (by omega)
          have q3 : zB given n = false := by
            unfold zB; rw [decide_eq_false_iff_not]; intro h
            have := HI.out.2.2 _ h
            have := HL.out.1
            omega
          have HQ := Lib.hid (And.intro hb9 (And.intro hrw (And.intro hO9 (And.intro hg9 (And.intro hck (And.intro q1 (And.intro q2 q3)))))))
          clear hM9 hb9 ho9 hwr hrw hO9 hg9 hck q1 q2 q3 hMo
          go_wp2_with fail
          refine (tells_ref A9 O C (n + 1) c9 q dq m2 d2 n (widerP Ps v) (openL asked given) given _ HQ.out.2.1 HQ.out.2.2.1 HQ.out.2.2.2.1 HQ.out.2.2.2.2.1 (by omega) HQ.out.2.2.2.2.2.1 HQ.out.2.2.2.2.2.2.1 HQ.out.2.2.2.2.2.2.2 (by omega) (by omega) hm2).mono ?_
          rintro e w10 ⟨rfl, hb11⟩
          have hb12 := HV.out.trans ((HQ.out.1.trans (hb11.mono hbl9)).mono hz)
          have HE := Lib.hid hb12
          clear hb11 hb12
          generalize hab : apartB (widerP Ps v) [(n : Int)] (openL asked given) given = ab at *
          have HAB := Lib.hid hab
          clear hab
          go_wp2_with fail
          go_ret
          exact ⟨by rw [HL.out.1, HAB.out]; rfl, HE.out⟩
set_option maxRecDepth 100000 in
set_option maxHeartbeats 1600000 in
theorem kept17_any (A B C : Option Addr) (n c m1 d1 m2 d2 : Nat) (Ps : List (List Int)) (asked given : List Int) (br ap : Bool) (w : World) (h : Rows (Value.int .i64) w A n Ps) (ha : Sl (Value.int .i64) w B m1 asked) (hg : Sl (Value.int .i64) w C m2 given)
    (hn : n ≤ 1000) (hrow : ∀ i, i < Ps.length → (nth Ps i).length ≤ 1000) (hm1 : m1 ≤ 1000) (hm2 : m2 ≤ 1000) :
    Calls Try.prog 90 #[.slice A n c, .slice B m1 d1, .slice C m2 d2, .bool br, .bool ap] w (KeptPPost w Ps asked given br ap) := by
  have hlen := h.len
  obtain ⟨wa, hwa⟩ : ∃ wa : World, wa = w := ⟨_, rfl⟩
  subst hwa
  have HL := Lib.hid (And.intro hlen (And.intro h (And.intro ha (And.intro hg hrow))))
  clear hlen hrow
  go_enter Try.func90, Try.ntmps90
  go_wp2_with fail
  refine (barren17_any A B C n c m1 d1 m2 d2 Ps asked given _ h ha hg hn hm1 hm2).mono ?_
  rintro e w1 ⟨hb, D, k, d, rfl, hD, hD0⟩
  have hz := hb.size
  by_cases hf : aboveE Ps (asked ++ given) = 0
  · have hD := hD hf
    rw [hf]
    have hkD : k ≤ n := by
      have := hD.length
      rw [← this, ← HL.out.1]; unfold castL; rw [List.length_map]; exact bareTo_length _ _ _
    have hDs := hD.sl (by omega)
    have hinv := aboveE_inv hf
    have HF := Lib.hid (And.intro hf (And.intro hb (And.intro hDs hinv)))
    clear h ha hg hb hD hD0 hf hDs hinv
    go_wp2_with fail
    go_loopw [14, 15] (fun o i wr => ∃ (t q dq : Nat) (O : Option Addr), i = .int .i64 (t : Nat) ∧ o = .slice O q dq ∧ t ≤ n ∧ OwnR (Value.int .i64) wr w1.heap.size 3 O q dq (castL (keptTo Ps asked given br ap t)) ∧ Below w1.heap.size w1 wr) (fun _ i _ => n - (intOf i).toNat)
    case atStart => exact ⟨0, 0, 0, none, rfl, rfl, Nat.zero_le _, OwnR.nil _ _ _ _, Below.refl _ _⟩
    case round => as_aux_lemma =>
      obtain ⟨t, q, dq, O, rfl, rfl, ht, hO, hb⟩ := hrel
      obtain ⟨wb, hwb⟩ : ∃ wb : World, wb = wr := ⟨_, rfl⟩
      subst hwb
      by_cases hlt : t < n
      · have hti : (t : Int) < (n : Nat) := by omega
        have hql := hO.length
        have hqb : q ≤ t := by rw [← hql]; unfold castL; rw [List.length_map]; exact keptTo_length _ _ _ _ _ _
        have hwz := hb.size
        have HX := Lib.hid (And.intro hO hb)
        obtain ⟨xb, hxb⟩ : ∃ x, x = decide ((t : Int) ∈ castL (bareL Ps (asked ++ given))) := ⟨_, rfl⟩
        have HXB := Lib.hid hxb
        have hDw := HF.out.2.2.1.below (Nat.le_refl _) hb
        have hbw := HF.out.2.1.trans (hb.mono HF.out.2.1.size)
        have hPw := HL.out.2.1.below (Nat.le_refl _) hbw
        have haw := HL.out.2.2.1.below (Nat.le_refl _) hbw
        have hgw := HL.out.2.2.2.1.below (Nat.le_refl _) hbw
        have HW := Lib.hid (And.intro hDw (And.intro hPw (And.intro haw hgw)))
        clear hO hb hql hxb hDw hbw hPw haw hgw
        go_upto_region 8 with fail
        go_cut [16] from 33 to 38 (fun v wx => v = .bool (br && xb) ∧ wx = wb)
        case first => as_aux_lemma =>
          cases br with
          | false =>
            go_wp2_with fail
            go_meet
            case rel => exact ⟨rfl, rfl⟩
          | true =>
            go_wp2_with fail
            refine (has_rb xb _ _ _ _ _ _ HW.out.1 HXB.out.symm).mono ?_
            rintro e w9 ⟨rfl, rfl⟩
            go_wp2_with fail
            go_meet
            case rel => exact ⟨by simp, rfl⟩
        case rest =>
        obtain ⟨rfl, rfl⟩ := hcut
        have hlv : leaveB Ps asked given br ap t = ((br && xb) || (ap && apartB (widerP Ps t) [(Ps.length : Int)] (openL asked given) given)) := by
          unfold leaveB
          rw [HXB.out]
          congr 2
          rw [decide_eq_decide, mem_castL]
        have HLV := Lib.hid hlv
        clear hlv
        generalize hbx : (br && xb) = bx at *
        clear hbx
        go_upto_region 9 with fail
        go_cut [43] from 39 to 42 (fun v wx => ∃ tb : Bool, v = .bool tb ∧ Aside (tb = (ap && !bx)) ∧ wx = wc)
        case first => as_aux_lemma =>
          cases ap <;> cases bx <;> (
            go_wp2_with fail
            go_meet
            exact ⟨_, rfl, (show Aside _ from rfl), rfl⟩)
        case rest =>
        obtain ⟨tb, rfl, htb, rfl⟩ := hcut
        have HTB := Lib.hid htb.out
        clear htb
        obtain ⟨wz, hwz⟩ : ∃ wz : World, wz = wc := ⟨_, rfl⟩
        subst hwz
        go_upto_if 43 with fail
        go_cut [16] from 43 to 49 (fun v wx => v = .bool (leaveB Ps asked given br ap t) ∧ Below wz.heap.size wz wx)
        case first => as_aux_lemma =>
          cases tb with
          | false =>
            have hbx : leaveB Ps asked given br ap t = bx := by
              rw [HLV.out]
              exact leave_f HTB.out
            have HBX := Lib.hid hbx
            clear hbx
            go_wp2_with fail
            go_meet
            case rel => exact ⟨by rw [HBX.out], Below.refl _ _⟩
          | true =>
            have hbx : leaveB Ps asked given br ap t = apartB (widerP Ps t) [(Ps.length : Int)] (openL asked given) given := by
              rw [HLV.out]
              exact leave_t HTB.out
            have HBX := Lib.hid hbx
            clear hbx
            go_wp2_with fail
            refine (needed_any A B C n c m1 d1 m2 d2 t Ps asked given _ HW.out.2.1 HW.out.2.2.1 HW.out.2.2.2 HF.out.2.2.2.1 (fun x hx => HF.out.2.2.2.2 x (List.mem_append_left _ hx)) (fun x hx => HF.out.2.2.2.2 x (List.mem_append_right _ hx)) hlt hn HL.out.2.2.2.2 hm1 hm2).mono ?_
            rintro e w9 ⟨rfl, hb9⟩
            have HB9 := Lib.hid hb9
            clear hb9
            have hlv := HBX.out
            generalize apartB (widerP Ps t) [(Ps.length : Int)] (openL asked given) given = ab at *
            have HLW := Lib.hid hlv
            clear hlv
            cases ab <;> (
              go_wp2_with fail
              go_meet
              exact ⟨by rw [HLW.out], HB9.out⟩)
        case rest => as_aux_lemma =>
          obtain ⟨rfl, hb9⟩ := hcut
          obtain ⟨wy, hwy⟩ : ∃ wy : World, wy = wc := ⟨_, rfl⟩
          subst hwy
          have hO := HX.out.1.below (Nat.le_refl _) hb9
          have hb := HX.out.2.trans (hb9.mono HX.out.2.size)
          have hk1 := keptTo_skip (Ps := Ps) (asked := asked) (given := given) (br := br) (ap := ap) (k := t)
          have hk2 := keptTo_take (Ps := Ps) (asked := asked) (given := given) (br := br) (ap := ap) (k := t)
          have hzy := hb.size
          have hos := hO.alloc (.cells #[.int .i64 (t : Int)] 3)
          generalize leaveB Ps asked given br ap t = lb at *
          have HY := Lib.hid (And.intro hO (And.intro hb (And.intro hk1 hk2)))
          clear hO hb hk1 hk2 hb9
          cases lb with
          | true =>
            have HN := Lib.hid (HY.out.2.2.1 (by first | rfl | trivial))
            go_wp2_with fail
            exact ⟨⟨t + 1, q, dq, O, by go_num, rfl, by omega, by rw [HN.out]; exact HY.out.1, HY.out.2.1⟩, by simp [intOf]; omega⟩
          | false =>
            have HN := Lib.hid (HY.out.2.2.2 (by first | rfl | trivial))
            go_wp2_with (first
              | (at_builtin; refine wpList_app _ eiInt (Value.int .i64) (fun _ => rfl) rfl _ _ rfl w1.heap.size _ _ _ _ rfl hos _ _ _ [(t : Int)] rfl (Sl.one (enc := Value.int .i64) _ _ _) (by omega) (by simp; omega) ?_)
              | fail)
            intro A9 c9 w9 ho9 _ hb9 _
            have HE := Lib.hid (And.intro ho9 ((HY.out.2.1.alloc hzy _).trans hb9))
            clear ho9 hb9 hos
            go_wp2_with fail
            exact ⟨⟨t + 1, q + 1, c9, A9, by go_num, rfl, by omega, by rw [HN.out, castL_snoc]; exact HE.out.1, HE.out.2⟩, by simp [intOf]; omega⟩
      · obtain rfl : n = t := by omega
        have HX := Lib.hid (And.intro hO hb)
        clear hO hb
        go_wp2_with fail
        go_ret2
        refine ⟨HF.out.2.1.trans (HX.out.2.mono hz), O, q, dq, by rw [HF.out.1]; rfl, fun _ => ?_, fun h0 => absurd HF.out.1 h0⟩
        unfold keptL
        rw [HL.out.1]
        exact HX.out.1.mono hz
  · obtain ⟨rfl, rfl, rfl⟩ := hD0 hf
    have HE := Lib.hid (And.intro hb hf)
    have hle := aboveE_le Ps (asked ++ given)
    clear hb h ha hg hD
    generalize hae : aboveE Ps (asked ++ given) = ae at *
    have HAE := Lib.hid hae
    clear hae
    have he2 : (ae == 0) = false := by simpa using hf
    go_wp2_with fail
    go_ret2
    exact ⟨HE.out.1, none, 0, 0, by rw [HAE.out]; rfl, fun h0 => absurd (HAE.out.symm.trans h0) HE.out.2, fun _ => ⟨rfl, rfl, rfl⟩⟩
end Go.Proofs.Ytdlnglffimcopaa
