/- credencelaw11.SetInts, walked: it returns true. Condition: the slices read as lists. -/
import Derived.Test.YtpacnpiiahchiaaSpoilt
import Derived.Test.YtpacnpiiahchiaaInsI
import Derived.Test.YtpacnpiiahchiaaSet5I
import Derived.Test.YtpacnpiiahchiaaBag
import Derived.Deep.RegionHeld3
namespace Go.Proofs.Ytpacnpiiahchiaa.SetInts
open Go.RowKit

theorem rwith_sl (A : Option Addr) (n c : Nat) (xs : List Int) (x : Int) (w : World) (hx : Sl (Value.int .i64) w A n xs) (hb : n ≤ 100000) :
    Calls Try.prog 23 #[.slice A n c, .int .i64 x] w fun e w' => ∃ A' k c', e = .returned (.slice A' k c') ∧ Sl (Value.int .i64) w' A' k (ins cmpI x xs) ∧ Below w.heap.size w w' := by
  refine (rwith_any A n c xs x w hx hb).mono ?_
  rintro e w' ⟨A', c', rfl, how, hbe⟩
  have hl := ins_length_le (c := cmpI) x xs
  exact ⟨A', _, c', rfl, how.sl (by have := hx.len; omega), hbe⟩
theorem ints_b (A A' : Option Addr) (n c n' c' : Nat) (xs : List Int) (w : World) (hx : Sl (Value.int .i64) w A n xs) (hy : Sl (Value.int .i64) w A' n' xs) :
    Calls Try.prog 15 #[.slice A n c, .slice A' n' c'] w fun e w' => e = .returned (.bool true) ∧ Below w.heap.size w w' :=
  (ints_any A A' n c n' c' xs xs w hx hy).mono fun _ _ ⟨h1, k, h2⟩ => ⟨by rw [h1, decide_eq_true (rfl : xs = xs)], by rw [h2]; exact below_refl_drewN _ _ _⟩
theorem has_b (A : Option Addr) (n c : Nat) (xs : List Int) (x : Int) (b : Bool) (w : World) (hb : decide (x ∈ xs) = b) (hx : Sl (Value.int .i64) w A n xs) (ha : Asc cmpI xs) :
    Calls Try.prog 13 #[.agg #[.slice A n c], .int .i64 x] w fun e w' => e = .returned (.bool b) ∧ Below w.heap.size w w' :=
  (SoI.has_any A n c xs x w hx ha).mono fun _ _ h => ⟨by rw [h.1, isIn_int, hb], h.2⟩
theorem rhas_b (A : Option Addr) (n c : Nat) (xs : List Int) (x : Int) (b : Bool) (w : World) (hb : decide (x ∈ xs) = b) (hx : Sl (Value.int .i64) w A n xs) :
    Calls Try.prog 38 #[.slice A n c, .int .i64 x] w fun e w' => e = .returned (.bool b) ∧ Below w.heap.size w w' :=
  (rhas_any A n c xs x w hx).mono fun _ _ h => ⟨by rw [h.1, hb], by rw [h.2]; exact Below.refl _ _⟩
theorem some_rem (y : Int) (l : List Int) : someOf (ins cmpI y []) false l = rem cmpI y l := by
  unfold someOf rem
  congr 1
  funext z
  have e : ins cmpI y [] = [y] := rfl
  rw [e]
  have h := cmpI_zero z y
  by_cases hz : z = y
  · subst hz
    have h0 : cmpI z z = 0 := by rw [h]
    simp [h0]
  · have h0 : ¬ cmpI z y = 0 := by rw [h]; exact hz
    simp [h0, hz]
theorem chosen_filter {l b : Bool} {s o out : List Int} (hs : Asc cmpI s) (hc : Chosen cmpI l b false s o out) : out = s.filter (want cmpI l b o) := by
  refine Asc.ext cmpokI hc.asc (List.Pairwise.sublist List.filter_sublist hs) fun z => ?_
  rw [hc.mem, List.mem_filter]
  simp
theorem meet_eq {s o out : List Int} (hs : Asc cmpI s) (hc : Chosen cmpI false true false s o out) : out = someOf o true s := by
  rw [chosen_filter hs hc]
  unfold someOf want
  congr 1; funext z
  rw [isIn_int]; by_cases h : z ∈ o <;> simp [h]
theorem minus_eq {s o out : List Int} (hs : Asc cmpI s) (hc : Chosen cmpI true false false s o out) : out = someOf o false s := by
  rw [chosen_filter hs hc]
  unfold someOf want
  congr 1; funext z
  rw [isIn_int]; by_cases h : z ∈ o <;> simp [h]
theorem join_eq {s o out : List Int} {k : Nat} (hs : Asc cmpI s) (hk : o.length = k) (hc : Chosen cmpI true true true s o out) : out = puts s o k := by
  obtain ⟨h1, _, h3⟩ := puts_ok (M := o) hs k (by omega)
  refine Asc.ext cmpokI hc.asc h1 fun z => ?_
  rw [hc.mem, h3, List.take_of_length_le (by omega), isIn_int]
  have hw : want cmpI true true o z = true := by unfold want; split <;> rfl
  rw [hw]
  by_cases h : z ∈ s <;> simp [h]
theorem within_eq (s o : List Int) : SoI.withinB s o = decide ((someOf o false s).length = 0) := by
  rw [Bool.eq_iff_iff, decide_eq_true_iff, List.length_eq_zero_iff]
  unfold SoI.withinB someOf
  rw [List.all_eq_true, List.filter_eq_nil_iff]
  constructor
  · intro h z hz
    have := h z hz
    rw [isIn_int] at this
    simpa using this
  · intro h z hz
    have := h z hz
    rw [isIn_int]
    simpa using this
theorem grown_below_opt {a w : World} {row : Option Nat} {B : Nat} (h : a.grownBy w row) (hB : ∀ g, row = some g → B ≤ g) (hs : B ≤ a.heap.size) : Below B a w :=
  ⟨h.os, h.tape, h.output, h.size, fun k hk => h.block k (by omega) (by intro e; have := hB k e.symm; omega)⟩
theorem Sl.ltB {w : World} {A : Option Addr} {n : Nat} {xs : List Int} (h : Sl (Value.int .i64) w A n xs) : ∀ b off, 0 < n → A = some ⟨b, off, none⟩ → b < w.heap.size := by
  intro b off hp e
  obtain ⟨b', off', e', hlt', _⟩ := h.at' hp
  rw [e] at e'
  injection e' with e'
  injection e' with e1 _
  omega
theorem OwnR.geB {w : World} {base : Nat} {A : Option Addr} {n c : Nat} {xs : List Int} (h : OwnR (Value.int .i64) w base 3 A n c xs) : ∀ b off, 0 < n → A = some ⟨b, off, none⟩ → base ≤ b := by
  intro b off hp e
  obtain ⟨g, rest, e', hb, _⟩ := h.row hp
  rw [e] at e'
  injection e' with e'
  injection e' with e1 _
  omega

theorem kept_apart {w w' : World} {A B : Option Addr} {n m c d base : Nat} {xs : List Int} (ho : OwnR (Value.int .i64) w base 3 B m d xs) (hg : w.grownBy w' (Value.slice A n c).ownBlock) (hlt : ∀ g, (Value.slice A n c).ownBlock = some g → g < base) : OwnR (Value.int .i64) w' base 3 B m d xs := by
  refine World.ownsRow.kept ho hg ?_
  rcases hq : (Value.slice B m d).ownBlock with _ | g
  · exact .inl rfl
  · right
    intro e
    have h1 := hlt g e.symm
    have h2 := (World.ownsRow.lt ho g hq).1
    omega
theorem own_lt {w : World} {A : Option Addr} {n c base : Nat} {xs : List Int} (ho : OwnR (Value.int .i64) w base 3 A n c xs) : ∀ g, (Value.slice A n c).ownBlock = some g → g < w.heap.size := fun g h => (World.ownsRow.lt ho g h).2

theorem within_c (A A' : Option Addr) (n m c c' : Nat) (s o : List Int) (b : Bool) (w : World) (hb' : SoI.withinB s o = b) (hs : Sl (Value.int .i64) w A n s) (ho : Sl (Value.int .i64) w A' m o) (hsa : Asc cmpI s) (hoa : Asc cmpI o) (hb : (n + m) * 8 ≤ 140737488355328) :
    Calls Try.prog 20 #[.agg #[.slice A n c], .agg #[.slice A' m c']] w fun e w' => e = .returned (.bool b) ∧ Below w.heap.size w w' :=
  (SoI.within_any A A' n m c c' s o w hs ho hsa hoa hb).mono fun _ _ h => ⟨by rw [h.1, hb'], h.2⟩
theorem same_c (A A' : Option Addr) (n m c c' : Nat) (s o : List Int) (b : Bool) (w : World) (hb' : SoI.sameB s o = b) (hs : Sl (Value.int .i64) w A n s) (ho : Sl (Value.int .i64) w A' m o) (hsa : Asc cmpI s) (hoa : Asc cmpI o) (hb : (n + m) * 8 ≤ 140737488355328) :
    Calls Try.prog 17 #[.agg #[.slice A n c], .agg #[.slice A' m c']] w fun e w' => e = .returned (.bool b) ∧ Below w.heap.size w w' :=
  (SoI.same_any A A' n m c c' s o w hs ho hsa hoa hb).mono fun _ _ h => ⟨by rw [h.1, hb'], h.2⟩

/-- what stands all along -/
structure F1 (A : Option Addr) (n : Nat) (A' : Option Addr) (n' : Nat) (P : Option Addr) (kp : Nat) (Q : Option Addr) (kq : Nat) (B1 : Option Addr) (k1 d1 p1 : Nat) (B2 : Option Addr) (k2 d2 p2 : Nat) (xs ys L M : List Int) (w : World) : Prop where
  xs : Sl (Value.int .i64) w A n xs
  ys : Sl (Value.int .i64) w A' n' ys
  p : Sl (Value.int .i64) w P kp L
  q : Sl (Value.int .i64) w Q kq M
  s1 : Sl (Value.int .i64) w B1 k1 L
  q1 : RowC w p1 25 [.slice B1 k1 d1]
  s2 : Sl (Value.int .i64) w B2 k2 M
  q2 : RowC w p2 25 [.slice B2 k2 d2]
instance {A : Option Addr} {n : Nat} {A' : Option Addr} {n' : Nat} {P : Option Addr} {kp : Nat} {Q : Option Addr} {kq : Nat} {B1 : Option Addr} {k1 d1 p1 : Nat} {B2 : Option Addr} {k2 d2 p2 : Nat} {xs ys L M : List Int} : Stable (fun w => F1 A n A' n' P kp Q kq B1 k1 d1 p1 B2 k2 d2 p2 xs ys L M w) :=
  ⟨fun hb h => ⟨h.xs.below (Nat.le_refl _) hb, h.ys.below (Nat.le_refl _) hb, h.p.below (Nat.le_refl _) hb, h.q.below (Nat.le_refl _) hb, h.s1.below (Nat.le_refl _) hb, h.q1.below' hb, h.s2.below (Nat.le_refl _) hb, h.q2.below' hb⟩⟩

set_option maxRecDepth 100000 in
set_option maxHeartbeats 8000000 in
theorem law (A : Option Addr) (n c : Nat) (xs : List Int) (A' : Option Addr) (n' c' : Nat) (ys : List Int) (x : Int) (w : World) (hx : Sl (Value.int .i64) w A n xs) (_ : ∀ z ∈ xs, (Lit.int .i64 z).wf = true) (hy : Sl (Value.int .i64) w A' n' ys) (_ : ∀ z ∈ ys, (Lit.int .i64 z).wf = true) (_ : (Lit.int .i64 x).wf = true) :
    Calls Try.prog 8 #[.slice A n c, .slice A' n' c', .int .i64 x] w fun e w' => e = .returned (.bool true) ∧ Below w.heap.size w w' := by
  obtain ⟨L, hLd⟩ : ∃ L, L = setOf cmpI xs := ⟨_, rfl⟩
  have hLl : L.length ≤ xs.length := by rw [hLd]; exact setOf_length_le (c := cmpI) xs
  have hasc : Asc cmpI L := by rw [hLd]; exact asc_setOf cmpokI xs
  obtain ⟨M, hMd⟩ : ∃ M, M = setOf cmpI ys := ⟨_, rfl⟩
  have hMl : M.length ≤ ys.length := by rw [hMd]; exact setOf_length_le (c := cmpI) ys
  have hasc' : Asc cmpI M := by rw [hMd]; exact asc_setOf cmpokI ys
  have hxl := hx.len
  have hyl := hy.len
  have HL := Lib.hid (And.intro hLd (And.intro hLl (And.intro hasc hxl))); clear hLd hLl hasc hxl
  have HM := Lib.hid (And.intro hMd (And.intro hMl (And.intro hasc' hyl))); clear hMd hMl hasc' hyl
  go_enter Try.func8, Try.ntmps8
  by_cases hn1 : 300 < n
  · go_wp2_with fail
    go_ret
    exact ⟨rfl, Below.refl _ _⟩
  have hn1' : decide (300 < n) = false := by simpa using hn1
  by_cases hn2 : 300 < n'
  · go_wp2_with fail
    go_ret
    exact ⟨rfl, Below.refl _ _⟩
  have hn2' : decide (300 < n') = false := by simpa using hn2
  go_wp2_with fail
  clear hn1' hn2'
  have hm1 : n ≤ 300 := by omega
  have hm2 : n' ≤ 300 := by omega
  clear hn1 hn2
  refine (rof_any A n c xs _ hx (by omega)).mono ?_
  rintro e w1 ⟨P, kp, cp, rfl, hp, hb⟩
  rw [← HL.out.1] at hp
  have H1 := ((((Held.init w).sl hy).sl hx).step hb).sl hp
  clear hp hb hx hy
  go_wp2_with fail
  refine (rof_any A' n' c' ys _ H1.has.2.2.1 (by omega)).mono ?_
  rintro e w2 ⟨Q, kq, cq, rfl, hq, hb⟩
  rw [← HM.out.1] at hq
  have H2 := (H1.step hb).sl hq
  have hkp : kp ≤ 300 := by have := H2.has.2.1.len; have := HL.out; omega
  have hkq : kq ≤ 300 := by have := H2.has.1.len; have := HM.out; omega
  have hkp' := H2.has.2.1.len
  have hkq' := H2.has.1.len
  have HKL := Lib.hid (And.intro hkp' hkq'); clear hkp' hkq'
  clear hq hb H1
  go_wp2_with fail
  refine (long_any A n c xs _ H2.has.2.2.1 (by omega)).mono ?_
  rintro e w3 ⟨A10, c10, rfl, how10, hb⟩
  obtain ⟨g10, rest10, rfl, hg10, hr10, hc10⟩ := how10.row (by omega)
  have ne1 := Sl.ltB H2.has.2.2.1
  have ne2 := Sl.ltB H2.has.2.2.2.1
  have ne3 := Sl.ltB H2.has.2.1
  have ne4 := Sl.ltB H2.has.1
  have H3 := (H2.step hb).own how10
  have hlt10 : g10 < w3.heap.size := hr10.lt
  have hpre : Sl (Value.int .i64) w3 (some ⟨g10, 0, none⟩) n xs := OwnR.pre how10 HL.out.2.2.2 (by omega)
  have hcap10 := how10.cap
  have hi1 : ((n : Nat) : Int) ≤ (c10 : Nat) := by omega
  have hw2 := H2.bel.size
  have HN := Lib.hid (And.intro hw2 (And.intro ne1 (And.intro ne2 (And.intro ne3 (And.intro ne4 (And.intro hg10 hlt10)))))); clear hw2 ne1 ne2 ne3 ne4 hb H2 how10 hr10 hg10
  go_wp2_with fail
  refine (SoI.of_any (some ⟨g10, 0, none⟩) n c10 xs _ hpre (by omega)).mono ?_
  rintro e w4 ⟨B1, k1, d1, rfl, how, hb⟩
  rw [← HL.out.1] at how
  have hk1 : k1 ≤ 300 := by have := how.length; have := HL.out; omega
  have ge1 := OwnR.geB how
  have hz4 := hb.size
  have H4 := ((H3.step hb).sl (how.sl (by omega))).new 25 [.slice B1 k1 d1]
  clear how hb H3 hpre hi1
  go_wp2_with fail
  refine (SoI.of_any A' n' c' ys _ H4.has.2.2.2.2.2.2.1 (by omega)).mono ?_
  rintro e w5 ⟨B2, k2, d2, rfl, how, hb⟩
  rw [← HM.out.1] at how
  have hk2 : k2 ≤ 300 := by have := how.length; have := HM.out; omega
  have ge2 := OwnR.geB how
  have hz5 := hb.size
  have H5 := ((H4.step hb).sl (how.sl (by omega))).new 25 [.slice B2 k2 d2]
  have hz5' : w3.heap.size ≤ w5.heap.size := by simp only [World.size_alloc] at hz5; omega
  have ge2' : ∀ b off, 0 < k2 → B2 = some ⟨b, off, none⟩ → w3.heap.size ≤ b := fun b off hp e => by have h1 := ge2 b off hp e; simp only [World.size_alloc] at h1; omega
  have HG := Lib.hid (And.intro ge1 (And.intro ge2' (And.intro hz4 hz5'))); clear ge1 ge2 ge2' hz4 hz5 hz5' how hb H4
  go_upto_region 9 with fail
  generalize w5.alloc (.cells #[.slice B2 k2 d2] 25) = w6 at *
  generalize w4.heap.size = p1 at *
  generalize w5.heap.size = p2 at *
  go_wp2_with fail
  refine (long_any A n c xs _ H5.has.2.2.2.2.2.2.2.1 (by omega)).mono ?_
  rintro e w7 ⟨A11, c11, rfl, how11, hb⟩
  have H6 := (H5.step hb).sl (how11.sl (by omega))
  clear how11 hb H5
  go_wp2_with fail
  refine (ints_b (some ⟨g10, 0, none⟩) A11 (n + 20) c10 (n + 20) c11 (xs ++ marks 20) _ (H6.has.2.2.2.2.2.1.sl (by omega)) H6.has.1).mono ?_
  rintro e w8 ⟨rfl, hb⟩
  have H7 := H6.step hb
  have hcl := H7.has.2.2.2.2.2.1.length
  have hown8 := H7.has.2.2.2.2.2.1
  clear hb H6
  obtain ⟨wa, hwa⟩ : ∃ wa : World, wa = w8 := ⟨_, rfl⟩
  subst hwa
  have HC := Lib.hid (And.intro hown8 hcl); clear hcl hown8
  go_wp2_with fail
  go_loopw [13] (fun i wr => ∃ (k : Nat) (zs : List Int), i = .int .i64 (k : Nat) ∧ k ≤ n + 20 ∧ OwnR (Value.int .i64) wr w2.heap.size 3 (some ⟨g10, 0, none⟩) (n + 20) c10 zs ∧ wa.grownBy wr (some g10)) (fun i _ => n + 20 - (intOf i).toNat)
  case atStart => exact ⟨0, _, rfl, Nat.zero_le _, HC.out.1, grown_refl _ _⟩
  case round =>
    obtain ⟨k, zs, rfl, hk, ho, hg⟩ := hrel
    obtain ⟨wb, hwb⟩ : ∃ wb : World, wb = wr := ⟨_, rfl⟩
    subst hwb
    by_cases hlt : k < n + 20
    · obtain ⟨g, rest, he, hbg, hr, hc⟩ := ho.row (by omega)
      injection he with he
      injection he with he
      subst he
      have hkl : k < zs.length := by rw [ho.length]; exact hlt
      have hzl := ho.length
      have g1 := hr.cell hkl
      have f1 := hr.frozen k
      have hset := hr.set hkl (-5)
      have ho2 := ho.over hset (by simpa using hzl) hc
      have hg2 : wa.grownBy (wb.setCell ⟨g10, k, none⟩ (.int .i64 (-5))) (some g10) := grown_setCell hg k _
      have HH := Lib.hid (And.intro ho2 hg2); clear ho2 hg2 hset ho hg hr hkl hzl
      go_wp2_with fail
      exact ⟨⟨k + 1, _, by go_num, by omega, HH.out.1, HH.out.2⟩, by simp [intOf]; omega⟩
    · have hN := HN.out
      have hbw : Below w.heap.size wa wb := grown_below hg (by have h1 := hN.1; have h2 := hN.2.2.2.2.2.1; omega) H7.bel.size
      have hF : F1 A n A' n' P kp Q kq B1 k1 d1 p1 B2 k2 d2 p2 xs ys L M wb :=
        ⟨Sl.grown H7.has.2.2.2.2.2.2.2.2.1 hg (fun b off hp e q => by injection q with q; have h1 := hN.2.1 b off hp e; have h2 := hN.2.2.2.2.2.1; omega),
          Sl.grown H7.has.2.2.2.2.2.2.2.2.2.1 hg (fun b off hp e q => by injection q with q; have h1 := hN.2.2.1 b off hp e; have h2 := hN.2.2.2.2.2.1; omega),
          Sl.grown H7.has.2.2.2.2.2.2.2.1 hg (fun b off hp e q => by injection q with q; have h1 := hN.2.2.2.1 b off hp e; have h2 := hN.2.2.2.2.2.1; omega),
          Sl.grown H7.has.2.2.2.2.2.2.1 hg (fun b off hp e q => by injection q with q; have h1 := hN.2.2.2.2.1 b off hp e; have h2 := hN.2.2.2.2.2.1; omega),
          Sl.grown H7.has.2.2.2.2.1 hg (fun b off hp e q => by injection q with q; have h1 := HG.out.1 b off hp e; have h2 := hN.2.2.2.2.2.2; omega),
          H7.has.2.2.2.1.grown hg (by intro q; injection q with q; have h1 := HG.out.2.2.1; have h2 := hN.2.2.2.2.2.2; omega),
          Sl.grown H7.has.2.2.1 hg (fun b off hp e q => by injection q with q; have h1 := HG.out.2.1 b off hp e; have h2 := hN.2.2.2.2.2.2; omega),
          H7.has.2.1.grown hg (by intro q; injection q with q; have h1 := HG.out.2.2.2; have h2 := hN.2.2.2.2.2.2; omega)⟩
      have G0 : Held w (fun w => F1 A n A' n' P kp Q kq B1 k1 d1 p1 B2 k2 d2 p2 xs ys L M w) wb := ⟨H7.bel.trans hbw, hF⟩
      have HKL2 := HKL.out
      clear hN hbw hF H7 ho hg HC HG HN HKL
      obtain ⟨b1, hb1⟩ : ∃ b1, decide (x ∈ L) = b1 := ⟨_, rfl⟩
      obtain ⟨b2, hb2⟩ : ∃ b2, decide (x ∈ M) = b2 := ⟨_, rfl⟩
      have HBB := Lib.hid (And.intro hb1 (And.intro hb2 HKL2)); clear hb1 hb2 HKL2
      have G0k := G0
      have r_q1_0 := G0.has.q1.cell 0
      go_wp2_with fail
      refine (SoI.list_any B1 k1 d1 L _ G0.has.s1 (by omega)).mono ?_
      rintro e v20 ⟨Af, cf, rfl, how, hb⟩
      have hzf := hb.size
      have ltf := own_lt how
      have hbf := hb
      have G1 := ((G0.step hb).own (how.mono (Nat.le_succ _)))
      clear how r_q1_0 G0 hb
      have r_q1_0 := G1.has.2.q1.cell 0
      go_wp2_with fail
      refine (SoI.list_any B1 k1 d1 L _ G1.has.2.s1 (by omega)).mono ?_
      rintro e v21 ⟨As, cs, rfl, how, hb⟩
      have hbs := hb
      have G2 := ((G1.step hb).own (how.mono (Nat.le_succ _)))
      clear how r_q1_0 G1 hb
      go_wp2_with fail
      refine (ints_b Af P k1 cf kp cp L _ (G2.has.2.1.sl (by omega)) G2.has.2.2.p).mono ?_
      rintro e v22 ⟨rfl, hb⟩
      have hbg := hb
      have G3 := (G2.step hb)
      clear G2 hb
      go_wp2_with fail
      refine (ints_b As P k1 cs kp cp L _ (G3.has.1.sl (by omega)) G3.has.2.2.p).mono ?_
      rintro e v23 ⟨rfl, hb⟩
      have hbh := hb
      have G4 := (G3.step hb)
      clear G3 hb
      have hK : Below wb.heap.size wb v23 := ((hbf.trans (hbs.mono hzf)).trans (hbg.mono (Nat.le_trans hzf hbs.size))).trans (hbh.mono (Nat.le_trans hzf (Nat.le_trans hbs.size hbg.size)))
      have hKs := hK.size
      clear hbf hbs hbg hbh
      go_wp2_with fail
      refine (spoilt_any wb.heap.size Af k1 cf L (-1) _ G4.has.2.1 (by omega) hKs).mono ?_
      rintro e v24 ⟨rfl, hg⟩
      have hbs := grown_below_opt hg (fun g e => (World.ownsRow.lt G4.has.2.1 g e).1) hKs
      have hsec := kept_apart G4.has.1 hg ltf
      have G9 := (G0k.step (hK.trans hbs)).sl (hsec.sl (by omega))
      clear hK hKs hbs hg hsec ltf hzf G0k G4
      go_wp2_with fail
      refine (ints_b As P k1 cs kp cp L _ G9.has.1 G9.has.2.p).mono ?_
      rintro e v25 ⟨rfl, hb⟩
      have G10 := (G9.step hb)
      clear G9 hb
      have r_q1_0 := G10.has.2.q1.cell 0
      go_wp2_with fail
      refine (SoI.list_any B1 k1 d1 L _ G10.has.2.s1 (by omega)).mono ?_
      rintro e v26 ⟨At, ct, rfl, how, hb⟩
      have G11 := ((G10.step hb).sl (how.sl (by omega)))
      clear how r_q1_0 G10 hb
      go_wp2_with fail
      refine (ints_b At P k1 ct kp cp L _ G11.has.1 G11.has.2.2.p).mono ?_
      rintro e v27 ⟨rfl, hb⟩
      have G12 := (G11.step hb)
      clear G11 hb
      have G13 := G12.drop1.drop0
      clear G12
      have hk1p : k1 = kp := by rw [← G13.has.s1.len, ← G13.has.p.len]
      have hk2q : k2 = kq := by rw [← G13.has.s2.len, ← G13.has.q.len]
      subst hk1p hk2q
      have r_q1_0 := G13.has.q1.cell 0
      go_wp2_with fail
      refine (SoI.len_any B1 k1 d1 _).mono ?_
      rintro e v28 ⟨rfl, hb⟩
      have G14 := (G13.step hb)
      clear r_q1_0 G13 hb
      have r_q1_0 := G14.has.q1.cell 0
      go_wp2_with fail
      refine (has_b B1 k1 d1 L x b1 _ HBB.out.1 G14.has.s1 HL.out.2.2.1).mono ?_
      rintro e v29 ⟨rfl, hb⟩
      have G15 := (G14.step hb)
      clear r_q1_0 G14 hb
      go_wp2_with fail
      refine (rhas_b P k1 cp L x b1 _ HBB.out.1 G15.has.p).mono ?_
      rintro e v30 ⟨rfl, hb⟩
      have G16 := (G15.step hb)
      clear G15 hb
      have r_q2_0 := G16.has.q2.cell 0
      go_wp2_with fail
      refine (has_b B2 k2 d2 M x b2 _ HBB.out.2.1 G16.has.s2 HM.out.2.2.1).mono ?_
      rintro e v31 ⟨rfl, hb⟩
      have G17 := (G16.step hb)
      clear r_q2_0 G16 hb
      go_wp2_with fail
      refine (rhas_b Q k2 cq M x b2 _ HBB.out.2.1 G17.has.q).mono ?_
      rintro e v32 ⟨rfl, hb⟩
      have G18 := (G17.step hb)
      clear G17 hb
      have r_q1_0 := G18.has.q1.cell 0
      go_wp2_with fail
      refine (SoI.with_any B1 k1 d1 L x _ G18.has.s1 HL.out.2.2.1 (by omega)).mono ?_
      rintro e v33 ⟨D1, m1, f1, rfl, hs, hb⟩
      have hm3 : m1 ≤ 301 := by have h1 := hs.len; have h2 := ins_length_le (c := cmpI) x L; have h3 := HL.out.2.1; have h4 := HL.out.2.2.2; omega
      have G19 := (((G18.step hb).sl (hs)).new 25 [.slice D1 m1 f1])
      clear hs r_q1_0 G18 hb
      have r_q1_0 := G19.has.2.2.q1.cell 0
      go_wp2_with fail
      refine (SoI.without_any B1 k1 d1 L x _ G19.has.2.2.s1 HL.out.2.2.1 (by omega)).mono ?_
      rintro e v34 ⟨D2, m2, f2, rfl, hs, hb⟩
      have hm4 : m2 ≤ 300 := by have h1 := hs.len; have h2 : (rem cmpI x L).length ≤ L.length := List.length_filter_le _ _; have h3 := HL.out.2.1; have h4 := HL.out.2.2.2; omega
      have G20 := (((G19.step hb).sl (hs)).new 25 [.slice D2 m2 f2])
      clear hs r_q1_0 G19 hb
      have r_q1_0 := G20.has.2.2.2.2.q1.cell 0
      have r_q2_0 := G20.has.2.2.2.2.q2.cell 0
      go_wp2_with fail
      refine (SoI.join_any B1 B2 k1 k2 d1 d2 L M _ G20.has.2.2.2.2.s1 G20.has.2.2.2.2.s2 HL.out.2.2.1 HM.out.2.2.1 (by omega)).mono ?_
      rintro e v35 ⟨D3, m3, f3, out3, rfl, hch, hs, hb⟩
      have hm5 : m3 ≤ 600 := by have h1 := hs.len; have h2 := hch.len; have h3 := HL.out.2.1; have h4 := HL.out.2.2.2; have h5 := HM.out.2.1; have h6 := HM.out.2.2.2; omega
      have ho3 := join_eq HL.out.2.2.1 HBB.out.2.2.2 hch
      subst ho3
      have G21 := (((G20.step hb).sl (hs)).new 25 [.slice D3 m3 f3])
      clear hs hch r_q1_0 r_q2_0 G20 hb
      have r_q1_0 := G21.has.2.2.2.2.2.2.q1.cell 0
      have r_q2_0 := G21.has.2.2.2.2.2.2.q2.cell 0
      go_wp2_with fail
      refine (SoI.meet_any B1 B2 k1 k2 d1 d2 L M _ G21.has.2.2.2.2.2.2.s1 G21.has.2.2.2.2.2.2.s2 HL.out.2.2.1 HM.out.2.2.1 (by omega)).mono ?_
      rintro e v36 ⟨D4, m4, f4, out4, rfl, hch, hs, hb⟩
      have hm6 : m4 ≤ 600 := by have h1 := hs.len; have h2 := hch.len; have h3 := HL.out.2.1; have h4 := HL.out.2.2.2; have h5 := HM.out.2.1; have h6 := HM.out.2.2.2; omega
      have ho4 := meet_eq HL.out.2.2.1 hch
      subst ho4
      have G22 := (((G21.step hb).sl (hs)).new 25 [.slice D4 m4 f4])
      clear hs hch r_q1_0 r_q2_0 G21 hb
      have r_q1_0 := G22.has.2.2.2.2.2.2.2.2.q1.cell 0
      have r_q2_0 := G22.has.2.2.2.2.2.2.2.2.q2.cell 0
      go_wp2_with fail
      refine (SoI.minus_any B1 B2 k1 k2 d1 d2 L M _ G22.has.2.2.2.2.2.2.2.2.s1 G22.has.2.2.2.2.2.2.2.2.s2 HL.out.2.2.1 HM.out.2.2.1 (by omega)).mono ?_
      rintro e v37 ⟨D5, m5, f5, out5, rfl, hch, hs, hb⟩
      have hm7 : m5 ≤ 600 := by have h1 := hs.len; have h2 := hch.len; have h3 := HL.out.2.1; have h4 := HL.out.2.2.2; have h5 := HM.out.2.1; have h6 := HM.out.2.2.2; omega
      have ho5 := minus_eq HL.out.2.2.1 hch
      subst ho5
      have G23 := (((G22.step hb).sl (hs)).new 25 [.slice D5 m5 f5])
      clear hs hch r_q1_0 r_q2_0 G22 hb
      have r_bw1_0 := G23.has.2.2.2.2.2.2.2.2.1.cell 0
      go_wp2_with fail
      refine (SoI.list_any D1 m1 f1 _ _ G23.has.2.2.2.2.2.2.2.2.2.1 (by omega)).mono ?_
      rintro e v38 ⟨ED10, eD10, rfl, how, hb⟩
      have G24 := ((G23.step hb).sl (how.sl (by omega)))
      clear how r_bw1_0 G23 hb
      go_wp2_with fail
      refine (rwith_sl P k1 cp L x _ G24.has.2.2.2.2.2.2.2.2.2.2.2.p (by omega)).mono ?_
      rintro e v39 ⟨Ra0, ra0, ca0, rfl, hs, hb⟩
      have G25 := ((G24.step hb).sl (hs))
      clear hs G24 hb
      go_wp2_with fail
      refine (ints_b _ _ _ _ _ _ (ins cmpI x L) _ G25.has.2.1 G25.has.1).mono ?_
      rintro e v40 ⟨rfl, hb⟩
      have G26 := (G25.step hb)
      clear G25 hb
      have G27 := G26.drop1.drop0
      clear G26
      have r_bw2_0 := G27.has.2.2.2.2.2.2.1.cell 0
      go_wp2_with fail
      refine (SoI.list_any D2 m2 f2 _ _ G27.has.2.2.2.2.2.2.2.1 (by omega)).mono ?_
      rintro e v41 ⟨ED20, eD20, rfl, how, hb⟩
      have G28 := ((G27.step hb).sl (how.sl (by omega)))
      clear how r_bw2_0 G27 hb
      go_wp2_with fail
      refine (rwith_sl none 0 0 [] x _ (Sl.nil _ _ _) (by omega)).mono ?_
      rintro e v42 ⟨Rb0, rb0, cb0, rfl, hs, hb⟩
      have G29 := ((G28.step hb).sl (hs))
      clear hs G28 hb
      go_wp2_with fail
      refine (rsome_any P Rb0 k1 cp rb0 cb0 L (ins cmpI x []) false _ G29.has.2.2.2.2.2.2.2.2.2.2.2.2.p G29.has.1 (by omega)).mono ?_
      rintro e v43 ⟨Rc0, rc0, cc0, rfl, hs, hb⟩
      rw [some_rem] at hs
      have G30 := ((G29.step hb).sl (hs))
      clear hs G29 hb
      go_wp2_with fail
      refine (ints_b _ _ _ _ _ _ (rem cmpI x L) _ G30.has.2.2.1 G30.has.1).mono ?_
      rintro e v44 ⟨rfl, hb⟩
      have G31 := (G30.step hb)
      clear G30 hb
      have G32 := G31.drop2.drop0.drop0
      clear G31
      have r_bw3_0 := G32.has.2.2.2.2.1.cell 0
      go_wp2_with fail
      refine (SoI.list_any D3 m3 f3 _ _ G32.has.2.2.2.2.2.1 (by omega)).mono ?_
      rintro e v45 ⟨ED30, eD30, rfl, how, hb⟩
      have G33 := ((G32.step hb).sl (how.sl (by omega)))
      clear how r_bw3_0 G32 hb
      go_wp2_with fail
      refine (rjoin_any P Q k1 cp k2 cq L M _ G33.has.2.2.2.2.2.2.2.2.2.2.2.p G33.has.2.2.2.2.2.2.2.2.2.2.2.q HL.out.2.2.1 (by omega)).mono ?_
      rintro e v46 ⟨Rd0, rd0, cd0, rfl, hs, hb⟩
      have G34 := ((G33.step hb).sl (hs))
      clear hs G33 hb
      go_wp2_with fail
      refine (ints_b _ _ _ _ _ _ (puts L M k2) _ G34.has.2.1 G34.has.1).mono ?_
      rintro e v47 ⟨rfl, hb⟩
      have G35 := (G34.step hb)
      clear G34 hb
      have G36 := G35.drop1.drop0
      clear G35
      have r_bw4_0 := G36.has.2.2.1.cell 0
      go_wp2_with fail
      refine (SoI.list_any D4 m4 f4 _ _ G36.has.2.2.2.1 (by omega)).mono ?_
      rintro e v48 ⟨ED40, eD40, rfl, how, hb⟩
      have G37 := ((G36.step hb).sl (how.sl (by omega)))
      clear how r_bw4_0 G36 hb
      go_wp2_with fail
      refine (rsome_any P Q k1 cp k2 cq L M true _ G37.has.2.2.2.2.2.2.2.2.2.2.2.p G37.has.2.2.2.2.2.2.2.2.2.2.2.q (by omega)).mono ?_
      rintro e v49 ⟨Re0, re0, ce0, rfl, hs, hb⟩
      have G38 := ((G37.step hb).sl (hs))
      clear hs G37 hb
      go_wp2_with fail
      refine (ints_b _ _ _ _ _ _ (someOf M true L) _ G38.has.2.1 G38.has.1).mono ?_
      rintro e v50 ⟨rfl, hb⟩
      have G39 := (G38.step hb)
      clear G38 hb
      have G40 := G39.drop1.drop0
      clear G39
      have r_bw5_0 := G40.has.1.cell 0
      go_wp2_with fail
      refine (SoI.list_any D5 m5 f5 _ _ G40.has.2.1 (by omega)).mono ?_
      rintro e v51 ⟨ED50, eD50, rfl, how, hb⟩
      have G41 := ((G40.step hb).sl (how.sl (by omega)))
      clear how r_bw5_0 G40 hb
      go_wp2_with fail
      refine (rsome_any P Q k1 cp k2 cq L M false _ G41.has.2.2.2.2.2.2.2.2.2.2.2.p G41.has.2.2.2.2.2.2.2.2.2.2.2.q (by omega)).mono ?_
      rintro e v52 ⟨Rf0, rf0, cf0, rfl, hs, hb⟩
      have G42 := ((G41.step hb).sl (hs))
      clear hs G41 hb
      go_wp2_with fail
      refine (ints_b _ _ _ _ _ _ (someOf M false L) _ G42.has.2.1 G42.has.1).mono ?_
      rintro e v53 ⟨rfl, hb⟩
      have G43 := (G42.step hb)
      clear G42 hb
      have G44 := G43.drop1.drop0
      clear G43
      go_wp2_with fail
      refine (rsome_any P Q k1 cp k2 cq L M false _ G44.has.2.2.2.2.2.2.2.2.2.2.p G44.has.2.2.2.2.2.2.2.2.2.2.q (by omega)).mono ?_
      rintro e v54 ⟨Rw, kw, cw, rfl, hs, hb⟩
      have hw3 : (SoI.withinB L M = true ∧ kw = 0) ∨ (SoI.withinB L M = false ∧ ¬ kw = 0 ∧ (((kw : Nat) : Int) == 0) = false) := by
        have hwl := hs.len
        by_cases h0 : kw = 0
        · exact .inl ⟨by rw [within_eq, hwl]; simpa using h0, h0⟩
        · exact .inr ⟨by rw [within_eq, hwl]; simpa using h0, h0, by simpa using h0⟩
      have G45 := (G44.step hb)
      clear hs G44 hb
      obtain ⟨bw, hbw, hk0⟩ : ∃ bw, SoI.withinB L M = bw ∧ ((bw = true ∧ kw = 0) ∨ (bw = false ∧ ¬ kw = 0 ∧ (((kw : Nat) : Int) == 0) = false)) := by rcases hw3 with ⟨h1, h2⟩ | ⟨h1, h2⟩; exact ⟨true, h1, .inl ⟨rfl, h2⟩⟩; exact ⟨false, h1, .inr ⟨rfl, h2⟩⟩
      have HW1 := Lib.hid hbw; clear hbw hw3
      rcases hk0 with ⟨rfl, rfl⟩ | ⟨rfl, hk0, hk1⟩
      · go_wp2_with fail
        refine (rsome_any Q P k2 cq k1 cp M L false _ G45.has.2.2.2.2.2.2.2.2.2.2.q G45.has.2.2.2.2.2.2.2.2.2.2.p (by omega)).mono ?_
        rintro e v55 ⟨Rv, kv, cv, rfl, hs, hb⟩
        have hv3 : (SoI.withinB M L = true ∧ kv = 0) ∨ (SoI.withinB M L = false ∧ ¬ kv = 0 ∧ (((kv : Nat) : Int) == 0) = false) := by
          have hvl := hs.len
          by_cases h0 : kv = 0
          · exact .inl ⟨by rw [within_eq, hvl]; simpa using h0, h0⟩
          · exact .inr ⟨by rw [within_eq, hvl]; simpa using h0, h0, by simpa using h0⟩
        have G46 := (G45.step hb)
        clear hs G45 hb
        obtain ⟨bv, hbv, hv0⟩ : ∃ bv, SoI.withinB M L = bv ∧ ((bv = true ∧ kv = 0) ∨ (bv = false ∧ ¬ kv = 0 ∧ (((kv : Nat) : Int) == 0) = false)) := by rcases hv3 with ⟨h1, h2⟩ | ⟨h1, h2⟩; exact ⟨true, h1, .inl ⟨rfl, h2⟩⟩; exact ⟨false, h1, .inr ⟨rfl, h2⟩⟩
        clear hv3
        have HW := Lib.hid (And.intro HW1.out (show SoI.sameB L M = bv by unfold SoI.sameB; rw [HW1.out, hbv, Bool.true_and])); clear hbv HW1
        rcases hv0 with ⟨rfl, rfl⟩ | ⟨rfl, hv0, hv1⟩
        · have r_q1_0 := G46.has.2.2.2.2.2.2.2.2.2.2.q1.cell 0
          have r_q2_0 := G46.has.2.2.2.2.2.2.2.2.2.2.q2.cell 0
          go_wp2_with fail
          refine (within_c B1 B2 k1 k2 d1 d2 L M _ _ HW.out.1 G46.has.2.2.2.2.2.2.2.2.2.2.s1 G46.has.2.2.2.2.2.2.2.2.2.2.s2 HL.out.2.2.1 HM.out.2.2.1 (by omega)).mono ?_
          rintro e v56 ⟨rfl, hb⟩
          have G47 := (G46.step hb)
          clear r_q1_0 r_q2_0 G46 hb
          have r_q1_0 := G47.has.2.2.2.2.2.2.2.2.2.2.q1.cell 0
          have r_q2_0 := G47.has.2.2.2.2.2.2.2.2.2.2.q2.cell 0
          go_wp2_with fail
          refine (same_c B1 B2 k1 k2 d1 d2 L M _ _ HW.out.2 G47.has.2.2.2.2.2.2.2.2.2.2.s1 G47.has.2.2.2.2.2.2.2.2.2.2.s2 HL.out.2.2.1 HM.out.2.2.1 (by omega)).mono ?_
          rintro e v57 ⟨rfl, hb⟩
          have G48 := (G47.step hb)
          clear r_q1_0 r_q2_0 G47 hb
          have r_q1_0 := G48.has.2.2.2.2.2.2.2.2.2.2.q1.cell 0
          go_wp2_with fail
          refine (SoI.list_any B1 k1 d1 L _ G48.has.2.2.2.2.2.2.2.2.2.2.s1 (by omega)).mono ?_
          rintro e v58 ⟨Eua, eua, rfl, how, hb⟩
          have G49 := ((G48.step hb).sl (how.sl (by omega)))
          clear how r_q1_0 G48 hb
          go_wp2_with fail
          refine (ints_b _ _ _ _ _ _ L _ G49.has.1 G49.has.2.2.2.2.2.2.2.2.2.2.2.p).mono ?_
          rintro e v59 ⟨rfl, hb⟩
          have G50 := (G49.step hb)
          clear G49 hb
          have G51 := G50.drop0
          clear G50
          have r_q2_0 := G51.has.2.2.2.2.2.2.2.2.2.2.q2.cell 0
          go_wp2_with fail
          refine (SoI.list_any B2 k2 d2 M _ G51.has.2.2.2.2.2.2.2.2.2.2.s2 (by omega)).mono ?_
          rintro e v60 ⟨Eva, eva, rfl, how, hb⟩
          have G52 := ((G51.step hb).sl (how.sl (by omega)))
          clear how r_q2_0 G51 hb
          go_wp2_with fail
          refine (ints_b _ _ _ _ _ _ M _ G52.has.1 G52.has.2.2.2.2.2.2.2.2.2.2.2.q).mono ?_
          rintro e v61 ⟨rfl, hb⟩
          have G53 := (G52.step hb)
          clear G52 hb
          have G54 := G53.drop0
          clear G53
          have Gk := G54
          have K0 := Held.init v61
          have r_bw1_0 := G54.has.2.2.2.2.2.2.2.2.1.cell 0
          go_wp2_with fail
          refine (SoI.list_any D1 m1 f1 _ _ G54.has.2.2.2.2.2.2.2.2.2.1 (by omega)).mono ?_
          rintro e v62 ⟨S0, c0', rfl, how, hb⟩
          have lt0 := own_lt how
          have z0 := hb.size
          have K1 := K0.step hb
          have G55 := ((G54.step hb).own (how.mono (Nat.le_succ _)))
          clear how K0 r_bw1_0 G54 hb
          have r_bw3_0 := G55.has.2.2.2.2.2.1.cell 0
          go_wp2_with fail
          refine (SoI.list_any D3 m3 f3 _ _ G55.has.2.2.2.2.2.2.1 (by omega)).mono ?_
          rintro e v63 ⟨S1, c1', rfl, how, hb⟩
          have lt1 := own_lt how
          have z1 := hb.size
          have K2 := K1.step hb
          have G56 := ((G55.step hb).own (how.mono (Nat.le_succ _)))
          clear how K1 r_bw3_0 G55 hb
          have r_bw4_0 := G56.has.2.2.2.2.1.cell 0
          go_wp2_with fail
          refine (SoI.list_any D4 m4 f4 _ _ G56.has.2.2.2.2.2.1 (by omega)).mono ?_
          rintro e v64 ⟨S2, c2', rfl, how, hb⟩
          have lt2 := own_lt how
          have z2 := hb.size
          have K3 := K2.step hb
          have G57 := ((G56.step hb).own (how.mono (Nat.le_succ _)))
          clear how K2 r_bw4_0 G56 hb
          have r_bw5_0 := G57.has.2.2.2.1.cell 0
          go_wp2_with fail
          refine (SoI.list_any D5 m5 f5 _ _ G57.has.2.2.2.2.1 (by omega)).mono ?_
          rintro e v65 ⟨S3, c3', rfl, how, hb⟩
          have lt3 := own_lt how
          have z3 := hb.size
          have K4 := K3.step hb
          have G58 := ((G57.step hb).own (how.mono (Nat.le_succ _)))
          clear how K3 r_bw5_0 G57 hb
          have r_bw2_0 := G58.has.2.2.2.2.2.2.2.2.2.2.1.cell 0
          go_wp2_with fail
          refine (SoI.list_any D2 m2 f2 _ _ G58.has.2.2.2.2.2.2.2.2.2.2.2.1 (by omega)).mono ?_
          rintro e v66 ⟨S4, c4', rfl, how, hb⟩
          have lt4 := own_lt how
          have z4 := hb.size
          have K5 := K4.step hb
          have G59 := ((G58.step hb).own (how.mono (Nat.le_succ _)))
          clear how K4 r_bw2_0 G58 hb
          have o0 := G59.has.2.2.2.2.1
          have o1 := G59.has.2.2.2.1
          have o2 := G59.has.2.2.1
          have o3 := G59.has.2.1
          have o4 := G59.has.1
          clear G59
          have KB := K5.bel
          clear K5
          have zk := KB.size
          have hB : v61.heap.size ≤ v66.heap.size := by omega
          go_wp2_with fail
          refine (spoilt_any v61.heap.size S0 m1 c0' (ins cmpI x L) (-2) _ o0 (by omega) hB).mono ?_
          rintro e u0 ⟨rfl, hg⟩
          have zg := hg.size
          have KB := KB.trans (grown_below_opt hg (fun g e => by have := (World.ownsRow.lt o0 g e).1; omega) zk)
          have o1 := kept_apart o1 hg (fun g e => by have := lt0 g e; omega)
          have o2 := kept_apart o2 hg (fun g e => by have := lt0 g e; omega)
          have o3 := kept_apart o3 hg (fun g e => by have := lt0 g e; omega)
          have o4 := kept_apart o4 hg (fun g e => by have := lt0 g e; omega)
          clear hg o0 hB
          have zk := KB.size
          have hB : v62.heap.size ≤ u0.heap.size := by omega
          go_wp2_with fail
          refine (spoilt_any v62.heap.size S1 m3 c1' (puts L M k2) (-3) _ o1 (by omega) hB).mono ?_
          rintro e u1 ⟨rfl, hg⟩
          have zg := hg.size
          have KB := KB.trans (grown_below_opt hg (fun g e => by have := (World.ownsRow.lt o1 g e).1; omega) zk)
          have o2 := kept_apart o2 hg (fun g e => by have := lt1 g e; omega)
          have o3 := kept_apart o3 hg (fun g e => by have := lt1 g e; omega)
          have o4 := kept_apart o4 hg (fun g e => by have := lt1 g e; omega)
          clear hg o1 hB
          have zk := KB.size
          have hB : v63.heap.size ≤ u1.heap.size := by omega
          go_wp2_with fail
          refine (spoilt_any v63.heap.size S2 m4 c2' (someOf M true L) (-4) _ o2 (by omega) hB).mono ?_
          rintro e u2 ⟨rfl, hg⟩
          have zg := hg.size
          have KB := KB.trans (grown_below_opt hg (fun g e => by have := (World.ownsRow.lt o2 g e).1; omega) zk)
          have o3 := kept_apart o3 hg (fun g e => by have := lt2 g e; omega)
          have o4 := kept_apart o4 hg (fun g e => by have := lt2 g e; omega)
          clear hg o2 hB
          have zk := KB.size
          have hB : v64.heap.size ≤ u2.heap.size := by omega
          go_wp2_with fail
          refine (spoilt_any v64.heap.size S3 m5 c3' (someOf M false L) (-6) _ o3 (by omega) hB).mono ?_
          rintro e u3 ⟨rfl, hg⟩
          have zg := hg.size
          have KB := KB.trans (grown_below_opt hg (fun g e => by have := (World.ownsRow.lt o3 g e).1; omega) zk)
          have o4 := kept_apart o4 hg (fun g e => by have := lt3 g e; omega)
          clear hg o3 hB
          have zk := KB.size
          have hB : v65.heap.size ≤ u3.heap.size := by omega
          go_wp2_with fail
          refine (spoilt_any v65.heap.size S4 m2 c4' (rem cmpI x L) (-7) _ o4 (by omega) hB).mono ?_
          rintro e u4 ⟨rfl, hg⟩
          have zg := hg.size
          have KB := KB.trans (grown_below_opt hg (fun g e => by have := (World.ownsRow.lt o4 g e).1; omega) zk)
          clear hg o4 hB
          have GZ := Gk.step KB
          clear KB Gk zk
          have r_bw1_0 := GZ.has.2.2.2.2.2.2.2.2.1.cell 0
          go_wp2_with fail
          refine (SoI.list_any D1 m1 f1 _ _ GZ.has.2.2.2.2.2.2.2.2.2.1 (by omega)).mono ?_
          rintro e v67 ⟨ED11, eD11, rfl, how, hb⟩
          have G60 := ((GZ.step hb).sl (how.sl (by omega)))
          clear how r_bw1_0 GZ hb
          go_wp2_with fail
          refine (rwith_sl P k1 cp L x _ G60.has.2.2.2.2.2.2.2.2.2.2.2.p (by omega)).mono ?_
          rintro e v68 ⟨Ra1, ra1, ca1, rfl, hs, hb⟩
          have G61 := ((G60.step hb).sl (hs))
          clear hs G60 hb
          go_wp2_with fail
          refine (ints_b _ _ _ _ _ _ (ins cmpI x L) _ G61.has.2.1 G61.has.1).mono ?_
          rintro e v69 ⟨rfl, hb⟩
          have G62 := (G61.step hb)
          clear G61 hb
          have G63 := G62.drop1.drop0
          clear G62
          have r_bw2_0 := G63.has.2.2.2.2.2.2.1.cell 0
          go_wp2_with fail
          refine (SoI.list_any D2 m2 f2 _ _ G63.has.2.2.2.2.2.2.2.1 (by omega)).mono ?_
          rintro e v70 ⟨ED21, eD21, rfl, how, hb⟩
          have G64 := ((G63.step hb).sl (how.sl (by omega)))
          clear how r_bw2_0 G63 hb
          go_wp2_with fail
          refine (rwith_sl none 0 0 [] x _ (Sl.nil _ _ _) (by omega)).mono ?_
          rintro e v71 ⟨Rb1, rb1, cb1, rfl, hs, hb⟩
          have G65 := ((G64.step hb).sl (hs))
          clear hs G64 hb
          go_wp2_with fail
          refine (rsome_any P Rb1 k1 cp rb1 cb1 L (ins cmpI x []) false _ G65.has.2.2.2.2.2.2.2.2.2.2.2.2.p G65.has.1 (by omega)).mono ?_
          rintro e v72 ⟨Rc1, rc1, cc1, rfl, hs, hb⟩
          rw [some_rem] at hs
          have G66 := ((G65.step hb).sl (hs))
          clear hs G65 hb
          go_wp2_with fail
          refine (ints_b _ _ _ _ _ _ (rem cmpI x L) _ G66.has.2.2.1 G66.has.1).mono ?_
          rintro e v73 ⟨rfl, hb⟩
          have G67 := (G66.step hb)
          clear G66 hb
          have G68 := G67.drop2.drop0.drop0
          clear G67
          have r_bw3_0 := G68.has.2.2.2.2.1.cell 0
          go_wp2_with fail
          refine (SoI.list_any D3 m3 f3 _ _ G68.has.2.2.2.2.2.1 (by omega)).mono ?_
          rintro e v74 ⟨ED31, eD31, rfl, how, hb⟩
          have G69 := ((G68.step hb).sl (how.sl (by omega)))
          clear how r_bw3_0 G68 hb
          go_wp2_with fail
          refine (rjoin_any P Q k1 cp k2 cq L M _ G69.has.2.2.2.2.2.2.2.2.2.2.2.p G69.has.2.2.2.2.2.2.2.2.2.2.2.q HL.out.2.2.1 (by omega)).mono ?_
          rintro e v75 ⟨Rd1, rd1, cd1, rfl, hs, hb⟩
          have G70 := ((G69.step hb).sl (hs))
          clear hs G69 hb
          go_wp2_with fail
          refine (ints_b _ _ _ _ _ _ (puts L M k2) _ G70.has.2.1 G70.has.1).mono ?_
          rintro e v76 ⟨rfl, hb⟩
          have G71 := (G70.step hb)
          clear G70 hb
          have G72 := G71.drop1.drop0
          clear G71
          have r_bw4_0 := G72.has.2.2.1.cell 0
          go_wp2_with fail
          refine (SoI.list_any D4 m4 f4 _ _ G72.has.2.2.2.1 (by omega)).mono ?_
          rintro e v77 ⟨ED41, eD41, rfl, how, hb⟩
          have G73 := ((G72.step hb).sl (how.sl (by omega)))
          clear how r_bw4_0 G72 hb
          go_wp2_with fail
          refine (rsome_any P Q k1 cp k2 cq L M true _ G73.has.2.2.2.2.2.2.2.2.2.2.2.p G73.has.2.2.2.2.2.2.2.2.2.2.2.q (by omega)).mono ?_
          rintro e v78 ⟨Re1, re1, ce1, rfl, hs, hb⟩
          have G74 := ((G73.step hb).sl (hs))
          clear hs G73 hb
          go_wp2_with fail
          refine (ints_b _ _ _ _ _ _ (someOf M true L) _ G74.has.2.1 G74.has.1).mono ?_
          rintro e v79 ⟨rfl, hb⟩
          have G75 := (G74.step hb)
          clear G74 hb
          have G76 := G75.drop1.drop0
          clear G75
          have r_bw5_0 := G76.has.1.cell 0
          go_wp2_with fail
          refine (SoI.list_any D5 m5 f5 _ _ G76.has.2.1 (by omega)).mono ?_
          rintro e v80 ⟨ED51, eD51, rfl, how, hb⟩
          have G77 := ((G76.step hb).sl (how.sl (by omega)))
          clear how r_bw5_0 G76 hb
          go_wp2_with fail
          refine (rsome_any P Q k1 cp k2 cq L M false _ G77.has.2.2.2.2.2.2.2.2.2.2.2.p G77.has.2.2.2.2.2.2.2.2.2.2.2.q (by omega)).mono ?_
          rintro e v81 ⟨Rf1, rf1, cf1, rfl, hs, hb⟩
          have G78 := ((G77.step hb).sl (hs))
          clear hs G77 hb
          go_wp2_with fail
          refine (ints_b _ _ _ _ _ _ (someOf M false L) _ G78.has.2.1 G78.has.1).mono ?_
          rintro e v82 ⟨rfl, hb⟩
          have G79 := (G78.step hb)
          clear G78 hb
          have G80 := G79.drop1.drop0
          clear G79
          have r_q1_0 := G80.has.2.2.2.2.2.2.2.2.2.2.q1.cell 0
          go_wp2_with fail
          refine (SoI.list_any B1 k1 d1 L _ G80.has.2.2.2.2.2.2.2.2.2.2.s1 (by omega)).mono ?_
          rintro e v83 ⟨Eub, eub, rfl, how, hb⟩
          have G81 := ((G80.step hb).sl (how.sl (by omega)))
          clear how r_q1_0 G80 hb
          go_wp2_with fail
          refine (ints_b _ _ _ _ _ _ L _ G81.has.1 G81.has.2.2.2.2.2.2.2.2.2.2.2.p).mono ?_
          rintro e v84 ⟨rfl, hb⟩
          have G82 := (G81.step hb)
          clear G81 hb
          have G83 := G82.drop0
          clear G82
          have r_q2_0 := G83.has.2.2.2.2.2.2.2.2.2.2.q2.cell 0
          go_wp2_with fail
          refine (SoI.list_any B2 k2 d2 M _ G83.has.2.2.2.2.2.2.2.2.2.2.s2 (by omega)).mono ?_
          rintro e v85 ⟨Evb, evb, rfl, how, hb⟩
          have G84 := ((G83.step hb).sl (how.sl (by omega)))
          clear how r_q2_0 G83 hb
          go_wp2_with fail
          refine (ints_b _ _ _ _ _ _ M _ G84.has.1 G84.has.2.2.2.2.2.2.2.2.2.2.2.q).mono ?_
          rintro e v86 ⟨rfl, hb⟩
          have G85 := (G84.step hb)
          clear G84 hb
          have G86 := G85.drop0
          clear G85
          go_wp2_with fail
          go_ret
          exact ⟨rfl, G86.bel⟩
        · have r_q1_0 := G46.has.2.2.2.2.2.2.2.2.2.2.q1.cell 0
          have r_q2_0 := G46.has.2.2.2.2.2.2.2.2.2.2.q2.cell 0
          go_wp2_with fail
          refine (within_c B1 B2 k1 k2 d1 d2 L M _ _ HW.out.1 G46.has.2.2.2.2.2.2.2.2.2.2.s1 G46.has.2.2.2.2.2.2.2.2.2.2.s2 HL.out.2.2.1 HM.out.2.2.1 (by omega)).mono ?_
          rintro e v87 ⟨rfl, hb⟩
          have G87 := (G46.step hb)
          clear r_q1_0 r_q2_0 G46 hb
          have r_q1_0 := G87.has.2.2.2.2.2.2.2.2.2.2.q1.cell 0
          have r_q2_0 := G87.has.2.2.2.2.2.2.2.2.2.2.q2.cell 0
          go_wp2_with fail
          refine (same_c B1 B2 k1 k2 d1 d2 L M _ _ HW.out.2 G87.has.2.2.2.2.2.2.2.2.2.2.s1 G87.has.2.2.2.2.2.2.2.2.2.2.s2 HL.out.2.2.1 HM.out.2.2.1 (by omega)).mono ?_
          rintro e v88 ⟨rfl, hb⟩
          have G88 := (G87.step hb)
          clear r_q1_0 r_q2_0 G87 hb
          have r_q1_0 := G88.has.2.2.2.2.2.2.2.2.2.2.q1.cell 0
          go_wp2_with fail
          refine (SoI.list_any B1 k1 d1 L _ G88.has.2.2.2.2.2.2.2.2.2.2.s1 (by omega)).mono ?_
          rintro e v89 ⟨Eua, eua, rfl, how, hb⟩
          have G89 := ((G88.step hb).sl (how.sl (by omega)))
          clear how r_q1_0 G88 hb
          go_wp2_with fail
          refine (ints_b _ _ _ _ _ _ L _ G89.has.1 G89.has.2.2.2.2.2.2.2.2.2.2.2.p).mono ?_
          rintro e v90 ⟨rfl, hb⟩
          have G90 := (G89.step hb)
          clear G89 hb
          have G91 := G90.drop0
          clear G90
          have r_q2_0 := G91.has.2.2.2.2.2.2.2.2.2.2.q2.cell 0
          go_wp2_with fail
          refine (SoI.list_any B2 k2 d2 M _ G91.has.2.2.2.2.2.2.2.2.2.2.s2 (by omega)).mono ?_
          rintro e v91 ⟨Eva, eva, rfl, how, hb⟩
          have G92 := ((G91.step hb).sl (how.sl (by omega)))
          clear how r_q2_0 G91 hb
          go_wp2_with fail
          refine (ints_b _ _ _ _ _ _ M _ G92.has.1 G92.has.2.2.2.2.2.2.2.2.2.2.2.q).mono ?_
          rintro e v92 ⟨rfl, hb⟩
          have G93 := (G92.step hb)
          clear G92 hb
          have G94 := G93.drop0
          clear G93
          have Gk := G94
          have K0 := Held.init v92
          have r_bw1_0 := G94.has.2.2.2.2.2.2.2.2.1.cell 0
          go_wp2_with fail
          refine (SoI.list_any D1 m1 f1 _ _ G94.has.2.2.2.2.2.2.2.2.2.1 (by omega)).mono ?_
          rintro e v93 ⟨S0, c0', rfl, how, hb⟩
          have lt0 := own_lt how
          have z0 := hb.size
          have K1 := K0.step hb
          have G95 := ((G94.step hb).own (how.mono (Nat.le_succ _)))
          clear how K0 r_bw1_0 G94 hb
          have r_bw3_0 := G95.has.2.2.2.2.2.1.cell 0
          go_wp2_with fail
          refine (SoI.list_any D3 m3 f3 _ _ G95.has.2.2.2.2.2.2.1 (by omega)).mono ?_
          rintro e v94 ⟨S1, c1', rfl, how, hb⟩
          have lt1 := own_lt how
          have z1 := hb.size
          have K2 := K1.step hb
          have G96 := ((G95.step hb).own (how.mono (Nat.le_succ _)))
          clear how K1 r_bw3_0 G95 hb
          have r_bw4_0 := G96.has.2.2.2.2.1.cell 0
          go_wp2_with fail
          refine (SoI.list_any D4 m4 f4 _ _ G96.has.2.2.2.2.2.1 (by omega)).mono ?_
          rintro e v95 ⟨S2, c2', rfl, how, hb⟩
          have lt2 := own_lt how
          have z2 := hb.size
          have K3 := K2.step hb
          have G97 := ((G96.step hb).own (how.mono (Nat.le_succ _)))
          clear how K2 r_bw4_0 G96 hb
          have r_bw5_0 := G97.has.2.2.2.1.cell 0
          go_wp2_with fail
          refine (SoI.list_any D5 m5 f5 _ _ G97.has.2.2.2.2.1 (by omega)).mono ?_
          rintro e v96 ⟨S3, c3', rfl, how, hb⟩
          have lt3 := own_lt how
          have z3 := hb.size
          have K4 := K3.step hb
          have G98 := ((G97.step hb).own (how.mono (Nat.le_succ _)))
          clear how K3 r_bw5_0 G97 hb
          have r_bw2_0 := G98.has.2.2.2.2.2.2.2.2.2.2.1.cell 0
          go_wp2_with fail
          refine (SoI.list_any D2 m2 f2 _ _ G98.has.2.2.2.2.2.2.2.2.2.2.2.1 (by omega)).mono ?_
          rintro e v97 ⟨S4, c4', rfl, how, hb⟩
          have lt4 := own_lt how
          have z4 := hb.size
          have K5 := K4.step hb
          have G99 := ((G98.step hb).own (how.mono (Nat.le_succ _)))
          clear how K4 r_bw2_0 G98 hb
          have o0 := G99.has.2.2.2.2.1
          have o1 := G99.has.2.2.2.1
          have o2 := G99.has.2.2.1
          have o3 := G99.has.2.1
          have o4 := G99.has.1
          clear G99
          have KB := K5.bel
          clear K5
          have zk := KB.size
          have hB : v92.heap.size ≤ v97.heap.size := by omega
          go_wp2_with fail
          refine (spoilt_any v92.heap.size S0 m1 c0' (ins cmpI x L) (-2) _ o0 (by omega) hB).mono ?_
          rintro e u0 ⟨rfl, hg⟩
          have zg := hg.size
          have KB := KB.trans (grown_below_opt hg (fun g e => by have := (World.ownsRow.lt o0 g e).1; omega) zk)
          have o1 := kept_apart o1 hg (fun g e => by have := lt0 g e; omega)
          have o2 := kept_apart o2 hg (fun g e => by have := lt0 g e; omega)
          have o3 := kept_apart o3 hg (fun g e => by have := lt0 g e; omega)
          have o4 := kept_apart o4 hg (fun g e => by have := lt0 g e; omega)
          clear hg o0 hB
          have zk := KB.size
          have hB : v93.heap.size ≤ u0.heap.size := by omega
          go_wp2_with fail
          refine (spoilt_any v93.heap.size S1 m3 c1' (puts L M k2) (-3) _ o1 (by omega) hB).mono ?_
          rintro e u1 ⟨rfl, hg⟩
          have zg := hg.size
          have KB := KB.trans (grown_below_opt hg (fun g e => by have := (World.ownsRow.lt o1 g e).1; omega) zk)
          have o2 := kept_apart o2 hg (fun g e => by have := lt1 g e; omega)
          have o3 := kept_apart o3 hg (fun g e => by have := lt1 g e; omega)
          have o4 := kept_apart o4 hg (fun g e => by have := lt1 g e; omega)
          clear hg o1 hB
          have zk := KB.size
          have hB : v94.heap.size ≤ u1.heap.size := by omega
          go_wp2_with fail
          refine (spoilt_any v94.heap.size S2 m4 c2' (someOf M true L) (-4) _ o2 (by omega) hB).mono ?_
          rintro e u2 ⟨rfl, hg⟩
          have zg := hg.size
          have KB := KB.trans (grown_below_opt hg (fun g e => by have := (World.ownsRow.lt o2 g e).1; omega) zk)
          have o3 := kept_apart o3 hg (fun g e => by have := lt2 g e; omega)
          have o4 := kept_apart o4 hg (fun g e => by have := lt2 g e; omega)
          clear hg o2 hB
          have zk := KB.size
          have hB : v95.heap.size ≤ u2.heap.size := by omega
          go_wp2_with fail
          refine (spoilt_any v95.heap.size S3 m5 c3' (someOf M false L) (-6) _ o3 (by omega) hB).mono ?_
          rintro e u3 ⟨rfl, hg⟩
          have zg := hg.size
          have KB := KB.trans (grown_below_opt hg (fun g e => by have := (World.ownsRow.lt o3 g e).1; omega) zk)
          have o4 := kept_apart o4 hg (fun g e => by have := lt3 g e; omega)
          clear hg o3 hB
          have zk := KB.size
          have hB : v96.heap.size ≤ u3.heap.size := by omega
          go_wp2_with fail
          refine (spoilt_any v96.heap.size S4 m2 c4' (rem cmpI x L) (-7) _ o4 (by omega) hB).mono ?_
          rintro e u4 ⟨rfl, hg⟩
          have zg := hg.size
          have KB := KB.trans (grown_below_opt hg (fun g e => by have := (World.ownsRow.lt o4 g e).1; omega) zk)
          clear hg o4 hB
          have GZ := Gk.step KB
          clear KB Gk zk
          have r_bw1_0 := GZ.has.2.2.2.2.2.2.2.2.1.cell 0
          go_wp2_with fail
          refine (SoI.list_any D1 m1 f1 _ _ GZ.has.2.2.2.2.2.2.2.2.2.1 (by omega)).mono ?_
          rintro e v98 ⟨ED12, eD12, rfl, how, hb⟩
          have G100 := ((GZ.step hb).sl (how.sl (by omega)))
          clear how r_bw1_0 GZ hb
          go_wp2_with fail
          refine (rwith_sl P k1 cp L x _ G100.has.2.2.2.2.2.2.2.2.2.2.2.p (by omega)).mono ?_
          rintro e v99 ⟨Ra2, ra2, ca2, rfl, hs, hb⟩
          have G101 := ((G100.step hb).sl (hs))
          clear hs G100 hb
          go_wp2_with fail
          refine (ints_b _ _ _ _ _ _ (ins cmpI x L) _ G101.has.2.1 G101.has.1).mono ?_
          rintro e v100 ⟨rfl, hb⟩
          have G102 := (G101.step hb)
          clear G101 hb
          have G103 := G102.drop1.drop0
          clear G102
          have r_bw2_0 := G103.has.2.2.2.2.2.2.1.cell 0
          go_wp2_with fail
          refine (SoI.list_any D2 m2 f2 _ _ G103.has.2.2.2.2.2.2.2.1 (by omega)).mono ?_
          rintro e v101 ⟨ED22, eD22, rfl, how, hb⟩
          have G104 := ((G103.step hb).sl (how.sl (by omega)))
          clear how r_bw2_0 G103 hb
          go_wp2_with fail
          refine (rwith_sl none 0 0 [] x _ (Sl.nil _ _ _) (by omega)).mono ?_
          rintro e v102 ⟨Rb2, rb2, cb2, rfl, hs, hb⟩
          have G105 := ((G104.step hb).sl (hs))
          clear hs G104 hb
          go_wp2_with fail
          refine (rsome_any P Rb2 k1 cp rb2 cb2 L (ins cmpI x []) false _ G105.has.2.2.2.2.2.2.2.2.2.2.2.2.p G105.has.1 (by omega)).mono ?_
          rintro e v103 ⟨Rc2, rc2, cc2, rfl, hs, hb⟩
          rw [some_rem] at hs
          have G106 := ((G105.step hb).sl (hs))
          clear hs G105 hb
          go_wp2_with fail
          refine (ints_b _ _ _ _ _ _ (rem cmpI x L) _ G106.has.2.2.1 G106.has.1).mono ?_
          rintro e v104 ⟨rfl, hb⟩
          have G107 := (G106.step hb)
          clear G106 hb
          have G108 := G107.drop2.drop0.drop0
          clear G107
          have r_bw3_0 := G108.has.2.2.2.2.1.cell 0
          go_wp2_with fail
          refine (SoI.list_any D3 m3 f3 _ _ G108.has.2.2.2.2.2.1 (by omega)).mono ?_
          rintro e v105 ⟨ED32, eD32, rfl, how, hb⟩
          have G109 := ((G108.step hb).sl (how.sl (by omega)))
          clear how r_bw3_0 G108 hb
          go_wp2_with fail
          refine (rjoin_any P Q k1 cp k2 cq L M _ G109.has.2.2.2.2.2.2.2.2.2.2.2.p G109.has.2.2.2.2.2.2.2.2.2.2.2.q HL.out.2.2.1 (by omega)).mono ?_
          rintro e v106 ⟨Rd2, rd2, cd2, rfl, hs, hb⟩
          have G110 := ((G109.step hb).sl (hs))
          clear hs G109 hb
          go_wp2_with fail
          refine (ints_b _ _ _ _ _ _ (puts L M k2) _ G110.has.2.1 G110.has.1).mono ?_
          rintro e v107 ⟨rfl, hb⟩
          have G111 := (G110.step hb)
          clear G110 hb
          have G112 := G111.drop1.drop0
          clear G111
          have r_bw4_0 := G112.has.2.2.1.cell 0
          go_wp2_with fail
          refine (SoI.list_any D4 m4 f4 _ _ G112.has.2.2.2.1 (by omega)).mono ?_
          rintro e v108 ⟨ED42, eD42, rfl, how, hb⟩
          have G113 := ((G112.step hb).sl (how.sl (by omega)))
          clear how r_bw4_0 G112 hb
          go_wp2_with fail
          refine (rsome_any P Q k1 cp k2 cq L M true _ G113.has.2.2.2.2.2.2.2.2.2.2.2.p G113.has.2.2.2.2.2.2.2.2.2.2.2.q (by omega)).mono ?_
          rintro e v109 ⟨Re2, re2, ce2, rfl, hs, hb⟩
          have G114 := ((G113.step hb).sl (hs))
          clear hs G113 hb
          go_wp2_with fail
          refine (ints_b _ _ _ _ _ _ (someOf M true L) _ G114.has.2.1 G114.has.1).mono ?_
          rintro e v110 ⟨rfl, hb⟩
          have G115 := (G114.step hb)
          clear G114 hb
          have G116 := G115.drop1.drop0
          clear G115
          have r_bw5_0 := G116.has.1.cell 0
          go_wp2_with fail
          refine (SoI.list_any D5 m5 f5 _ _ G116.has.2.1 (by omega)).mono ?_
          rintro e v111 ⟨ED52, eD52, rfl, how, hb⟩
          have G117 := ((G116.step hb).sl (how.sl (by omega)))
          clear how r_bw5_0 G116 hb
          go_wp2_with fail
          refine (rsome_any P Q k1 cp k2 cq L M false _ G117.has.2.2.2.2.2.2.2.2.2.2.2.p G117.has.2.2.2.2.2.2.2.2.2.2.2.q (by omega)).mono ?_
          rintro e v112 ⟨Rf2, rf2, cf2, rfl, hs, hb⟩
          have G118 := ((G117.step hb).sl (hs))
          clear hs G117 hb
          go_wp2_with fail
          refine (ints_b _ _ _ _ _ _ (someOf M false L) _ G118.has.2.1 G118.has.1).mono ?_
          rintro e v113 ⟨rfl, hb⟩
          have G119 := (G118.step hb)
          clear G118 hb
          have G120 := G119.drop1.drop0
          clear G119
          have r_q1_0 := G120.has.2.2.2.2.2.2.2.2.2.2.q1.cell 0
          go_wp2_with fail
          refine (SoI.list_any B1 k1 d1 L _ G120.has.2.2.2.2.2.2.2.2.2.2.s1 (by omega)).mono ?_
          rintro e v114 ⟨Eub, eub, rfl, how, hb⟩
          have G121 := ((G120.step hb).sl (how.sl (by omega)))
          clear how r_q1_0 G120 hb
          go_wp2_with fail
          refine (ints_b _ _ _ _ _ _ L _ G121.has.1 G121.has.2.2.2.2.2.2.2.2.2.2.2.p).mono ?_
          rintro e v115 ⟨rfl, hb⟩
          have G122 := (G121.step hb)
          clear G121 hb
          have G123 := G122.drop0
          clear G122
          have r_q2_0 := G123.has.2.2.2.2.2.2.2.2.2.2.q2.cell 0
          go_wp2_with fail
          refine (SoI.list_any B2 k2 d2 M _ G123.has.2.2.2.2.2.2.2.2.2.2.s2 (by omega)).mono ?_
          rintro e v116 ⟨Evb, evb, rfl, how, hb⟩
          have G124 := ((G123.step hb).sl (how.sl (by omega)))
          clear how r_q2_0 G123 hb
          go_wp2_with fail
          refine (ints_b _ _ _ _ _ _ M _ G124.has.1 G124.has.2.2.2.2.2.2.2.2.2.2.2.q).mono ?_
          rintro e v117 ⟨rfl, hb⟩
          have G125 := (G124.step hb)
          clear G124 hb
          have G126 := G125.drop0
          clear G125
          go_wp2_with fail
          go_ret
          exact ⟨rfl, G126.bel⟩
      · have HW := Lib.hid (And.intro HW1.out (show SoI.sameB L M = false by unfold SoI.sameB; rw [HW1.out, Bool.false_and])); clear HW1
        have r_q1_0 := G45.has.2.2.2.2.2.2.2.2.2.2.q1.cell 0
        have r_q2_0 := G45.has.2.2.2.2.2.2.2.2.2.2.q2.cell 0
        go_wp2_with fail
        refine (within_c B1 B2 k1 k2 d1 d2 L M _ _ HW.out.1 G45.has.2.2.2.2.2.2.2.2.2.2.s1 G45.has.2.2.2.2.2.2.2.2.2.2.s2 HL.out.2.2.1 HM.out.2.2.1 (by omega)).mono ?_
        rintro e v118 ⟨rfl, hb⟩
        have G127 := (G45.step hb)
        clear r_q1_0 r_q2_0 G45 hb
        have r_q1_0 := G127.has.2.2.2.2.2.2.2.2.2.2.q1.cell 0
        have r_q2_0 := G127.has.2.2.2.2.2.2.2.2.2.2.q2.cell 0
        go_wp2_with fail
        refine (same_c B1 B2 k1 k2 d1 d2 L M _ _ HW.out.2 G127.has.2.2.2.2.2.2.2.2.2.2.s1 G127.has.2.2.2.2.2.2.2.2.2.2.s2 HL.out.2.2.1 HM.out.2.2.1 (by omega)).mono ?_
        rintro e v119 ⟨rfl, hb⟩
        have G128 := (G127.step hb)
        clear r_q1_0 r_q2_0 G127 hb
        have r_q1_0 := G128.has.2.2.2.2.2.2.2.2.2.2.q1.cell 0
        go_wp2_with fail
        refine (SoI.list_any B1 k1 d1 L _ G128.has.2.2.2.2.2.2.2.2.2.2.s1 (by omega)).mono ?_
        rintro e v120 ⟨Eua, eua, rfl, how, hb⟩
        have G129 := ((G128.step hb).sl (how.sl (by omega)))
        clear how r_q1_0 G128 hb
        go_wp2_with fail
        refine (ints_b _ _ _ _ _ _ L _ G129.has.1 G129.has.2.2.2.2.2.2.2.2.2.2.2.p).mono ?_
        rintro e v121 ⟨rfl, hb⟩
        have G130 := (G129.step hb)
        clear G129 hb
        have G131 := G130.drop0
        clear G130
        have r_q2_0 := G131.has.2.2.2.2.2.2.2.2.2.2.q2.cell 0
        go_wp2_with fail
        refine (SoI.list_any B2 k2 d2 M _ G131.has.2.2.2.2.2.2.2.2.2.2.s2 (by omega)).mono ?_
        rintro e v122 ⟨Eva, eva, rfl, how, hb⟩
        have G132 := ((G131.step hb).sl (how.sl (by omega)))
        clear how r_q2_0 G131 hb
        go_wp2_with fail
        refine (ints_b _ _ _ _ _ _ M _ G132.has.1 G132.has.2.2.2.2.2.2.2.2.2.2.2.q).mono ?_
        rintro e v123 ⟨rfl, hb⟩
        have G133 := (G132.step hb)
        clear G132 hb
        have G134 := G133.drop0
        clear G133
        have Gk := G134
        have K0 := Held.init v123
        have r_bw1_0 := G134.has.2.2.2.2.2.2.2.2.1.cell 0
        go_wp2_with fail
        refine (SoI.list_any D1 m1 f1 _ _ G134.has.2.2.2.2.2.2.2.2.2.1 (by omega)).mono ?_
        rintro e v124 ⟨S0, c0', rfl, how, hb⟩
        have lt0 := own_lt how
        have z0 := hb.size
        have K1 := K0.step hb
        have G135 := ((G134.step hb).own (how.mono (Nat.le_succ _)))
        clear how K0 r_bw1_0 G134 hb
        have r_bw3_0 := G135.has.2.2.2.2.2.1.cell 0
        go_wp2_with fail
        refine (SoI.list_any D3 m3 f3 _ _ G135.has.2.2.2.2.2.2.1 (by omega)).mono ?_
        rintro e v125 ⟨S1, c1', rfl, how, hb⟩
        have lt1 := own_lt how
        have z1 := hb.size
        have K2 := K1.step hb
        have G136 := ((G135.step hb).own (how.mono (Nat.le_succ _)))
        clear how K1 r_bw3_0 G135 hb
        have r_bw4_0 := G136.has.2.2.2.2.1.cell 0
        go_wp2_with fail
        refine (SoI.list_any D4 m4 f4 _ _ G136.has.2.2.2.2.2.1 (by omega)).mono ?_
        rintro e v126 ⟨S2, c2', rfl, how, hb⟩
        have lt2 := own_lt how
        have z2 := hb.size
        have K3 := K2.step hb
        have G137 := ((G136.step hb).own (how.mono (Nat.le_succ _)))
        clear how K2 r_bw4_0 G136 hb
        have r_bw5_0 := G137.has.2.2.2.1.cell 0
        go_wp2_with fail
        refine (SoI.list_any D5 m5 f5 _ _ G137.has.2.2.2.2.1 (by omega)).mono ?_
        rintro e v127 ⟨S3, c3', rfl, how, hb⟩
        have lt3 := own_lt how
        have z3 := hb.size
        have K4 := K3.step hb
        have G138 := ((G137.step hb).own (how.mono (Nat.le_succ _)))
        clear how K3 r_bw5_0 G137 hb
        have r_bw2_0 := G138.has.2.2.2.2.2.2.2.2.2.2.1.cell 0
        go_wp2_with fail
        refine (SoI.list_any D2 m2 f2 _ _ G138.has.2.2.2.2.2.2.2.2.2.2.2.1 (by omega)).mono ?_
        rintro e v128 ⟨S4, c4', rfl, how, hb⟩
        have lt4 := own_lt how
        have z4 := hb.size
        have K5 := K4.step hb
        have G139 := ((G138.step hb).own (how.mono (Nat.le_succ _)))
        clear how K4 r_bw2_0 G138 hb
        have o0 := G139.has.2.2.2.2.1
        have o1 := G139.has.2.2.2.1
        have o2 := G139.has.2.2.1
        have o3 := G139.has.2.1
        have o4 := G139.has.1
        clear G139
        have KB := K5.bel
        clear K5
        have zk := KB.size
        have hB : v123.heap.size ≤ v128.heap.size := by omega
        go_wp2_with fail
        refine (spoilt_any v123.heap.size S0 m1 c0' (ins cmpI x L) (-2) _ o0 (by omega) hB).mono ?_
        rintro e u0 ⟨rfl, hg⟩
        have zg := hg.size
        have KB := KB.trans (grown_below_opt hg (fun g e => by have := (World.ownsRow.lt o0 g e).1; omega) zk)
        have o1 := kept_apart o1 hg (fun g e => by have := lt0 g e; omega)
        have o2 := kept_apart o2 hg (fun g e => by have := lt0 g e; omega)
        have o3 := kept_apart o3 hg (fun g e => by have := lt0 g e; omega)
        have o4 := kept_apart o4 hg (fun g e => by have := lt0 g e; omega)
        clear hg o0 hB
        have zk := KB.size
        have hB : v124.heap.size ≤ u0.heap.size := by omega
        go_wp2_with fail
        refine (spoilt_any v124.heap.size S1 m3 c1' (puts L M k2) (-3) _ o1 (by omega) hB).mono ?_
        rintro e u1 ⟨rfl, hg⟩
        have zg := hg.size
        have KB := KB.trans (grown_below_opt hg (fun g e => by have := (World.ownsRow.lt o1 g e).1; omega) zk)
        have o2 := kept_apart o2 hg (fun g e => by have := lt1 g e; omega)
        have o3 := kept_apart o3 hg (fun g e => by have := lt1 g e; omega)
        have o4 := kept_apart o4 hg (fun g e => by have := lt1 g e; omega)
        clear hg o1 hB
        have zk := KB.size
        have hB : v125.heap.size ≤ u1.heap.size := by omega
        go_wp2_with fail
        refine (spoilt_any v125.heap.size S2 m4 c2' (someOf M true L) (-4) _ o2 (by omega) hB).mono ?_
        rintro e u2 ⟨rfl, hg⟩
        have zg := hg.size
        have KB := KB.trans (grown_below_opt hg (fun g e => by have := (World.ownsRow.lt o2 g e).1; omega) zk)
        have o3 := kept_apart o3 hg (fun g e => by have := lt2 g e; omega)
        have o4 := kept_apart o4 hg (fun g e => by have := lt2 g e; omega)
        clear hg o2 hB
        have zk := KB.size
        have hB : v126.heap.size ≤ u2.heap.size := by omega
        go_wp2_with fail
        refine (spoilt_any v126.heap.size S3 m5 c3' (someOf M false L) (-6) _ o3 (by omega) hB).mono ?_
        rintro e u3 ⟨rfl, hg⟩
        have zg := hg.size
        have KB := KB.trans (grown_below_opt hg (fun g e => by have := (World.ownsRow.lt o3 g e).1; omega) zk)
        have o4 := kept_apart o4 hg (fun g e => by have := lt3 g e; omega)
        clear hg o3 hB
        have zk := KB.size
        have hB : v127.heap.size ≤ u3.heap.size := by omega
        go_wp2_with fail
        refine (spoilt_any v127.heap.size S4 m2 c4' (rem cmpI x L) (-7) _ o4 (by omega) hB).mono ?_
        rintro e u4 ⟨rfl, hg⟩
        have zg := hg.size
        have KB := KB.trans (grown_below_opt hg (fun g e => by have := (World.ownsRow.lt o4 g e).1; omega) zk)
        clear hg o4 hB
        have GZ := Gk.step KB
        clear KB Gk zk
        have r_bw1_0 := GZ.has.2.2.2.2.2.2.2.2.1.cell 0
        go_wp2_with fail
        refine (SoI.list_any D1 m1 f1 _ _ GZ.has.2.2.2.2.2.2.2.2.2.1 (by omega)).mono ?_
        rintro e v129 ⟨ED13, eD13, rfl, how, hb⟩
        have G140 := ((GZ.step hb).sl (how.sl (by omega)))
        clear how r_bw1_0 GZ hb
        go_wp2_with fail
        refine (rwith_sl P k1 cp L x _ G140.has.2.2.2.2.2.2.2.2.2.2.2.p (by omega)).mono ?_
        rintro e v130 ⟨Ra3, ra3, ca3, rfl, hs, hb⟩
        have G141 := ((G140.step hb).sl (hs))
        clear hs G140 hb
        go_wp2_with fail
        refine (ints_b _ _ _ _ _ _ (ins cmpI x L) _ G141.has.2.1 G141.has.1).mono ?_
        rintro e v131 ⟨rfl, hb⟩
        have G142 := (G141.step hb)
        clear G141 hb
        have G143 := G142.drop1.drop0
        clear G142
        have r_bw2_0 := G143.has.2.2.2.2.2.2.1.cell 0
        go_wp2_with fail
        refine (SoI.list_any D2 m2 f2 _ _ G143.has.2.2.2.2.2.2.2.1 (by omega)).mono ?_
        rintro e v132 ⟨ED23, eD23, rfl, how, hb⟩
        have G144 := ((G143.step hb).sl (how.sl (by omega)))
        clear how r_bw2_0 G143 hb
        go_wp2_with fail
        refine (rwith_sl none 0 0 [] x _ (Sl.nil _ _ _) (by omega)).mono ?_
        rintro e v133 ⟨Rb3, rb3, cb3, rfl, hs, hb⟩
        have G145 := ((G144.step hb).sl (hs))
        clear hs G144 hb
        go_wp2_with fail
        refine (rsome_any P Rb3 k1 cp rb3 cb3 L (ins cmpI x []) false _ G145.has.2.2.2.2.2.2.2.2.2.2.2.2.p G145.has.1 (by omega)).mono ?_
        rintro e v134 ⟨Rc3, rc3, cc3, rfl, hs, hb⟩
        rw [some_rem] at hs
        have G146 := ((G145.step hb).sl (hs))
        clear hs G145 hb
        go_wp2_with fail
        refine (ints_b _ _ _ _ _ _ (rem cmpI x L) _ G146.has.2.2.1 G146.has.1).mono ?_
        rintro e v135 ⟨rfl, hb⟩
        have G147 := (G146.step hb)
        clear G146 hb
        have G148 := G147.drop2.drop0.drop0
        clear G147
        have r_bw3_0 := G148.has.2.2.2.2.1.cell 0
        go_wp2_with fail
        refine (SoI.list_any D3 m3 f3 _ _ G148.has.2.2.2.2.2.1 (by omega)).mono ?_
        rintro e v136 ⟨ED33, eD33, rfl, how, hb⟩
        have G149 := ((G148.step hb).sl (how.sl (by omega)))
        clear how r_bw3_0 G148 hb
        go_wp2_with fail
        refine (rjoin_any P Q k1 cp k2 cq L M _ G149.has.2.2.2.2.2.2.2.2.2.2.2.p G149.has.2.2.2.2.2.2.2.2.2.2.2.q HL.out.2.2.1 (by omega)).mono ?_
        rintro e v137 ⟨Rd3, rd3, cd3, rfl, hs, hb⟩
        have G150 := ((G149.step hb).sl (hs))
        clear hs G149 hb
        go_wp2_with fail
        refine (ints_b _ _ _ _ _ _ (puts L M k2) _ G150.has.2.1 G150.has.1).mono ?_
        rintro e v138 ⟨rfl, hb⟩
        have G151 := (G150.step hb)
        clear G150 hb
        have G152 := G151.drop1.drop0
        clear G151
        have r_bw4_0 := G152.has.2.2.1.cell 0
        go_wp2_with fail
        refine (SoI.list_any D4 m4 f4 _ _ G152.has.2.2.2.1 (by omega)).mono ?_
        rintro e v139 ⟨ED43, eD43, rfl, how, hb⟩
        have G153 := ((G152.step hb).sl (how.sl (by omega)))
        clear how r_bw4_0 G152 hb
        go_wp2_with fail
        refine (rsome_any P Q k1 cp k2 cq L M true _ G153.has.2.2.2.2.2.2.2.2.2.2.2.p G153.has.2.2.2.2.2.2.2.2.2.2.2.q (by omega)).mono ?_
        rintro e v140 ⟨Re3, re3, ce3, rfl, hs, hb⟩
        have G154 := ((G153.step hb).sl (hs))
        clear hs G153 hb
        go_wp2_with fail
        refine (ints_b _ _ _ _ _ _ (someOf M true L) _ G154.has.2.1 G154.has.1).mono ?_
        rintro e v141 ⟨rfl, hb⟩
        have G155 := (G154.step hb)
        clear G154 hb
        have G156 := G155.drop1.drop0
        clear G155
        have r_bw5_0 := G156.has.1.cell 0
        go_wp2_with fail
        refine (SoI.list_any D5 m5 f5 _ _ G156.has.2.1 (by omega)).mono ?_
        rintro e v142 ⟨ED53, eD53, rfl, how, hb⟩
        have G157 := ((G156.step hb).sl (how.sl (by omega)))
        clear how r_bw5_0 G156 hb
        go_wp2_with fail
        refine (rsome_any P Q k1 cp k2 cq L M false _ G157.has.2.2.2.2.2.2.2.2.2.2.2.p G157.has.2.2.2.2.2.2.2.2.2.2.2.q (by omega)).mono ?_
        rintro e v143 ⟨Rf3, rf3, cf3, rfl, hs, hb⟩
        have G158 := ((G157.step hb).sl (hs))
        clear hs G157 hb
        go_wp2_with fail
        refine (ints_b _ _ _ _ _ _ (someOf M false L) _ G158.has.2.1 G158.has.1).mono ?_
        rintro e v144 ⟨rfl, hb⟩
        have G159 := (G158.step hb)
        clear G158 hb
        have G160 := G159.drop1.drop0
        clear G159
        have r_q1_0 := G160.has.2.2.2.2.2.2.2.2.2.2.q1.cell 0
        go_wp2_with fail
        refine (SoI.list_any B1 k1 d1 L _ G160.has.2.2.2.2.2.2.2.2.2.2.s1 (by omega)).mono ?_
        rintro e v145 ⟨Eub, eub, rfl, how, hb⟩
        have G161 := ((G160.step hb).sl (how.sl (by omega)))
        clear how r_q1_0 G160 hb
        go_wp2_with fail
        refine (ints_b _ _ _ _ _ _ L _ G161.has.1 G161.has.2.2.2.2.2.2.2.2.2.2.2.p).mono ?_
        rintro e v146 ⟨rfl, hb⟩
        have G162 := (G161.step hb)
        clear G161 hb
        have G163 := G162.drop0
        clear G162
        have r_q2_0 := G163.has.2.2.2.2.2.2.2.2.2.2.q2.cell 0
        go_wp2_with fail
        refine (SoI.list_any B2 k2 d2 M _ G163.has.2.2.2.2.2.2.2.2.2.2.s2 (by omega)).mono ?_
        rintro e v147 ⟨Evb, evb, rfl, how, hb⟩
        have G164 := ((G163.step hb).sl (how.sl (by omega)))
        clear how r_q2_0 G163 hb
        go_wp2_with fail
        refine (ints_b _ _ _ _ _ _ M _ G164.has.1 G164.has.2.2.2.2.2.2.2.2.2.2.2.q).mono ?_
        rintro e v148 ⟨rfl, hb⟩
        have G165 := (G164.step hb)
        clear G164 hb
        have G166 := G165.drop0
        clear G165
        go_wp2_with fail
        go_ret
        exact ⟨rfl, G166.bel⟩
end Go.Proofs.Ytpacnpiiahchiaa.SetInts
