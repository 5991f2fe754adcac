/- SetRises: whatever list comes in, the call returns true and changes nothing that was there. Condition: the slice reads as a list. -/
import Derived.Test.YtpacnpiiahchiaaLaw0
import Derived.StillTailTactics
import Derived.Deep.RegionHeld3
import Derived.Deep.DrawnRows
import Derived.Outline
namespace Go.Proofs.Ytpacnpiiahchiaa
open Go.RowKit
namespace Rises
attribute [local go_sem ↓] Go.wp_at_zero Go.wp_at_succ

theorem mem_setOf_int (z : Int) (xs : List Int) : z ∈ setOf cmpI xs ↔ z ∈ xs := by
  have key : ∀ ys : List Int, (∀ u, u ∈ setOf cmpI ys → u ∈ ys) ∧ (∀ u, u ∈ ys → u ∈ setOf cmpI ys) := by
    intro ys
    refine ⟨fun u hu => ?_, fun u hu => ?_⟩
    · obtain ⟨i, hi, e, _⟩ := (mem_setOf cmpokI u ys).1 hu
      exact List.mem_of_getElem? e
    · obtain ⟨i, hi⟩ := List.mem_iff_getElem?.1 hu
      -- the first place where it stands
      have h : ∀ m j : Nat, j ≤ m → ys[j]? = some u → u ∈ setOf cmpI ys := by
        intro m
        induction m with
        | zero =>
          intro j hj e
          exact (mem_setOf cmpokI u ys).2 ⟨j, (List.getElem?_eq_some_iff.1 e).1, e, fun k y hk => by omega⟩
        | succ m ih =>
          intro j hj e
          by_cases hk : ∃ k, k < j ∧ ys[k]? = some u
          · obtain ⟨k, hk, e'⟩ := hk
            exact ih k (by omega) e'
          · refine (mem_setOf cmpokI u ys).2 ⟨j, (List.getElem?_eq_some_iff.1 e).1, e, fun k y hk' ey h0 => ?_⟩
            rw [cmpI_zero] at h0
            subst h0
            exact hk ⟨k, hk', ey⟩
      exact h i i (Nat.le_refl _) hi
  exact ⟨(key xs).1 z, (key xs).2 z⟩
theorem setOf_congr {xs ys : List Int} (h : ∀ z, z ∈ xs ↔ z ∈ ys) : setOf cmpI xs = setOf cmpI ys :=
  Asc.ext cmpokI (asc_setOf cmpokI xs) (asc_setOf cmpokI ys) fun z => by rw [mem_setOf_int, mem_setOf_int, h]

/-- the list from behind, each thing twice -/
def backOf (xs : List Int) (n : Nat) : Nat → List Int
  | 0 => []
  | k + 1 => backOf xs n k ++ [nth xs (n - 1 - k), nth xs (n - 1 - k)]
theorem backOf_length (xs : List Int) (n k : Nat) : (backOf xs n k).length = 2 * k := by
  induction k with
  | zero => rfl
  | succ k ih => simp [backOf, ih]; omega
theorem mem_backOf (xs : List Int) (n k : Nat) (hk : k ≤ n) (z : Int) : z ∈ backOf xs n k ↔ ∃ t, t < n ∧ n ≤ t + k ∧ nth xs t = z := by
  induction k with
  | zero => simp [backOf]; intro t h1 h2; omega
  | succ k ih =>
    rw [backOf, List.mem_append, ih (by omega)]
    constructor
    · rintro (⟨t, h1, h2, h3⟩ | h)
      · exact ⟨t, h1, by omega, h3⟩
      · simp only [List.mem_cons, List.not_mem_nil, or_false, or_self] at h
        exact ⟨n - 1 - k, by omega, by omega, h.symm⟩
    · rintro ⟨t, h1, h2, h3⟩
      by_cases e : n ≤ t + k
      · exact .inl ⟨t, h1, e, h3⟩
      · right
        obtain rfl : t = n - 1 - k := by omega
        simp [h3]
theorem setOf_back (xs : List Int) (n : Nat) (hn : xs.length = n) : setOf cmpI (backOf xs n n) = setOf cmpI xs := by
  refine setOf_congr fun z => ?_
  rw [mem_backOf xs n n (Nat.le_refl _)]
  constructor
  · rintro ⟨t, h1, _, h3⟩
    rw [← h3]; exact nth_mem (by omega)
  · intro hz
    obtain ⟨t, h1, h2⟩ := mem_nth hz
    exact ⟨t, by omega, by omega, h2⟩
theorem isIn_setOf (xs : List Int) (z : Int) (h : z ∈ xs) : isIn cmpI z (setOf cmpI xs) = true :=
  isIn_iff.2 ⟨z, (mem_setOf_int z xs).2 h, cmpokI.self z⟩

set_option maxRecDepth 100000 in
set_option maxHeartbeats 1600000 in
theorem law (A : Option Addr) (n c : Nat) (xs : List Int) (w : World) (hx : Sl (Value.int .i64) w A n xs) :
    Calls Try.prog 3 #[.slice A n c] w fun e w' => e = .returned (.bool true) ∧ Below w.heap.size w w' := by
  have hbig := hx.big
  obtain ⟨L, hLd⟩ : ∃ L, L = setOf cmpI xs := ⟨_, rfl⟩
  have hLl : L.length ≤ xs.length := by rw [hLd]; exact setOf_length_le (c := cmpI) xs
  have hasc : Asc cmpI L := by rw [hLd]; exact asc_setOf cmpokI xs
  have hxl := hx.len
  have HL := Lib.hid (And.intro hLd (And.intro hLl (And.intro hasc hxl))); clear hLd hLl hasc hxl
  go_enter Try.func3, Try.ntmps3
  go_wp2_with fail
  refine (alive_any _).mono ?_
  rintro e w1 ⟨rfl, hB1⟩
  by_cases hn : 1000 < n
  · go_wp2_with fail
    go_ret
    exact ⟨rfl, hB1⟩
  have hn' : n ≤ 1000 := by omega
  clear hn
  have hx1 := hx.below (Nat.le_refl _) hB1
  go_wp2_with fail
  refine (SoI.of_any A n c xs _ hx1 (by omega)).mono ?_
  rintro e w2 ⟨A2, ln, c2, rfl, how2, hb2⟩
  rw [← HL.out.1] at how2
  have hlen := how2.length
  have hln : ln ≤ n := by have := HL.out; omega
  have hL2 := how2.sl (by omega)
  have hx2 := hx1.below (Nat.le_refl _) hb2
  have hB2 := hB1.trans (hb2.mono hB1.size)
  have HN := Lib.hid hlen; clear hlen
  have bx2 := RowC.new w2 25 [.slice A2 ln c2]
  have hB3 := hB2.alloc hB2.size (.cells #[.slice A2 ln c2] 25)
  have hx3 := hx2.alloc (.cells #[.slice A2 ln c2] 25)
  have hL3 := hL2.alloc (.cells #[.slice A2 ln c2] 25)
  have hz3 := hB3.size
  clear how2 hb2 hx1 hB1 hL2 hx2 hB2
  go_wp2_with fail
  -- List
  refine (SoI.list_any A2 ln c2 L _ hL3 (by omega)).mono ?_
  rintro e w4 ⟨A4, c4, rfl, how4, hb4⟩
  have hl4 := how4.sl (by omega)
  have bx4 := bx2.below' hb4
  have hx4 := hx3.below (Nat.le_refl _) hb4
  have hL4 := hL3.below (Nat.le_refl _) hb4
  have hB4 := hB3.trans (hb4.mono hz3)
  have hz4 := hB4.size
  generalize w2.heap.size = q at bx4 ⊢
  clear bx2 how4 hb4 hx3 hL3 hB3 hz3 hx
  -- loop 1
  go_wp2_with fail
  go_loopw [6] (fun i wr => ∃ k m : Nat, i = .int .i64 (k : Nat) ∧ 1 ≤ k ∧ wr = w4.drewN m) (fun i _ => ln - (intOf i).toNat)
  case atStart => exact ⟨1, 0, rfl, Nat.le_refl _, rfl⟩
  case round =>
    obtain ⟨k, m, rfl, hk, hwr⟩ := hrel
    by_cases hlt : k < ln
    · obtain ⟨b, off, rfl, hb, hc⟩ := hl4.at' (by omega)
      have g1 : wr.cell? ⟨b, off + k, none⟩ = some (.int .i64 (nth L k)) := by rw [hwr]; exact hc k hlt
      have g2 : wr.cell? ⟨b, off + (k - 1), none⟩ = some (.int .i64 (nth L (k - 1))) := by rw [hwr]; exact hc (k - 1) (by omega)
      have hr : nth L (k - 1) < nth L k := by
        have := nth_asc HL.out.2.2.1 (show k - 1 < k by omega) (by rw [HN.out]; exact hlt)
        rwa [cmpI_neg] at this
      have HW := Lib.hid hwr; clear hwr hc
      go_wp2_with fail
      go_quiet (fail)
      go_wp2_with fail
      exact ⟨⟨k + 1, m + nq, by go_num, by omega, by rw [HW.out, World.drewN_drewN]⟩, by simp [intOf]; omega⟩
    · subst hwr
      have hl5 := hl4.drewN m
      have bx5 := bx4.drewN m
      have hx5 := hx4.drewN m
      have hL5 := hL4.drewN m
      have hB5 := below_drewN hB4 m
      have hz5 : w.heap.size ≤ (w4.drewN m).heap.size := hz4
      generalize w4.drewN m = w5 at *
      clear hl4 bx4 hx4 hL4 hB4 hz4
      go_wp2_with fail
      obtain ⟨i0, hi0, hz0, hz1, hz2⟩ := info_parts SoI.info
      have HI := Lib.hid hi0; clear hi0
      have hown0 := OwnR.nil (Value.int .i64) w5 w5.heap.size 3
      -- loop 2
      go_loopw [7, 8] (fun v i wr => ∃ (j : Nat) (Ab : Option Addr) (cb : Nat), i = .int .i64 ((j : Int) - 1) ∧ j ≤ n ∧ v = .slice Ab (2 * (n - j)) cb ∧
          OwnR (Value.int .i64) wr w5.heap.size 3 Ab (2 * (n - j)) cb (backOf xs n (n - j)) ∧ Below w5.heap.size w5 wr) (fun _ i _ => (intOf i + 1).toNat)
      case atStart => exact ⟨n, none, 0, rfl, Nat.le_refl _, by simp, by simpa [backOf] using hown0, Below.refl _ _⟩
      case round =>
        obtain ⟨j, Ab, cb, rfl, hj, rfl, hown, hbl⟩ := hrel
        have hx6 := hx5.below (Nat.le_refl _) hbl
        have hL6 := hL5.below (Nat.le_refl _) hbl
        have hl6 := hl5.below (Nat.le_refl _) hbl
        have bx6 := bx5.below' hbl
        have hz6 := hbl.size
        rcases j with _ | j
        · -- behind loop 2
          rw [Nat.sub_zero] at hown ⊢
          have hfalse : decide ((0 : Int) ≤ ((0 : Nat) : Int) - 1) = false := by decide
          have hbk : setOf cmpI (backOf xs n n) = L := by rw [HL.out.1]; exact setOf_back xs n HL.out.2.2.2
          have HBK := Lib.hid hbk; clear hbk
          clear hx5 hL5 hl5 bx5 hown0
          have hB6 := hB5.trans (hbl.mono hz5)
          clear hbl hB5
          obtain ⟨wa, hwa⟩ : ∃ wa : World, wa = wr := ⟨_, rfl⟩
          subst hwa
          go_wp2_with fail
          go_loopw [9] (fun i wv => ∃ k m : Nat, i = .int .i64 (k : Nat) ∧ wv = wa.drewN m) (fun i _ => ln - (intOf i).toNat)
          case atStart => exact ⟨0, 0, rfl, rfl⟩
          case round =>
            obtain ⟨k, m, rfl, hwv⟩ := hrel
            obtain ⟨wv, hwv'⟩ : ∃ wv : World, wv = wr := ⟨_, rfl⟩
            subst hwv'
            by_cases hlt : k < ln
            · have HV := Lib.hid hwv; clear hwv
              go_wp2_with fail
              go_loopw [10, 11] (fun bv i wu => ∃ (bb : Bool) (kk m : Nat), bv = .bool bb ∧ i = .int .i64 (kk : Nat) ∧ kk ≤ n ∧ (bb = true ↔ ∃ t, t < kk ∧ nth xs t = nth L k) ∧ wu = wa.drewN m) (fun _ i _ => n - (intOf i).toNat)
              case atStart => exact ⟨false, 0, m, rfl, rfl, Nat.zero_le _, by simp, HV.out⟩
              case round =>
                obtain ⟨bb, kk, m', rfl, rfl, hkn, hbb, hwu⟩ := hrel
                obtain ⟨wu, hwu'⟩ : ∃ wu : World, wu = wr := ⟨_, rfl⟩
                subst hwu'
                by_cases hlt2 : kk < n
                · obtain ⟨b, off, rfl, hb, hc⟩ := hx6.at' (by omega)
                  obtain ⟨b', off', rfl, hb', hc'⟩ := hl6.at' (by omega)
                  have g1 : wu.cell? ⟨b, off + kk, none⟩ = some (.int .i64 (nth xs kk)) := by rw [hwu]; exact hc kk hlt2
                  have g2 : wu.cell? ⟨b', off' + k, none⟩ = some (.int .i64 (nth L k)) := by rw [hwu]; exact hc' k hlt
                  have HU := Lib.hid (And.intro hwu hbb); clear hwu hbb hc hc'
                  rcases bb
                  · go_wp2_with fail
                    go_quiet (fail)
                    go_wp2_with fail
                    refine ⟨⟨_, kk + 1, m' + nq, rfl, by go_num, by omega, ?_, by rw [HU.out.1, World.drewN_drewN]⟩, by simp [intOf]; omega⟩
                    rw [beq_iff_eq]
                    constructor
                    · intro h; exact ⟨kk, Nat.lt_succ_self _, h⟩
                    · rintro ⟨t, ht, h⟩
                      by_cases e : t = kk
                      · rw [← e]; exact h
                      · have := HU.out.2.2 ⟨t, by omega, h⟩
                        cases this
                  · go_wp2_with fail
                    go_quiet (fail)
                    go_wp2_with fail
                    have hex : ∃ t, t < kk + 1 ∧ nth xs t = nth L k := by
                      obtain ⟨t, ht, h⟩ := HU.out.2.1 trivial
                      exact ⟨t, by omega, h⟩
                    refine ⟨?_, by simp [intOf]; omega⟩
                    repeat apply Exists.intro
                    refine ⟨?rel, ?fr⟩
                    case fr => rfl
                    case rel => exact ⟨true, kk + 1, m' + nq, rfl, by go_num, by omega, by simpa using hex, by rw [HU.out.1, World.drewN_drewN]⟩
                · have htrue : bb = true := hbb.2 (by
                    have h1 : nth L k ∈ xs := by
                      rw [← mem_setOf_int, ← HL.out.1]
                      exact nth_mem (by rw [HN.out]; exact hlt)
                    obtain ⟨t, ht, h⟩ := mem_nth h1
                    exact ⟨t, by have := HL.out.2.2.2; omega, h⟩)
                  subst htrue
                  have HU := Lib.hid hwu; clear hwu hbb
                  go_wp2_with fail
                  exact ⟨⟨k + 1, m', by go_num, HU.out⟩, by simp [intOf]; omega⟩
            · subst hwv
              have hl7 := hl6.drewN m
              have bx7 := bx6.drewN m
              have hown7 := hown.drewN m
              have hB7 := below_drewN hB6 m
              clear hx6 hL6 hl6 bx6 hown hB6
              generalize wa.drewN m = w7 at *
              have hz7 := hB7.size
              have s1 := bx7.cell 0
              go_wp2_with fail
              -- s.Len()
              refine (SoI.len_any A2 ln c2 _).mono ?_
              rintro e w8 ⟨rfl, hb8⟩
              have hl8 := hl7.below (Nat.le_refl _) hb8
              have hown8 := hown7.below (Nat.le_refl _) hb8
              have hB8 := hB7.trans (hb8.mono hz7)
              have hz8 := hB8.size
              clear hl7 bx7 hown7 hB7 hz7 hb8 s1
              have he : ((ln : Int) == (ln : Int)) = true := by simp
              go_wp2_with fail
              -- set.Of(back...)
              refine (SoI.of_any Ab (2 * n) cb (backOf xs n n) _ (hown8.sl (by omega)) (by omega)).mono ?_
              rintro e w9 ⟨A9, k9, c9, rfl, how9, hb9⟩
              rw [HBK.out] at how9
              have e9 : k9 = ln := by have h1 := how9.length; have h2 := HN.out; omega
              subst e9
              have hs9 := how9.sl (by omega)
              have hl9 := hl8.below (Nat.le_refl _) hb9
              have hB9 := hB8.trans (hb9.mono hz8)
              have hz9 := hB9.size
              clear hl8 hown8 hB8 hz8 how9 hb9
              go_wp2_with fail
              refine (SoI.list_any A9 k9 c9 L _ hs9 (by omega)).mono ?_
              rintro e w10 ⟨A10, c10, rfl, how10, hb10⟩
              have hs10 := how10.sl (by omega)
              have hl10 := hl9.below (Nat.le_refl _) hb10
              have hB10 := hB9.trans (hb10.mono hz9)
              clear hs9 hl9 hB9 hz9 how10 hb10
              go_wp2_with fail
              refine (ints_any A10 A4 k9 c10 k9 c4 L L _ hs10 hl10).mono ?_
              rintro e w11 ⟨rfl, k11, rfl⟩
              have hB11 := below_drewN hB10 k11
              have hv : decide (L = L) = true := by simp
              rw [hv]
              go_wp2_with fail
              go_ret
              exact ⟨rfl, hB11⟩
        · rw [show ((j + 1 : Nat) : Int) - 1 = (j : Int) by omega]
          have hjn : j < n := by omega
          obtain ⟨b, off, rfl, hb, hc⟩ := hx5.at' (by omega)
          have g0 := hc j hjn
          have g1 : wr.cell? ⟨b, off + j, none⟩ = some (.int .i64 (nth xs j)) := (hbl.cell (p := ⟨b, off + j, none⟩) hb).trans g0
          clear hc
          have hsx : Sl (Value.int .i64) (wr.alloc (.cells #[.int .i64 (nth xs j), .int .i64 (nth xs j)] 3)) (some ⟨wr.heap.size, 0, none⟩) 2 [nth xs j, nth xs j] := Sl.lit (Value.int .i64) wr 3 [nth xs j, nth xs j] (by simp)
          have hown' := hown.alloc (.cells #[.int .i64 (nth xs j), .int .i64 (nth xs j)] 3)
          have hk1 : 2 * (n - (j + 1)) + 2 ≤ maxLen := by unfold maxLen; omega
          have hk2 : (2 * (n - (j + 1)) + 2) * 8 ≤ 140737488355328 := by omega
          have hk3 : w5.heap.size ≤ (wr.alloc (.cells #[.int .i64 (nth xs j), .int .i64 (nth xs j)] 3)).heap.size := by simp; omega
          go_wp2_with fail
          go_region_held3 (fun w' => w'.cell? ⟨b, off + j, none⟩ = some (.int .i64 (nth xs j))) (go_keep)
            (first
              | (refine step_append_sl _ (Value.int .i64) SoI.one (by rfl) (.tmp 44) (.tmp 53) 22 (by rfl) w5.heap.size 3 i0 (.int .i64 0) 8 Try.underlying22 HI.out hz0 hz1 hz2 (by rfl) Ab (2 * (n - (j + 1))) cb (backOf xs n (n - (j + 1))) (by rfl) (by exact hown') (some ⟨wr.heap.size, 0, none⟩) 2 2 [nth xs j, nth xs j] (by rfl) (by exact hsx.drewN 1) hk1 hk2 (by exact hk3) ?_; intro Ab' cb' w7 how7 hg7 hb7 hat7; have k7 := hb7.cell (p := ⟨b, off + j, none⟩) hb))
          have hbl7 : Below w5.heap.size w5 w7 := ((hbl.alloc hz6 _).drew).trans hb7
          have hx7 := (hx5.below (Nat.le_refl _) hbl7).drewN 1
          have hL7 := (hL5.below (Nat.le_refl _) hbl7).drewN 1
          have bx7 := (bx5.below' hbl7).drewN 1
          have how8 := how7.drewN 1
          have hbl8 := below_drewN hbl7 1
          have s1 : w7.cell? ⟨q, 0, none⟩ = some (.slice A2 ln c2) := bx7.cell 0
          have s2 : w7.cell? ⟨b, off + j, none⟩ = some (.int .i64 (nth xs j)) := (hbl7.cell (p := ⟨b, off + j, none⟩) hb).trans g0
          clear g0 hg7 hb7 hat7 hsx hown' hown hbl hx6 hL6 hl6 bx6 g1 k7 hk1 hk2 hk3 hbl7 how7
          go_wp2_with fail
          go_still_tail 5, (by kernel_rfl)
          change wpList _ _ _ _ _ (w7.drewN 1)
          generalize w7.drewN 1 = w8 at *
          have hz8 := hbl8.size
          clear s1 s2
          go_wp2_with fail
          refine (SoI.has_any A2 ln c2 L (nth xs j) _ hL7 HL.out.2.2.1).mono ?_
          rintro e w9 ⟨rfl, hb9⟩
          have hv : isIn cmpI (nth xs j) L = true := by
            rw [HL.out.1]; exact isIn_setOf xs _ (nth_mem (by rw [HL.out.2.2.2]; exact hjn))
          rw [hv]
          have how9 := how8.below (Nat.le_refl _) hb9
          have hbl9 := hbl8.trans (hb9.mono hz8)
          clear hb9 hv how8 hbl8 hx7 hL7 bx7
          go_wp2_with fail
          refine ⟨⟨j, Ab', cb', rfl, by omega, ?_, ?_, hbl9⟩, by simp [intOf]⟩
          · congr 1; omega
          · have h := how9
            rw [show n - j = n - (j + 1) + 1 from by omega, backOf]
            have e1 : n - 1 - (n - (j + 1)) = j := by omega
            rw [e1]
            rw [show 2 * (n - (j + 1) + 1) = 2 * (n - (j + 1)) + 2 from by omega]
            exact h
end Rises
end Go.Proofs.Ytpacnpiiahchiaa
