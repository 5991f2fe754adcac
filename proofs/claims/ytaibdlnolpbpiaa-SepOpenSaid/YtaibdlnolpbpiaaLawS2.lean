/- credencelaw16's still, twin, kept, own, walked: each answers true where what was handed in is as it was. Conditions: the lists read, within Go's bound; what is written over is the call's own. -/
import Derived.Test.YtaibdlnolpbpiaaLawS
namespace Go.Proofs.Ytaibdlnolpbpiaa
open Go.RowKit

set_option maxRecDepth 100000 in
set_option maxHeartbeats 800000 in
theorem still_any (M A : Option Addr) (n cm c : Nat) (xs : List Int) (w : World) (hm : Sl (Value.int .i64) w M (n + 4) (xs ++ m4)) (h : Sl (Value.int .i64) w A n xs) (hc : n + 4 ≤ cm) :
    Calls Try.prog 18 #[.slice M n cm, .slice A n c] w fun e w' => e = .returned (.bool true) ∧ ∃ t, w' = w.drewN t := by
  have hbig := hm.big
  have hlen := h.len
  have hpre : Sl (Value.int .i64) w M n xs := ⟨hlen, by omega, fun hp => by
    obtain ⟨b, off, e1, hlt, hc⟩ := hm.at' (by omega)
    exact ⟨b, off, e1, hlt, fun j hj => by rw [hc j (by omega), nth_append_left (by omega)]⟩⟩
  obtain ⟨b, off, rfl, _, hcell⟩ := hm.at' (by omega)
  have e4 : ∀ k, k < 4 → nth (xs ++ m4) (n + k) = -77 := fun k hk => by
    rw [nth_append_right (by omega), hlen, Nat.add_sub_cancel_left]
    rcases (show k = 0 ∨ k = 1 ∨ k = 2 ∨ k = 3 from by omega) with rfl | rfl | rfl | rfl <;> rfl
  have HC := Lib.hid (And.intro hcell (And.intro e4 (And.intro hpre h))); clear hcell e4 hpre hm hlen h
  obtain ⟨wa, hwa⟩ : ∃ wa : World, wa = w := ⟨_, rfl⟩
  subst hwa
  go_enter Try.func18, Try.ntmps18
  go_wp2_with fail
  go_loopw [6] (fun i wr => ∃ k : Nat, i = .int .i64 (k : Nat) ∧ k ≤ 4 ∧ wr = wa) (fun i _ => 4 - (intOf i).toNat)
  case atStart => exact ⟨0, rfl, by omega, rfl⟩
  case round =>
    obtain ⟨k, rfl, hk, hwr⟩ := hrel
    have hwr := hwr.symm
    subst hwr
    by_cases hlt : k < 4
    · have g1 := HC.out.1 (n + k) (by omega)
      rw [HC.out.2.1 k hlt] at g1
      have q1 : (((n : Nat) : Int) + ((k : Nat) : Int)).toNat = n + k := by omega
      go_wp2_with fail
      exact ⟨⟨k + 1, by go_num, by omega, trivial⟩, by simp [intOf]; omega⟩
    · obtain rfl : k = 4 := by omega
      go_wp2_with fail
      refine (same_ref _ _ _ _ _ _ xs xs _ HC.out.2.2.1 HC.out.2.2.2).mono ?_
      rintro e w2 ⟨rfl, t, rfl⟩
      go_wp2_with fail
      go_ret
      exact ⟨ret_bool (by simp), t, rfl⟩

/-- what twin makes: a row of slices, each a row of its own with marks behind it -/
structure Twin (w : World) (base : Nat) (A : Option Addr) (n c : Nat) (Ps : List (List Int)) (vs : List (Option Addr × Nat × Nat)) : Prop where
  out : OwnR eS w base 23 A n c vs
  row : ∀ i, i < n → OwnR (Value.int .i64) w base 3 (nth vs i).1 ((nth vs i).2.1 + 4) (nth vs i).2.2 (nth Ps i ++ m4) ∧ (nth vs i).2.1 = (nth Ps i).length
instance {base : Nat} {A : Option Addr} {n c : Nat} {Ps : List (List Int)} {vs : List (Option Addr × Nat × Nat)} : Stable (fun w => Twin w base A n c Ps vs) :=
  ⟨fun hb h => ⟨h.out.below (Nat.le_refl _) hb, fun i hi => ⟨(h.row i hi).1.below (Nat.le_refl _) hb, (h.row i hi).2⟩⟩⟩
theorem Twin.rows {w : World} {base : Nat} {A : Option Addr} {n c : Nat} {Ps : List (List Int)} {vs : List (Option Addr × Nat × Nat)} (h : Twin w base A n c Ps vs) (hl : Ps.length = n) (hn : n ≤ 140737488351232) (hb : ∀ i, i < n → (nth Ps i).length + 4 ≤ 140737488351232) : Rows (Value.int .i64) w A n Ps := by
  refine ⟨⟨vs, h.out.sl hn, fun i hi => ?_⟩, hl⟩
  obtain ⟨h1, h2⟩ := h.row i hi
  have hc := h1.cap
  exact ⟨h1.pre' h2.symm (by have := hb i hi; omega), by omega⟩
set_option maxRecDepth 100000 in
set_option maxHeartbeats 800000 in
theorem twin_any (A : Option Addr) (n c : Nat) (Ps : List (List Int)) (w : World) (h : Rows (Value.int .i64) w A n Ps) (hn : n * 24 ≤ 140737488351232) (hb : ∀ i, i < n → (nth Ps i).length * 8 ≤ 140737488351232) :
    Calls Try.prog 12 #[.slice A n c] w fun e w' => ∃ B d vs, e = .returned (.slice B n d) ∧ Twin w' w.heap.size B n d Ps vs ∧ Below w.heap.size w w' := by
  have HB := Lib.hid hb; clear hb
  obtain ⟨wa, hwa⟩ : ∃ wa : World, wa = w := ⟨_, rfl⟩
  subst hwa
  go_enter Try.func12, Try.ntmps12
  go_wp2_with fail
  go_loopw [3, 4] (fun v i wr => ∃ (k : Nat) (B : Option Addr) (d : Nat) (vs : List (Option Addr × Nat × Nat)), v = .slice B k d ∧ i = .int .i64 (k : Nat) ∧ k ≤ n ∧ Twin wr wa.heap.size B k d Ps vs ∧ Below wa.heap.size wa wr) (fun _ i _ => n - (intOf i).toNat)
  case atStart => exact ⟨0, none, 0, [], rfl, rfl, Nat.zero_le _, ⟨OwnR.nil _ _ _ _, fun i hi => by omega⟩, Below.refl _ _⟩
  case round =>
    obtain ⟨k, B, d, vs, rfl, rfl, hk, ht, hbl⟩ := hrel
    obtain ⟨wb, hwb⟩ : ∃ wb : World, wb = wr := ⟨_, rfl⟩
    subst hwb
    by_cases hlt : k < n
    · obtain ⟨b, off, P, m, dp, rfl, hbb, g0, hrow0⟩ := h.row hlt
      have g1 := ((keeps hbl).1 b (off + k) hbb).trans g0
      have hrow := hrow0.below (Nat.le_refl _) hbl
      have hm8 := HB.out k hlt
      rw [hrow.len] at hm8
      have hvl := ht.out.length
      have hsz := hbl.size
      have HT := Lib.hid (And.intro ht (And.intro hbl (And.intro hrow (And.intro hrow.len hvl)))); clear ht hbl hrow hrow0 g0 hvl
      go_wp2_with fail
      refine (roomy_any P m dp (nth Ps k) _ HT.out.2.2.1 hm8).mono ?_
      rintro e w5 ⟨R, cr, rfl, hor, hb5⟩
      have ht5 := Stable.below (P := fun w => Twin w wa.heap.size B k d Ps vs) hb5 HT.out.1
      have hbl5 := HT.out.2.1.trans (hb5.mono hsz)
      have hos := ht5.out.alloc (.cells #[.slice R m cr] 23)
      have hsz5 := hbl5.size
      have H5 := Lib.hid (And.intro ht5 (And.intro hbl5 (hor.mono hsz))); clear ht5 hbl5 hor hb5
      go_wp2_with (first
        | (at_builtin; refine wpList_app _ eiRows eS one_eS rfl _ _ rfl wa.heap.size _ _ _ _ rfl hos _ _ _ _ rfl (Sl.one (enc := eS) _ _ (R, m, cr)) (by omega) (by simp; omega) ?_)
        | fail)
      intro A9 c9 w9 ho9 hg9 hb9 _
      have hne : ∀ (X : Option Addr) (a b : Nat) (ys : List Int), OwnR (Value.int .i64) w5 wa.heap.size 3 X a b ys → OwnR (Value.int .i64) w9 wa.heap.size 3 X a b ys := fun X a b ys hX =>
        (hX.alloc (.cells #[.slice R m cr] 23)).grown hg9 fun g e e2 => by
          have h2 := H5.out.1.out.ownBlock_eq e2
          exact (H5.out.1.out.kinds hX (by decide) h2) e
      have ht9 : Twin w9 wa.heap.size A9 (k + 1) c9 Ps (vs ++ [(R, m, cr)]) := by
        refine ⟨ho9, fun i hi => ?_⟩
        rcases Nat.lt_or_ge i k with h1 | h1
        · rw [nth_append_left (by rw [HT.out.2.2.2.2]; exact h1)]
          exact ⟨hne _ _ _ _ (H5.out.1.row i h1).1, (H5.out.1.row i h1).2⟩
        · obtain rfl : i = k := by omega
          rw [nth_append_right (by rw [HT.out.2.2.2.2]; exact Nat.le_refl _), HT.out.2.2.2.2, Nat.sub_self]
          exact ⟨hne _ _ _ _ H5.out.2.2, HT.out.2.2.2.1.symm⟩
      have hb10 := (H5.out.2.1.alloc hsz5 (.cells #[.slice R m cr] 23)).trans hb9
      have H9 := Lib.hid (And.intro ht9 hb10); clear ht9 hb9 hb10 ho9 hg9 hne hos
      go_wp2_with fail
      exact ⟨⟨k + 1, A9, c9, _, rfl, by go_num, by omega, H9.out.1, H9.out.2⟩, by simp [intOf]; omega⟩
    · obtain rfl : k = n := by omega
      have H9 := Lib.hid (And.intro ht hbl); clear ht hbl
      go_wp2_with fail
      go_ret
      exact ⟨B, d, vs, rfl, H9.out.1, H9.out.2⟩

set_option maxRecDepth 100000 in
set_option maxHeartbeats 800000 in
theorem kept_any (base : Nat) (B A : Option Addr) (n d c : Nat) (Ps : List (List Int)) (vs : List (Option Addr × Nat × Nat)) (w : World) (ht : Twin w base B n d Ps vs) (h : Rows (Value.int .i64) w A n Ps) (hn : n * 24 ≤ 140737488351232) (hb : ∀ i, i < n → (nth Ps i).length * 8 ≤ 140737488351232) :
    Calls Try.prog 17 #[.slice B n d, .slice A n c] w fun e w' => e = .returned (.bool true) ∧ ∃ t, w' = w.drewN t := by
  obtain ⟨wa, hwa⟩ : ∃ wa : World, wa = w := ⟨_, rfl⟩
  subst hwa
  have HT := Lib.hid (And.intro ht (And.intro h hb)); clear ht h hb
  go_enter Try.func17, Try.ntmps17
  go_wp2_with fail
  go_loopw [5] (fun i wr => ∃ k t : Nat, i = .int .i64 (k : Nat) ∧ k ≤ n ∧ wr = wa.drewN t) (fun i _ => n - (intOf i).toNat)
  case atStart => exact ⟨0, 0, rfl, Nat.zero_le _, rfl⟩
  case round =>
    obtain ⟨k, t, rfl, hk, hwr⟩ := hrel
    obtain ⟨wb, hwb⟩ : ∃ wb : World, wb = wr := ⟨_, rfl⟩
    subst hwb
    by_cases hlt : k < n
    · have ht := Stable.below (P := fun w => Twin w base B n d Ps vs) (below_refl_drewN wa.heap.size wa t) HT.out.1
      have hr := HT.out.2.1.drewN t
      rw [← hwr] at ht hr
      obtain ⟨b, off, P, m, dp, rfl, _, g1, hrow⟩ := hr.row hlt
      obtain ⟨b2, o2, rfl, _, hc2⟩ := (ht.out.sl (by omega)).at' (by omega)
      have g2 := hc2 k hlt
      obtain ⟨hw1, hw2⟩ := ht.row k hlt
      generalize nth vs k = v at *
      obtain ⟨V, m', cv⟩ := v
      simp only at hw1 hw2 g2
      obtain rfl : m' = m := by rw [hw2]; exact hrow.len
      have hbb := HT.out.2.2 k hlt
      rw [← hw2] at hbb
      have hst : Sl (Value.int .i64) wb V (m' + 4) (nth Ps k ++ m4) := hw1.sl (by omega)
      have hcv := hw1.cap
      have q1 : (0 : Int) ≤ (k : Nat) := by omega
      have q2 : ((k : Nat) : Int) < n := by omega
      have HS := Lib.hid (And.intro hst (And.intro hrow hwr)); clear hst hrow hwr ht hr hw1 hw2 hc2 hbb
      go_wp2_with fail
      go_quiet ((go_at_call 18; exact Calls.quiet_of (still_any V P m' cv dp (nth Ps k) _ (HS.out.1.drewN _) (HS.out.2.1.drewN _) hcv)))
      go_wp2_with fail
      exact ⟨⟨k + 1, t + nq, by go_num, by omega, by rw [HS.out.2.2, World.drewN_drewN]⟩, by simp [intOf]; omega⟩
    · obtain rfl : k = n := by omega
      have HW := Lib.hid hwr; clear hwr
      go_wp2_with fail
      go_ret
      exact ⟨rfl, t, HW.out⟩
end Go.Proofs.Ytaibdlnolpbpiaa
