/- credenceref11's Has, Some over ints, walked. Conditions: the slices read as lists; their lengths are within Go's bound. -/
import Derived.Test.YtpacnpiiahchiaaRef
namespace Go.Proofs.Ytpacnpiiahchiaa
open Go.RowKit

set_option maxHeartbeats 4000000 in
set_option maxRecDepth 100000 in
theorem rhas_any (A : Option Addr) (n c : Nat) (xs : List Int) (x : Int) (w : World) (hx : Sl (Value.int .i64) w A n xs) :
    Calls Try.prog 38 #[.slice A n c, .int .i64 x] w fun e w' => e = .returned (.bool (decide (x ∈ xs))) ∧ w = w' := by
  have HI := Lib.hid hx.len
  have hbig := hx.big
  obtain ⟨wa, hwa⟩ : ∃ wa : World, wa = w := ⟨_, rfl⟩
  subst hwa
  go_enter Try.func38, Try.ntmps38
  go_wp2_with fail
  go_loopw [5] (fun i wr => ∃ k : Nat, i = .int .i64 (k : Nat) ∧ k ≤ n ∧ (∀ t, t < k → nth xs t ≠ x) ∧ wr = wa) (fun i _ => n - (intOf i).toNat)
  case atStart => exact ⟨0, rfl, Nat.zero_le _, fun t h => by omega, rfl⟩
  case round =>
    obtain ⟨k, rfl, hk, hno, rfl⟩ := hrel
    have HN := Lib.hid hno; clear hno
    by_cases hlt : k < n
    · obtain ⟨bb, off, rfl, hbb, hc⟩ := hx.at' (by omega)
      have g1 := hc k hlt
      clear hc
      by_cases he : nth xs k = x
      · have d1 : (nth xs k == x) = true := by simpa using he
        have HE := Lib.hid he; clear he
        go_wp2_with fail
        go_ret
        refine ⟨ret_bool ?_, rfl⟩
        symm
        rw [decide_eq_true_iff, ← HE.out]
        exact nth_mem (by rw [HI.out]; exact hlt)
      · have d1 : (nth xs k == x) = false := by simpa using he
        have HE := Lib.hid he; clear he
        go_wp2_with fail
        exact ⟨⟨k + 1, by go_num, by omega, fun t ht => by
          by_cases h : t = k
          · rw [h]; exact HE.out
          · exact HN.out t (by omega), trivial⟩, by simp [intOf]; omega⟩
    · go_wp2_with fail
      go_ret
      refine ⟨ret_bool ?_, rfl⟩
      symm
      rw [decide_eq_false_iff_not]
      intro hmem
      obtain ⟨t, h1, h2⟩ := mem_nth hmem
      exact HN.out t (by have := HI.out; omega) h2

/-- those that are (or are not) in another list -/
def someOf (os : List Int) (b : Bool) (xs : List Int) : List Int := xs.filter (fun z => decide (z ∈ os) == b)
theorem someOf_length (os : List Int) (b : Bool) (xs : List Int) : (someOf os b xs).length ≤ xs.length := List.length_filter_le _ _
set_option maxHeartbeats 4000000 in
set_option maxRecDepth 100000 in
theorem rsome_any (A A' : Option Addr) (n c n' c' : Nat) (xs os : List Int) (b : Bool) (w : World) (hx : Sl (Value.int .i64) w A n xs) (ho : Sl (Value.int .i64) w A' n' os) (hb : n ≤ 1000000) :
    Calls Try.prog 25 #[.slice A n c, .slice A' n' c', .bool b] w fun e w' => ∃ A1 k1 c1, e = .returned (.slice A1 k1 c1) ∧ Sl (Value.int .i64) w' A1 k1 (someOf os b xs) ∧ Below w.heap.size w w' := by
  obtain ⟨i0, hi0, hz0, hz1, hz2⟩ := info_parts SoI.info
  have HI := Lib.hid (And.intro hx.len hi0); clear hi0
  have hown0 := OwnR.nil (Value.int .i64) w w.heap.size 3
  obtain ⟨wa, hwa⟩ : ∃ wa : World, wa = w := ⟨_, rfl⟩
  subst hwa
  go_enter Try.func25, Try.ntmps25
  go_wp2_with fail
  go_loopw [7, 8] (fun v i wr => ∃ (k m cb : Nat) (Ab : Option Addr), i = .int .i64 (k : Nat) ∧ k ≤ n ∧ v = .slice Ab m cb ∧
      OwnR (Value.int .i64) wr wa.heap.size 3 Ab m cb (someOf os b (xs.take k)) ∧ Below wa.heap.size wa wr) (fun _ i _ => n - (intOf i).toNat)
  case atStart => exact ⟨0, 0, 0, none, rfl, Nat.zero_le _, rfl, hown0, Below.refl _ _⟩
  case round =>
    obtain ⟨k, m, cb, Ab, rfl, hk, rfl, how, hbl⟩ := hrel
    have hsz := hbl.size
    have hm : m ≤ k := by
      have h1 := how.length
      have h2 := someOf_length os b (xs.take k)
      rw [List.length_take] at h2
      omega
    by_cases hlt : k < n
    · have hx6 := hx.below (Nat.le_refl _) hbl
      have ho6 := ho.below (Nat.le_refl _) hbl
      have hkl : k < xs.length := by rw [HI.out.1]; exact hlt
      obtain ⟨bb, off, rfl, hbb, hc⟩ := hx6.at' (by omega)
      have g1 := hc k hlt
      clear hc hx6
      have HO := Lib.hid (And.intro ho6 hkl); clear ho6 hkl
      have htk : someOf os b (xs.take (k + 1)) = someOf os b (xs.take k) ++ (if decide (nth xs k ∈ os) == b then [nth xs k] else []) := by
        rw [take_snoc HO.out.2]
        unfold someOf
        rw [List.filter_append, List.filter_cons]
        rfl
      have HT := Lib.hid htk; clear htk
      obtain ⟨wr0, hwr0⟩ : ∃ u : World, u = wr := ⟨_, rfl⟩
      subst hwr0
      go_wp2_with fail
      refine (rhas_any A' n' c' os (nth xs k) _ HO.out.1).mono ?_
      rintro e w2 ⟨rfl, rfl⟩
      rcases hd : (decide (nth xs k ∈ os) == b)
      · have e1 : someOf os b (xs.take (k + 1)) = someOf os b (xs.take k) := by rw [HT.out, hd]; simp
        have HE := Lib.hid e1; clear e1
        go_wp2_with fail
        exact ⟨⟨k + 1, m, cb, Ab, by go_num, by omega, rfl, by rw [HE.out]; exact how, hbl⟩, by simp [intOf]; omega⟩
      · have e1 : someOf os b (xs.take (k + 1)) = someOf os b (xs.take k) ++ [nth xs k] := by rw [HT.out, hd]; simp
        have HE := Lib.hid e1; clear e1
        have k1 : m + 1 ≤ maxLen := by unfold maxLen; omega
        have k2 : (m + 1) * 8 ≤ 140737488355328 := by omega
        have hw1 := how.alloc (.cells #[.int .i64 (nth xs k)] 3)
        have hx1 := Sl.one (enc := Value.int .i64) wr0 3 (nth xs k)
        have hb1 : wa.heap.size ≤ (wr0.alloc (.cells #[.int .i64 (nth xs k)] 3)).heap.size := by simp; omega
        go_wp2_with (first
          | (at_builtin; refine wpList_append_sl _ (Value.int .i64) SoI.one rfl _ _ 35 rfl wa.heap.size 3 i0 (.int .i64 0) 8 Try.underlying35 HI.out.2 hz0 hz1 hz2 rfl _ _ _ _ rfl hw1 _ _ _ _ rfl hx1 k1 k2 hb1 ?_)
          | fail)
        intro A1 c1 w1 how1 _ hb' _
        have hbl1 : Below wa.heap.size wa w1 := (hbl.alloc hsz _).trans hb'
        go_wp2_with fail
        exact ⟨⟨k + 1, m + 1, c1, A1, by go_num, by omega, rfl, by rw [HE.out]; exact how1, hbl1⟩, by simp [intOf]; omega⟩
    · obtain rfl : k = n := by omega
      rw [← HI.out.1, List.take_length] at how
      have hs := how.sl (by omega)
      go_wp2_with fail
      go_ret
      exact ⟨_, _, _, rfl, hs, hbl⟩
end Go.Proofs.Ytpacnpiiahchiaa
