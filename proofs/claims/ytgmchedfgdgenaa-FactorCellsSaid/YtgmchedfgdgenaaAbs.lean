/- credencelaw13.abs and some, walked. Conditions: as many values as variables, not too many. -/
import Derived.Test.YtgmchedfgdgenaaTrio
namespace Go.Proofs.Ytgmchedfgdgenaa
open Go.RowKit
attribute [local go_sem] Oper.semAt_some

/-- a number from 0 to 1000, out of any -/
def absF (n : Int) : Int := if Int.tmod n 1001 < 0 then -(Int.tmod n 1001) else Int.tmod n 1001
theorem absF_le (n : Int) : 0 ≤ absF n ∧ absF n ≤ 1000 := by
  unfold absF
  have h : -1001 < Int.tmod n 1001 ∧ Int.tmod n 1001 < 1001 := by
    rcases Int.le_total 0 n with h | h
    · have := Int.tmod_nonneg 1001 h
      have := Int.tmod_lt_of_pos n (show (0 : Int) < 1001 by decide)
      omega
    · have h1 := Int.tmod_nonneg 1001 (show 0 ≤ -n by omega)
      have h2 := Int.tmod_lt_of_pos (-n) (show (0 : Int) < 1001 by decide)
      rw [Int.neg_tmod] at h1 h2
      omega
  split <;> omega
set_option maxHeartbeats 400000 in
theorem abs_any (n : Int) (w : World) : Calls Try.prog 24 #[.int .i64 n] w fun e w' => e = .returned (.int .i64 (absF n)) ∧ w = w' := by
  have h := absF_le n
  unfold absF at h ⊢
  by_cases hn : Int.tmod n 1001 < 0
  · rw [if_pos hn] at h ⊢
    have hd : decide (Int.tmod n 1001 < 0) = true := by simpa using hn
    have hw : wrap64 (-Int.tmod n 1001) = -Int.tmod n 1001 := IntWalk.wrap64_in _ ⟨by omega, by omega⟩
    go_enter Try.func24, Try.ntmps24
    go_wp2_with fail
    go_ret
    exact ⟨by first | rfl | rw [hw], rfl⟩
  · rw [if_neg hn] at h ⊢
    have hd : decide (Int.tmod n 1001 < 0) = false := by simpa using hn
    go_enter Try.func24, Try.ntmps24
    go_wp2_with fail
    go_ret
    exact ⟨rfl, rfl⟩
/-- the values at the places, below k, of a variable -/
def someIn (U d : List Int) (x : Int) (k : Nat) : List Int := ((List.range k).filter fun j => nth U j == x).map (nth d)
def someF (U d of : List Int) (i : Nat) : List Int := (List.range i).flatMap fun a => someIn U d (nth of a) U.length
theorem someIn_succ (U d : List Int) (x : Int) (k : Nat) : someIn U d x (k + 1) = someIn U d x k ++ if nth U k = x then [nth d k] else [] := by
  unfold someIn
  rw [List.range_succ, List.filter_append, List.map_append]
  by_cases h : nth U k = x <;> simp [h]
theorem someIn_length (U d : List Int) (x : Int) (k : Nat) : (someIn U d x k).length ≤ k := by
  unfold someIn
  rw [List.length_map]
  exact Nat.le_trans (List.length_filter_le _ _) (by simp)
theorem someF_succ (U d of : List Int) (i : Nat) : someF U d of (i + 1) = someF U d of i ++ someIn U d (nth of i) U.length := by
  unfold someF; rw [List.range_succ, List.flatMap_append]; simp
theorem someF_length (U d of : List Int) : ∀ i, (someF U d of i).length ≤ i * U.length
  | 0 => by simp [someF]
  | i + 1 => by
    rw [someF_succ, List.length_append, Nat.add_mul, Nat.one_mul]
    exact Nat.add_le_add (someF_length U d of i) (someIn_length _ _ _ _)
set_option maxRecDepth 100000 in
set_option maxHeartbeats 800000 in
theorem some_any (A B C : Option Addr) (n c c2 q c3 : Nat) (U d of : List Int) (w : World) (hU : Sl (Value.int .i64) w A n U) (hd : Sl (Value.int .i64) w B n d) (ho : Sl (Value.int .i64) w C q of) (hb : q * n * 8 ≤ 140737488351232) :
    Calls Try.prog 26 #[.slice A n c, .slice B n c2, .slice C q c3] w fun e w' => ∃ D k, e = .returned (.slice D (someF U d of q).length k) ∧ OwnR (Value.int .i64) w' w.heap.size 3 D (someF U d of q).length k (someF U d of q) ∧ Below w.heap.size w w' := by
  have HS := Lib.hid (And.intro hU (And.intro hd ho))
  have big1 := hU.big
  have big2 := ho.big
  have HL := Lib.hid (And.intro hU.len (And.intro hd.len ho.len))
  clear hU hd ho
  go_enter Try.func26, Try.ntmps26
  go_wp2_with fail
  go_loopw [7, 8] (fun l i wr => ∃ (a : Nat) (D : Option Addr) (k : Nat), a ≤ q ∧ i = .int .i64 (a : Nat) ∧ l = .slice D (someF U d of a).length k ∧ OwnR (Value.int .i64) wr w.heap.size 3 D (someF U d of a).length k (someF U d of a) ∧ Below w.heap.size w wr) (fun _ i _ => q - (intOf i).toNat)
  case atStart => exact ⟨0, none, 0, Nat.zero_le _, rfl, rfl, OwnR.nil _ _ _ _, Below.refl _ _⟩
  case round =>
    obtain ⟨a, D, k, ha, rfl, rfl, hO, hbr⟩ := hrel
    obtain ⟨wo, hwo⟩ : ∃ wo : World, wo = wr := ⟨_, rfl⟩
    subst hwo
    by_cases hlt : a < q
    · have HO := Lib.hid (And.intro hO hbr)
      clear hO hbr
      have hal : (a + 1) * n ≤ q * n := Nat.mul_le_mul_right _ hlt
      rw [Nat.add_mul, Nat.one_mul] at hal
      have hfl := someF_length U d of a
      rw [HL.out.1] at hfl
      go_wp2_with fail
      go_loopw [7, 9] (fun l j wr => ∃ (b : Nat) (D : Option Addr) (k : Nat), b ≤ n ∧ j = .int .i64 (b : Nat) ∧ l = .slice D (someF U d of a ++ someIn U d (nth of a) b).length k ∧ OwnR (Value.int .i64) wr w.heap.size 3 D (someF U d of a ++ someIn U d (nth of a) b).length k (someF U d of a ++ someIn U d (nth of a) b) ∧ Below w.heap.size w wr) (fun _ j _ => n - (intOf j).toNat)
      case atStart => exact ⟨0, D, k, Nat.zero_le _, rfl, by simp [someIn], by have := HO.out.1; simpa [someIn] using this, HO.out.2⟩
      case round =>
        obtain ⟨b, D, k, hb', rfl, rfl, hO, hbr⟩ := hrel
        have hil := someIn_length U d (nth of a) b
        by_cases hlb : b < n
        · obtain ⟨u1, o1, rfl, _, hc1⟩ := (HS.out.1.below (Nat.le_refl _) hbr).at' (by omega)
          obtain ⟨u2, o2, rfl, _, hc2⟩ := (HS.out.2.1.below (Nat.le_refl _) hbr).at' (by omega)
          obtain ⟨u3, o3, rfl, _, hc3⟩ := (HS.out.2.2.below (Nat.le_refl _) hbr).at' (by omega)
          have g1 := hc1 b hlb
          have g2 := hc2 b hlb
          have g3 := hc3 a hlt
          clear hc1 hc2 hc3
          have hsz := hbr.size
          obtain ⟨X, hX⟩ : ∃ X, X = someF U d of a ++ someIn U d (nth of a) b := ⟨_, rfl⟩
          have hXl : X.length ≤ a * n + b := by rw [hX, List.length_append]; omega
          rw [← hX] at hO ⊢
          have hs := someIn_succ U d (nth of a) b
          by_cases heq : nth U b = nth of a
          · rw [if_pos heq] at hs
            have hbe : (nth U b == nth of a) = true := by simpa using heq
            have hq8 : (X.length + 1) * 8 ≤ 140737488355328 := by omega
            obtain ⟨xu, hxu⟩ : ∃ xu, xu = nth U b := ⟨_, rfl⟩
            obtain ⟨xo, hxo⟩ : ∃ xo, xo = nth of a := ⟨_, rfl⟩
            rw [← hxu, ← hxo] at hbe
            rw [← hxu] at g1
            rw [← hxo] at g3
            have HX := Lib.hid (And.intro hX (And.intro hs hbr))
            have HO1 := Lib.hid hO
            clear hX hs heq hxu hxo hbr hO
            go_wp2_with fail
            go_quiet (fail)
            obtain ⟨wq, hwq⟩ : ∃ wq, wq = wr.drewN nq := ⟨_, rfl⟩
            have ho1 := (HO1.out.drewN nq).alloc (.cells #[.int .i64 (nth d b)] 3)
            have g2 : (wr.drewN nq).cell? ⟨u2, o2 + b, none⟩ = some (.int .i64 (nth d b)) := g2
            have hbq := (below_drewN HX.out.2.2 nq).alloc (by exact hsz) (.cells #[.int .i64 (nth d b)] 3)
            rw [← hwq] at ho1 g2 hbq ⊢
            have hsz1 := hbq.size
            have HB := Lib.hid hbq
            clear hwq hbq hsz g1 g3 hbe
            go_wp2_with (first
              | (at_builtin; refine wpList_app _ eiI (Value.int .i64) (fun _ => rfl) rfl _ _ rfl w.heap.size _ _ _ _ rfl ho1 _ _ _ _ rfl (Sl.one (enc := Value.int .i64) _ _ _) hq8 hsz1 ?_)
              | fail)
            intro C9 k9 w9 ho9 _ hb9 _
            have e9 : X ++ [nth d b] = someF U d of a ++ someIn U d (nth of a) (b + 1) := by rw [HX.out.1, HX.out.2.1, List.append_assoc]
            have l9 : X.length + 1 = (someF U d of a ++ someIn U d (nth of a) (b + 1)).length := by rw [← e9]; simp
            have HR := Lib.hid (And.intro ho9 (And.intro (HB.out.trans hb9) (And.intro e9 l9)))
            clear ho9 hb9 ho1 hsz1 hq8 e9 l9
            go_wp2_with fail
            refine ⟨⟨b + 1, C9, k9, by omega, by go_num, by rw [← HR.out.2.2.2], ?_, HR.out.2.1⟩, by simp [intOf]; omega⟩
            rw [← HR.out.2.2.2, ← HR.out.2.2.1]
            exact HR.out.1
          · rw [if_neg heq, List.append_nil] at hs
            have hbe : (nth U b == nth of a) = false := by simpa using heq
            obtain ⟨xu, hxu⟩ : ∃ xu, xu = nth U b := ⟨_, rfl⟩
            obtain ⟨xo, hxo⟩ : ∃ xo, xo = nth of a := ⟨_, rfl⟩
            rw [← hxu, ← hxo] at hbe
            rw [← hxu] at g1
            rw [← hxo] at g3
            have HX := Lib.hid (And.intro hX (And.intro hs (And.intro hbr hO)))
            clear hX hs heq hxu hxo hbr hO g2
            go_wp2_with fail
            go_quiet (fail)
            go_wp2_with fail
            refine ⟨⟨b + 1, D, k, by omega, by go_num, by rw [HX.out.2.1, HX.out.1], ?_, below_drewN HX.out.2.2.1 _⟩, by simp [intOf]; omega⟩
            rw [HX.out.2.1, ← HX.out.1]
            exact HX.out.2.2.2.drewN _
        · obtain rfl : b = n := by omega
          have he := someF_succ U d of a
          rw [HL.out.1] at he
          rw [← he] at hO ⊢
          have HO := Lib.hid (And.intro hO hbr)
          clear hO hbr he
          go_wp2_with fail
          exact ⟨⟨a + 1, D, k, by omega, by go_num, rfl, HO.out.1, HO.out.2⟩, by simp [intOf]; omega⟩
    · obtain rfl : a = q := by omega
      have HO := Lib.hid (And.intro hO hbr)
      clear hO hbr
      go_wp2_with fail
      go_ret
      exact ⟨D, k, rfl, HO.out.1, HO.out.2⟩
end Go.Proofs.Ytgmchedfgdgenaa
