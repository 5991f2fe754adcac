/- Joined by program out of: Box2, Digits, IntsEq, Cells. What each says stands at its own head. -/
import Derived.Test.YtgmchedfgdgenaaJ10
import Derived.Test.YtgmchedfgdgenaaJ1
import Derived.Deep.RegionHeld3
/- A box of two slices that own rows above it, and one thing more; a variable put into a rising scope, in plain words. No condition. -/
namespace Go.Proofs.Ytgmchedfgdgenaa
open Go.RowKit

structure Boxed2 (w0 w : World) (g : Nat) (tb : TypeId) (A : Option Addr) (n c : Nat) (X : List Int) (B : Option Addr) (m d : Nat) (Y : List Int) (u : Value) : Prop where
  bel : Below w0.heap.size w0 w
  row : RowC w g tb [.slice A n c, .slice B m d, u]
  tr : Trio (Value.int .i64) (Value.int .i64) (Value.int .i64) w (g + 1) 3 3 3 A n c X B m d Y none 0 0 []
  lt : w0.heap.size ≤ g
section
variable {w0 w w' : World} {g : Nat} {tb : TypeId} {A : Option Addr} {n c : Nat} {X : List Int} {B : Option Addr} {m d : Nat} {Y : List Int} {u : Value}
theorem Boxed2.below (h : Boxed2 w0 w g tb A n c X B m d Y u) (hb : Below w.heap.size w w') : Boxed2 w0 w' g tb A n c X B m d Y u := ⟨h.bel.trans (hb.mono h.bel.size), h.row.below' hb, h.tr.below hb, h.lt⟩
theorem Boxed2.alloc (h : Boxed2 w0 w g tb A n c X B m d Y u) (o : Obj) : Boxed2 w0 (w.alloc o) g tb A n c X B m d Y u := h.below ((Below.refl _ _).alloc (Nat.le_refl _) o)
theorem Boxed2.drewN (h : Boxed2 w0 w g tb A n c X B m d Y u) (q : Nat) : Boxed2 w0 (w.drewN q) g tb A n c X B m d Y u := h.below (below_refl_drewN _ _ _)
theorem Boxed2.drew (h : Boxed2 w0 w g tb A n c X B m d Y u) : Boxed2 w0 w.drew g tb A n c X B m d Y u := h.drewN 1
theorem Boxed2.low (h : Boxed2 w0 w g tb A n c X B m d Y u) (hg : w.grownBy w' (Value.slice A n c).ownBlock) : Below (g + 1) w w' := h.tr.below1 hg (Nat.le_refl _) h.row.lt
theorem Boxed2.low2 (h : Boxed2 w0 w g tb A n c X B m d Y u) (hg : w.grownBy w' (Value.slice B m d).ownBlock) : Below (g + 1) w w' := h.tr.rot.below1 hg (Nat.le_refl _) h.row.lt
theorem Boxed2.app1 {A' : Option Addr} {n' c' : Nat} {X' : List Int} (h : Boxed2 w0 w g tb A n c X B m d Y u) (ho : OwnR (Value.int .i64) w' (g + 1) 3 A' n' c' X') (hg : w.grownBy w' (Value.slice A n c).ownBlock)
    (hd : (Value.slice A' n' c').ownBlock = (Value.slice A n c).ownBlock ∨ (Value.slice A' n' c').ownBlock = some w.heap.size) : Boxed2 w0 (w'.setCell ⟨g, 0, none⟩ (.slice A' n' c')) g tb A' n' c' X' B m d Y u :=
  ⟨(h.bel.trans ((h.low hg).mono (by have := h.lt; omega))).setCell (p := ⟨g, 0, none⟩) h.lt _, (h.row.below (h.low hg) (Nat.lt_succ_self g)).put 0 _, (h.tr.app ho hg hd).setLow (Nat.lt_succ_self g) _, h.lt⟩
theorem Boxed2.app2 {B' : Option Addr} {m' d' : Nat} {Y' : List Int} (h : Boxed2 w0 w g tb A n c X B m d Y u) (ho : OwnR (Value.int .i64) w' (g + 1) 3 B' m' d' Y') (hg : w.grownBy w' (Value.slice B m d).ownBlock)
    (hd : (Value.slice B' m' d').ownBlock = (Value.slice B m d).ownBlock ∨ (Value.slice B' m' d').ownBlock = some w.heap.size) : Boxed2 w0 (w'.setCell ⟨g, 1, none⟩ (.slice B' m' d')) g tb A n c X B' m' d' Y' u :=
  ⟨(h.bel.trans ((h.low2 hg).mono (by have := h.lt; omega))).setCell (p := ⟨g, 1, none⟩) h.lt _, (h.row.below (h.low2 hg) (Nat.lt_succ_self g)).put 1 _, ((h.tr.rot.app ho hg hd).rot.rot).setLow (Nat.lt_succ_self g) _, h.lt⟩
end
/-- where a variable is put -/
def gapAt (S : List Int) (v : Int) : Nat := S.findIdx fun x => decide (v < x)
theorem gapAt_le (S : List Int) (v : Int) : gapAt S v ≤ S.length := List.findIdx_le_length
theorem gapAt_lo {S : List Int} {v : Int} {i : Nat} (h : i < gapAt S v) : ¬ v < nth S i := by
  have h1 := List.not_of_lt_findIdx h
  have hi : i < S.length := Nat.lt_of_lt_of_le h (gapAt_le S v)
  rw [nth_eq hi]
  simpa using h1
theorem gapAt_hi {S : List Int} {v : Int} (h : gapAt S v < S.length) : v < nth S (gapAt S v) := by
  rw [nth_eq h]
  exact of_decide_eq_true (List.findIdx_getElem (p := fun x => decide (v < x)) (w := h))
/-- what has been told when i have been gone through -/
def putL {α : Type} (S : List α) (v : α) (p i : Nat) : List α := if i ≤ p then S.take i else S.take p ++ v :: (S.drop p).take (i - p)
def midL {α : Type} (S : List α) (v : α) (p i : Nat) : List α := if i < p then S.take i else S.take p ++ v :: (S.drop p).take (i - p)
section
variable {α : Type} {S : List α} {v : α} {p i : Nat}
theorem putL_mid (h : i ≠ p) : putL S v p i = midL S v p i := by
  unfold putL midL
  by_cases h1 : i ≤ p
  · rw [if_pos h1, if_pos (by omega)]
  · rw [if_neg h1, if_neg (by omega)]
theorem midL_at : midL S v p p = putL S v p p ++ [v] := by unfold putL midL; simp
theorem midL_step [Inhabited α] (h : i < S.length) : midL S v p i ++ [nth S i] = putL S v p (i + 1) := by
  unfold putL midL
  by_cases h1 : i < p
  · rw [if_pos h1, if_pos (by omega), take_snoc h]
  · rw [if_neg h1, if_neg (by omega), show i + 1 - p = (i - p) + 1 by omega, take_snoc (by rw [List.length_drop]; omega), nth_drop, show p + (i - p) = i by omega]
    simp
theorem putL_end (h : p < S.length) : putL S v p S.length = S.take p ++ v :: S.drop p := by
  unfold putL
  rw [if_neg (by omega), List.take_of_length_le (l := S.drop p) (by rw [List.length_drop]; exact Nat.le_refl _)]
theorem putL_all : putL S v S.length S.length ++ [v] = S.take S.length ++ v :: S.drop S.length := by
  unfold putL; simp
theorem putL_length (h : p ≤ S.length) (hi : i ≤ S.length) : (putL S v p i).length = if i ≤ p then i else i + 1 := by
  unfold putL
  by_cases h1 : i ≤ p
  · rw [if_pos h1, if_pos h1, List.length_take]; omega
  · rw [if_neg h1, if_neg h1]; simp; omega
theorem midL_length (h : p ≤ S.length) (hi : i ≤ S.length) : (midL S v p i).length = if i < p then i else i + 1 := by
  unfold midL
  by_cases h1 : i < p
  · rw [if_pos h1, if_pos h1, List.length_take]; omega
  · rw [if_neg h1, if_neg h1]; simp; omega
end
end Go.Proofs.Ytgmchedfgdgenaa
/- credencelaw13.digits, walked. Condition: not below 0. -/
namespace Go.Proofs.Ytgmchedfgdgenaa
open Go.RowKit

/-- one digit -/
def dig1 (n : Nat) : ByteArray := ByteArray.extract ⟨#[48, 49, 50, 51, 52, 53, 54, 55, 56, 57]⟩ n (n + 1)
/-- a number's digits -/
def digT (n : Nat) : ByteArray := if n < 10 then dig1 n else digT (n / 10) ++ dig1 (n % 10)
termination_by n
decreasing_by omega
theorem digT_lt {n : Nat} (h : n < 10) : digT n = dig1 n := by rw [digT, if_pos h]
theorem digT_ge {n : Nat} (h : ¬ n < 10) : digT n = digT (n / 10) ++ dig1 (n % 10) := by rw [digT, if_neg h]
theorem dig1_size (n : Nat) : (dig1 n).size ≤ 1 := by unfold dig1; rw [ByteArray.size_extract]; omega
theorem digT_size : ∀ (f n : Nat), n < f → (digT n).size ≤ n + 1
  | 0, n, h => absurd h (Nat.not_lt_zero n)
  | f + 1, n, h => by
    have h1 := dig1_size n
    have h2 := dig1_size (n % 10)
    by_cases h10 : n < 10
    · rw [digT_lt h10]; omega
    · have h3 := digT_size f (n / 10) (by omega)
      rw [digT_ge h10, ByteArray.size_append]
      omega
set_option maxRecDepth 100000 in
set_option maxHeartbeats 200000 in
theorem digits_any : ∀ (f n : Nat), n < f → n < 9223372036854775808 → ∀ (w : World), Calls Try.prog 12 #[.int .i64 (n : Int)] w fun e w' => e = .returned (.string (digT n)) ∧ Below w.heap.size w w'
  | 0, n, h, _, _ => absurd h (Nat.not_lt_zero n)
  | f + 1, n, h, hb, w => by
    by_cases h10 : n < 10
    · rw [digT_lt h10]
      have h1 : ((n : Nat) : Int) < 10 := by omega
      have h2 : (0 : Int) ≤ (n : Nat) := by omega
      go_enter Try.func12, Try.ntmps12
      go_wp2_with fail
      go_ret
      exact ⟨rfl, Below.refl _ _⟩
    · have h1 : ¬ ((n : Nat) : Int) < 10 := by omega
      obtain ⟨k, hk⟩ : ∃ k, k = n % 10 := ⟨_, rfl⟩
      obtain ⟨q, hq⟩ : ∃ q, q = n / 10 := ⟨_, rfl⟩
      have ih := digits_any f q (by omega) (by omega)
      have hD : digT n = digT q ++ dig1 k := by rw [hk, hq]; exact digT_ge h10
      rw [hD]
      have k1 : ((k : Nat) : Int) < 10 := by omega
      have k2 : (0 : Int) ≤ (k : Nat) := by omega
      have k3 : ((k : Nat) : Int) + 1 ≤ 10 := by omega
      have k4 : (0 : Int) ≤ (k : Nat) + 1 := by omega
      have k5 : ((k : Nat) : Int) ≤ (k : Nat) + 1 := by omega
      have e1 : Int.tmod (n : Int) 10 = (k : Nat) := by rw [hk]; rfl
      have e2 : Int.tdiv (n : Int) 10 = (q : Nat) := by rw [hq]; rfl
      have e3 : (n : Int) % 10 = (k : Nat) := by omega
      have e4 : (n : Int) / 10 = (q : Nat) := by omega
      have e5 : IntKind.i64.wrap ((q : Nat) : Int) = (q : Nat) := by simp [IntKind.wrap, IntKind.bits, IntKind.signed]; omega
      have e6 : IntKind.i64.wrap (((k : Nat) : Int) + 1) = (k : Nat) + 1 := by simp [IntKind.wrap, IntKind.bits, IntKind.signed]; omega
      have z1 := digT_size (q + 1) q (by omega)
      have z2 := dig1_size k
      have z3 : (digT q).size + (dig1 k).size ≤ 9223372036854775807 := by omega
      have z4 : ¬ 9223372036854775807 < (digT q).size + (dig1 k).size := by omega
      unfold dig1 at z3 z4
      have z5 : ¬ 9223372036854775807 < (digT q).size + (min (k + 1) 10 - k) := by omega
      have z6 : min (k + 1) 10 = k + 1 := by omega
      have z7 : ¬ 9223372036854775807 < (digT q).size + 1 := by omega
      have z8 : ¬ 9223372036854775807 < (digT q).size + (k + 1 - k) := by omega
      rw [show dig1 k = ByteArray.extract ⟨#[48, 49, 50, 51, 52, 53, 54, 55, 56, 57]⟩ k (k + 1) from rfl]
      have ih := Lib.hid ih
      clear hk hq hD h10 h hb
      go_enter Try.func12, Try.ntmps12
      go_wp2_with fail
      go_region_held3 (fun w' => Below w.heap.size w w') (first | assumption | exact below_refl_drewN _ _ 1 | go_keep)
        (first
          | ((go_at_call 12); (with_reducible refine (ih.out _).mono ?_); (rintro e w1 ⟨rfl, hb1⟩); (have hB : Below w.heap.size w w1 := (below_refl_drewN w.heap.size w 1).trans hb1)))
      go_wp2_with fail
      go_ret
      exact ⟨rfl, by assumption⟩
end Go.Proofs.Ytgmchedfgdgenaa
/- credenceref13.Ints and shape, walked. No condition. -/
namespace Go.Proofs.Ytgmchedfgdgenaa
open Go.RowKit

set_option maxRecDepth 100000 in
theorem rints_any (A A' : Option Addr) (n c n' c' : Nat) (xs ys : List Int) (w : World) (hx : Sl (Value.int .i64) w A n xs) (hy : Sl (Value.int .i64) w A' n' ys) :
    Calls Try.prog 16 #[.slice A n c, .slice A' n' c'] w fun e w' => e = .returned (.bool (decide (xs = ys))) ∧ ∃ k, w' = w.drewN k := by
  obtain ⟨lx, bx, ax⟩ := hx
  obtain ⟨ly, bY, ay⟩ := hy
  by_cases hnn : n = n'
  · subst hnn
    have HL := Lib.hid (And.intro lx ly); clear lx ly
    go_enter Try.func16, Try.ntmps16
    go_wp2
    go_loopw [5] (fun i wr => ∃ k m : Nat, k ≤ n ∧ i = .int .i64 k ∧ wr = w.drewN m ∧ ∀ j, j < k → nth xs j = nth ys j) (fun i _ => n - (intOf i).toNat)
    case atStart => exact ⟨0, 0, Nat.zero_le _, rfl, rfl, by intro j hj; omega⟩
    case round =>
      obtain ⟨k, m, hk, rfl, rfl, heq⟩ := hrel
      have HQ := Lib.hid heq; clear heq
      by_cases hlt : k < n
      · obtain ⟨b, off, rfl, hb, hc⟩ := ax (by omega)
        obtain ⟨b', off', rfl, hb', hc'⟩ := ay (by omega)
        have g1 := hc k hlt
        have g2 := hc' k hlt
        clear hc hc' ax ay
        go_wp2
        go_quiet (fail)
        go_wp2
        · go_ret
          refine ⟨ret_bool ?_, ⟨_, World.drewN_drewN _ _ _⟩⟩
          have hne : nth xs k ≠ nth ys k := by
            have h : (nth xs k != nth ys k) = true := by assumption
            simpa using h
          have : xs ≠ ys := by rintro rfl; exact hne rfl
          simp [this]
        · have he : nth xs k = nth ys k := by
            have h : (nth xs k != nth ys k) = false := by assumption
            simpa using h
          go_roundw
          case rel => exact ⟨k + 1, m + nq, by omega, by go_num, rfl, fun j hj => by
            by_cases h : j < k
            · exact HQ.out j h
            · obtain rfl : j = k := by omega
              exact he⟩
          case measure => simp [intOf]; omega
      · clear ax ay
        go_wp2
        go_ret
        refine ⟨ret_bool ?_, ⟨_, rfl⟩⟩
        have : xs = ys := nth_ext (by rw [HL.out.1, HL.out.2]) (fun j hj => HQ.out j (by have := HL.out.1; omega))
        simp [this]
  · have hne : ((n : Int) != (n' : Int)) = true := by rw [bne_iff_ne]; omega
    go_enter Try.func16, Try.ntmps16
    go_wp2
    go_ret
    refine ⟨ret_bool ?_, 0, rfl⟩
    have : xs ≠ ys := by intro h; rw [h] at lx; omega
    simp [this]


set_option maxRecDepth 100000 in
set_option maxHeartbeats 400000 in
theorem shape_any (A1 A2 A3 : Option Addr) (n1 c1 n2 c2 n3 c3 : Nat) (w : World) :
    Calls Try.prog 9 #[.agg #[.slice A1 n1 c1, .slice A2 n2 c2, .slice A3 n3 c3]] w fun e w' => e = .returned (.agg #[.slice A1 n1 c1, .slice A2 n2 c2, .int .i64 (n3 : Int)]) ∧ Below w.heap.size w w' := by
  have H1 := (Held.init w).new 24 [.slice A1 n1 c1, .slice A2 n2 c2, .slice A3 n3 c3]
  have H := H1.new 29 [.slice A1 n1 c1, .slice A2 n2 c2, .int .i64 (n3 : Int)]
  rw [show (w.alloc (.cells [.slice A1 n1 c1, .slice A2 n2 c2, .slice A3 n3 c3].toArray 24)).heap.size = w.heap.size + 1 from by simp] at H
  clear H1
  have r0 := H.has.1.cell 0
  have r1 := H.has.1.cell 1
  have r2 := H.has.1.cell 2
  have HB := Lib.hid H.bel
  clear H
  go_enter Try.func9, Try.ntmps9
  go_wp2_with fail
  exact bodyPost_ret (v := .agg #[.slice A1 n1 c1, .slice A2 n2 c2, .int .i64 (n3 : Int)]) (by simp [results, Try.results9, go_sem, r0, r1, r2]) rfl ⟨rfl, HB.out⟩
end Go.Proofs.Ytgmchedfgdgenaa
/- ring.Ints.Same; cellsAre[int], walked. No condition. -/
namespace Go.Proofs.Ytgmchedfgdgenaa
open Go.RowKit

theorem Sl.cellI {w : World} {b off n j : Nat} {xs : List Int} (h : Sl (Value.int .i64) w (some ⟨b, off, none⟩) n xs) (hj : j < n) : w.cell? ⟨b, off + j, none⟩ = some (.int .i64 (nth xs j)) := by
  obtain ⟨b', off', e, _, hc⟩ := h.at' (by omega)
  injection e with e
  injection e with e1 e2
  subst e1 e2
  exact hc j hj
theorem ahead_i (w : World) : (nilAhead 280 41 (.agg #[]) "Same").run Try.prog w = .ok (some false) w := by kernel_rfl
theorem method_i (w : World) : (method 280 41 (.agg #[]) "Same").run Try.prog w = .ok (119, .agg #[]) w := by kernel_rfl
set_option maxHeartbeats 400000 in
theorem same_i (r : Value) (a b : Int) (w : World) (hr : r = .agg #[]) : Calls Try.prog 119 #[r, .int .i64 a, .int .i64 b] w fun e w' => e = .returned (.bool (a == b)) ∧ Below w.heap.size w w' := by
  subst hr
  have H := (Held.init w).new 41 []
  have HB := Lib.hid H.bel
  clear H
  go_enter Try.func119, Try.ntmps119
  go_wp2_with fail
  go_ret
  exact ⟨rfl, HB.out⟩
set_option maxRecDepth 100000 in
set_option maxHeartbeats 400000 in
theorem cells_i (A B : Option Addr) (n c m d : Nat) (xs ys : List Int) (w : World) (hx : Sl (Value.int .i64) w A n xs) (hy : Sl (Value.int .i64) w B m ys) :
    Calls Try.prog 33 #[.iface 41 (.agg #[]), .slice A n c, .slice B m d] w fun e w' => e = .returned (.bool (decide (xs = ys))) ∧ Below w.heap.size w w' := by
  by_cases hnn : n = m
  · subst hnn
    have HL := Lib.hid (And.intro hx.len hy.len)
    have hbig := hx.big
    have H0 := ((Held.init w).sl hx).sl hy
    clear hx hy
    go_enter Try.func33, Try.ntmps33
    go_wp2_with fail
    go_loopw [7] (fun i wr => ∃ k : Nat, k ≤ n ∧ i = .int .i64 k ∧ Held w (fun w' => Sl (Value.int .i64) w' B n ys ∧ Sl (Value.int .i64) w' A n xs ∧ True) wr ∧ ∀ j, j < k → nth xs j = nth ys j) (fun i _ => n - (intOf i).toNat)
    case atStart => exact ⟨0, Nat.zero_le _, rfl, H0, by intro j hj; omega⟩
    case round =>
      obtain ⟨k, hk, rfl, H, heq⟩ := hrel
      have HQ := Lib.hid heq; clear heq H0
      by_cases hlt : k < n
      · obtain ⟨b, off, rfl, hb, hc⟩ := H.has.2.1.at' (by omega)
        obtain ⟨b', off', rfl, hb', hc'⟩ := H.has.1.at' (by omega)
        have g1 := hc k hlt
        have g2 := hc' k hlt
        clear hc hc'
        go_wp2_with fail
        have HD := Lib.hid H.drew
        have hna := ahead_i
        have hme := method_i
        go_region_held3 (fun w' => w'.cell? ⟨b, off + k, none⟩ = some (.int .i64 (nth xs k)) ∧ w'.cell? ⟨b', off' + k, none⟩ = some (.int .i64 (nth ys k)))
          (first | exact ⟨g1, g2⟩ | assumption | go_keep)
          (first
            | ((go_at_call 119); (with_reducible refine (same_i _ _ _ _ rfl).mono ?_); (rintro e w1 ⟨rfl, hb1⟩); (have H1 := HD.out.step hb1); (have g1 := H1.has.2.1.cellI hlt); (have g2 := H1.has.1.cellI hlt)))
        rcases hbe : (nth xs k == nth ys k) with _ | _
        · clear g1 g2
          go_wp2_with fail
          go_ret
          have hne : xs ≠ ys := by rintro rfl; simp at hbe
          exact ⟨ret_bool (by simp [hne]), H1.bel⟩
        · have he : nth xs k = nth ys k := by simpa using hbe
          clear g1 g2
          go_wp2_with fail
          go_roundw
          case rel => exact ⟨k + 1, by omega, by go_num, H1, fun j hj => by
            by_cases h : j < k
            · exact HQ.out j h
            · obtain rfl : j = k := by omega
              exact he⟩
          case measure => simp [intOf]; omega
      · go_wp2_with fail
        go_ret
        have : xs = ys := nth_ext (by rw [HL.out.1, HL.out.2]) (fun j hj => HQ.out j (by have := HL.out.1; omega))
        exact ⟨ret_bool (by simp [this]), H.bel⟩
  · have hne : ((n : Int) != (m : Int)) = true := by rw [bne_iff_ne]; omega
    have lx := hx.len
    have ly := hy.len
    clear hx hy
    go_enter Try.func33, Try.ntmps33
    go_wp2_with fail
    go_ret
    have : xs ≠ ys := by intro h; rw [h] at lx; omega
    exact ⟨ret_bool (by simp [this]), Below.refl _ _⟩
end Go.Proofs.Ytgmchedfgdgenaa
