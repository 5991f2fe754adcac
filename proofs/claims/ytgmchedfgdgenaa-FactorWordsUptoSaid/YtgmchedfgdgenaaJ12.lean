/- Joined by program out of: RDig, GivenM. What each says stands at its own head. -/
import Derived.Test.YtgmchedfgdgenaaJ11
import Derived.Test.YtgmchedfgdgenaaJ6
import Derived.Test.YtgmchedfgdgenaaJ10
/- The reference's Digits and part, walked. Conditions: the sizes are 1 or more, not too many; the place is there; the part's variables are the whole's. -/
namespace Go.Proofs.Ytgmchedfgdgenaa
open Go.RowKit
attribute [local go_sem] Oper.semAt_some

theorem wrap_nat {r : Nat} (h : r < 9223372036854775808) : wrap64 (r : Int) = (r : Int) := IntWalk.wrap64_in _ ⟨by omega, by omega⟩
set_option maxRecDepth 100000 in
set_option maxHeartbeats 1600000 in
theorem rdig_any (A : Option Addr) (n c : Nat) (Z : List Int) (a : Nat) (w : World) (h : Sl (Value.int .i64) w A n Z) (hb : n * 8 ≤ 140737488351232) (hz : ∀ z, z ∈ Z → 1 ≤ z) (hm : sufP Z 0 ≤ 2147483647) (ha : (a : Int) < sufP Z 0) :
    Calls Try.prog 77 #[.slice A n c, .int .i64 (a : Int)] w fun e w' => ∃ B, e = .returned (.tuple #[.slice B n n, .int .i64 0]) ∧ Sl (Value.int .i64) w' B n (dgL Z a) ∧ Below w.heap.size w w' := by
  have hcn : cntC Z = (sufP Z 0, 0) := by rw [cntC_eq hz, if_neg (by omega)]
  have hbig := h.big
  have hsp := sufP_pos hz 0
  obtain ⟨p, hp⟩ : ∃ p : Nat, sufP Z 0 = (p : Int) := ⟨(sufP Z 0).toNat, by omega⟩
  have ha2 : a < p := by omega
  have hap : a ≤ 2147483647 := by omega
  rw [hp] at hcn
  have HS := Lib.hid (And.intro h (And.intro h.len (And.intro hz hcn)))
  have hmk : 8 * n ≤ 281474976710656 := by omega
  clear h hz hcn hm ha hsp hp
  go_enter Try.func77, Try.ntmps77
  go_wp2_with fail
  refine (rcount_any A n c Z _ HS.out.1).mono ?_
  rintro e w1 ⟨rfl, rfl⟩
  rw [HS.out.2.2.2]
  have dge : decide ((p : Int) ≤ (a : Int)) = false := by simp; omega
  have dlt : decide ((a : Int) < 0) = false := by simp
  have dge2 : ¬ p ≤ a := by omega
  go_wp2_with (first
    | (at_make; refine wpList_mk _ eiI (Value.int .i64) 0 rfl rfl _ _ rfl n rfl rfl hmk ?_)
    | fail)
  intro wv hr hbv
  have HR := Lib.hid (And.intro hr hbv)
  clear hr hbv
  go_wp2_with fail
  go_loopw [1, 9] (fun r i wr => ∃ m : Nat, m ≤ n ∧ i = .int .i64 ((m : Int) - 1) ∧ r = .int .i64 ((qF Z a (n - m) : Nat) : Int) ∧ qF Z a (n - m) ≤ a ∧ RowAt (Value.int .i64) wr w.heap.size 3 (dgFrom Z a m) [] ∧ Below w.heap.size w wr) (fun _ i _ => (intOf i + 1).toNat)
  case atStart => exact ⟨n, Nat.le_refl _, rfl, by first | (rw [Nat.sub_self]; rfl) | rw [Nat.sub_self], by rw [Nat.sub_self]; exact Nat.le_refl _, by rw [← HS.out.2.1, dgFrom_all, HS.out.2.1]; exact HR.out.1, HR.out.2⟩
  case round =>
    obtain ⟨m, hm, rfl, rfl, hqle, hrow, hbr⟩ := hrel
    rcases m with _ | m
    · rw [dgFrom_zero] at hrow
      have sv : Sl (Value.int .i64) wr (some ⟨w.heap.size, 0, none⟩) n (dgL Z a) := by
        have h1 := hrow.sl (by rw [dgL_length, HS.out.2.1]; omega)
        rw [dgL_length, HS.out.2.1] at h1
        exact h1
      have HB := Lib.hid (And.intro sv hbr)
      clear sv hrow hbr
      have e0 : ((0 : Nat) : Int) - 1 = -1 := rfl
      rw [e0]
      clear e0
      go_wp2_with fail
      go_ret2
      exact ⟨_, rfl, HB.out.1, HB.out.2⟩
    · have hmZ : m < Z.length := by rw [HS.out.2.1]; omega
      obtain ⟨z, hz⟩ : ∃ z : Nat, nth Z m = (z : Int) := ⟨(nth Z m).toNat, by have := HS.out.2.2.1 _ (nth_mem hmZ); omega⟩
      have hz1 : 1 ≤ z := by have := HS.out.2.2.1 _ (nth_mem hmZ); omega
      obtain ⟨bz, oz, rfl, hblt, hcz⟩ := HS.out.1.at' (by omega)
      have g0 := hcz m (by omega)
      rw [hz] at g0
      have g1 : wr.cell? ⟨bz, oz + m, none⟩ = some (.int .i64 (z : Int)) := (hbr.cell (p := ⟨bz, oz + m, none⟩) hblt).trans g0
      clear g0
      obtain ⟨r, hr⟩ : ∃ r, r = qF Z a (n - (m + 1)) := ⟨_, rfl⟩
      rw [← hr] at hqle ⊢
      obtain ⟨dm, hdm⟩ : ∃ dm, dm = r % z := ⟨_, rfl⟩
      obtain ⟨r2, hr2⟩ : ∃ r2, r2 = r / z := ⟨_, rfl⟩
      have e1 : (r : Int) % (z : Int) = (dm : Int) := by rw [hdm]; simp
      have e2 : (r : Int) / (z : Int) = (r2 : Int) := by rw [hr2]; simp
      have e3 : ((m + 1 : Nat) : Int) - 1 = (m : Int) := by omega
      have hdg : dgAt Z a m = (dm : Int) := by
        unfold dgAt
        rw [HS.out.2.1, hz, hdm, hr, show n - 1 - m = n - (m + 1) by omega]
        simp
      have hset := hrow.set (j := m) (by rw [dgFrom_length]; exact hmZ) (dm : Int)
      rw [← hdg, dgFrom_step] at hset
      have hqn : qF Z a (n - m) = r2 := by
        rw [show n - m = (n - (m + 1)) + 1 by omega]
        show qF Z a (n - (m + 1)) / (nth Z (Z.length - 1 - (n - (m + 1)))).toNat = r2
        rw [HS.out.2.1, show n - 1 - (n - (m + 1)) = m by omega, hz, ← hr, hr2]
        simp
      have hle2 : r2 ≤ a := by rw [hr2]; exact Nat.le_trans (Nat.div_le_self _ _) hqle
      have x0 := hrow.cell (j := m) (by rw [dgFrom_length]; exact hmZ)
      have f0 := hrow.frozen m
      have hne : ((z : Int) == 0) = false := by simp; omega
      have hne2 : ¬ z = 0 := by omega
      have hmu : m < n := by omega
      have hcw := hbr.setCell (p := ⟨w.heap.size, m, none⟩) (Nat.le_refl _) (.int .i64 (dm : Int))
      rw [hdg] at hset
      have g2 : (wr.setCell ⟨w.heap.size, m, none⟩ (.int .i64 (dm : Int))).cell? ⟨bz, oz + m, none⟩ = some (.int .i64 (z : Int)) := by
        rw [cell_farN (by omega)]
        exact g1
      have HE := Lib.hid (And.intro hset (And.intro hqn (And.intro hle2 hcw)))
      have hw2 := wrap_nat (r := r2) (by omega)
      rw [e3]
      clear hr hdm hr2 hdg hset hqn hle2 hcw hrow hbr hcz hz e3
      go_wp2_with fail
      exact ⟨⟨m, by omega, rfl, by rw [HE.out.2.1]; first | rfl | rw [hw2], by rw [HE.out.2.1]; exact HE.out.2.2.1, HE.out.1, HE.out.2.2.2⟩, by simp [intOf]⟩
theorem findF_shift (v : Int) : ∀ (xs : List Int) (j : Nat), (∀ i, i < xs.length → nth xs i ≠ v) → findF v xs j = -1
  | [], _, _ => rfl
  | x :: xs, j, h => by
    rw [findF, if_neg (by have := h 0 (by simp); simpa [nth] using this)]
    exact findF_shift v xs (j + 1) fun i hi => by have := h (i + 1) (by simpa using hi); simpa [nth] using this
theorem findF_at {xs : List Int} {v : Int} {p : Nat} (hn : xs.Nodup) (hp : p < xs.length) (hv : nth xs p = v) : findF v xs 0 = (p : Int) := by
  have h : ∀ k, k ≤ p → findF v xs 0 = findF v (xs.drop k) k := by
    intro k
    induction k with
    | zero => intro _; simp
    | succ k ih =>
      intro hk
      rw [ih (by omega), findF_drop (by omega), if_neg]
      intro e
      rw [nth_eq (by omega)] at e
      rw [nth_eq hp] at hv
      have := (List.getElem_inj hn).1 (e.trans hv.symm)
      omega
  rw [h p (Nat.le_refl _), findF_drop hp, if_pos hv]
theorem findF_none {xs : List Int} {v : Int} (h : v ∉ xs) : findF v xs 0 = -1 := findF_shift v xs 0 fun _ hi e => h (e ▸ nth_mem hi)
set_option maxRecDepth 100000 in
set_option maxHeartbeats 800000 in
theorem part_any (A B C : Option Addr) (n c c2 q c3 : Nat) (U d of : List Int) (w : World) (hU : Sl (Value.int .i64) w A n U) (hd : Sl (Value.int .i64) w B n d) (ho : Sl (Value.int .i64) w C q of) (hb : q * 8 ≤ 140737488351232) (hn : U.Nodup) (hs : ∀ x, x ∈ of → x ∈ U) :
    Calls Try.prog 79 #[.slice A n c, .slice B n c2, .slice C q c3] w fun e w' => ∃ D k, e = .returned (.slice D q k) ∧ OwnR (Value.int .i64) w' w.heap.size 3 D q k (of.map (asg U d)) ∧ Below w.heap.size w w' := by
  have HS := Lib.hid (And.intro hU (And.intro hd ho))
  have big1 := hU.big
  have big2 := ho.big
  have HL := Lib.hid (And.intro hU.len (And.intro hd.len (And.intro ho.len (And.intro hn hs))))
  clear hU hd ho hn hs
  go_enter Try.func79, Try.ntmps79
  go_wp2_with fail
  go_loopw [7, 8] (fun l i wr => ∃ (a : Nat) (D : Option Addr) (k : Nat), a ≤ q ∧ i = .int .i64 (a : Nat) ∧ l = .slice D a k ∧ OwnR (Value.int .i64) wr w.heap.size 3 D a k ((of.take a).map (asg U d)) ∧ Below w.heap.size w wr) (fun _ i _ => q - (intOf i).toNat)
  case atStart => exact ⟨0, none, 0, Nat.zero_le _, rfl, rfl, OwnR.nil _ _ _ _, Below.refl _ _⟩
  case round =>
    obtain ⟨a, D, k, ha, rfl, rfl, hO, hbr⟩ := hrel
    by_cases hlt : a < q
    · obtain ⟨u3, o3, rfl, _, hc3⟩ := (HS.out.2.2.below (Nat.le_refl _) hbr).at' (by omega)
      have g3 := hc3 a hlt
      have hsU := HS.out.1.below (Nat.le_refl _) hbr
      have hsd := HS.out.2.1.below (Nat.le_refl _) hbr
      have hao : a < of.length := by rw [HL.out.2.2.1]; exact hlt
      obtain ⟨p, hp, he⟩ := mem_nth (HL.out.2.2.2.2 _ (nth_mem hao))
      have hf := findF_at HL.out.2.2.2.1 hp he
      have has := asg_nth HL.out.2.2.2.1 (show U.length = d.length by rw [HL.out.1, HL.out.2.1]) hp
      rw [he] at has
      rw [HL.out.1] at hp
      obtain ⟨u2, o2, rfl, _, hc2⟩ := hsd.at' (by omega)
      have g2 := hc2 p hp
      have hst : (of.take (a + 1)).map (asg U d) = (of.take a).map (asg U d) ++ [nth d p] := by rw [take_snoc hao, List.map_append, List.map_cons, List.map_nil, has]
      have HP := Lib.hid (And.intro hsU (And.intro hf (And.intro hst (And.intro hO hbr))))
      have hq8 : (a + 1) * 8 ≤ 140737488355328 := by omega
      clear hc3 hsU hsd he hf has hc2 hst hO hbr hao
      go_wp2_with fail
      refine (find_any A n c U (nth of a) _ HP.out.1).mono ?_
      rintro e w2 ⟨rfl, rfl⟩
      rw [HP.out.2.1]
      have ho1 := HP.out.2.2.2.1.alloc (.cells #[.int .i64 (nth d p)] 3)
      have hsz1 := (HP.out.2.2.2.2.alloc HP.out.2.2.2.2.size (.cells #[.int .i64 (nth d p)] 3)).size
      go_wp2_with (first
        | (at_builtin; refine wpList_app _ eiI (Value.int .i64) (fun _ => rfl) rfl _ _ rfl w.heap.size _ _ _ _ rfl ho1 _ _ _ _ rfl (Sl.one (enc := Value.int .i64) _ _ _) hq8 hsz1 ?_)
        | fail)
      intro C9 k9 w9 ho9 _ hb9 _
      have ho9 : OwnR (Value.int .i64) w9 w.heap.size 3 C9 (a + 1) k9 ((of.take (a + 1)).map (asg U d)) := by rw [HP.out.2.2.1]; first | exact ho9 | (rw [List.map_take]; exact ho9)
      have HR := Lib.hid (And.intro ho9 ((HP.out.2.2.2.2.alloc HP.out.2.2.2.2.size (.cells #[.int .i64 (nth d p)] 3)).trans hb9))
      clear ho9 hb9 ho1 hsz1 hq8 g2 g3
      go_wp2_with fail
      exact ⟨⟨a + 1, C9, k9, by omega, by go_num, rfl, HR.out.1, HR.out.2⟩, by simp [intOf]; omega⟩
    · obtain rfl : a = q := by omega
      have HO := Lib.hid (And.intro hO hbr)
      clear hO hbr
      go_wp2_with fail
      go_ret
      have he : of.take a = of := List.take_of_length_le (by rw [HL.out.2.2.1]; exact Nat.le_refl _)
      have h1 := HO.out.1
      rw [he] at h1
      exact ⟨D, k, rfl, h1, HO.out.2⟩
end Go.Proofs.Ytgmchedfgdgenaa
/- What is wrong with fixing a variable, in plain words. No condition. -/
namespace Go.Proofs.Ytgmchedfgdgenaa
open Go.RowKit

/-- what is wrong with fixing, or 0 -/
def givenErr (S Z : List Int) (m : Nat) (v x : Int) : Int := if outErr S Z m v ≠ 0 then outErr S Z m v else if x < 0 ∨ nth Z (findF v S 0).toNat ≤ x then 3 else 0
theorem OutAt.find {S Z : List Int} {v : Int} {m p z step P : Nat} (h : OutAt S Z v m p z step P) (hn : S.Nodup) : findF v S 0 = (p : Int) := findF_at hn h.lt h.is
end Go.Proofs.Ytgmchedfgdgenaa
