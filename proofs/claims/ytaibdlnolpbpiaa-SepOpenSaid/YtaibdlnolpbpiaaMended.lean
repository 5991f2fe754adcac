/- credencelaw16's points, mended, walked: points out of any numbers; parents that may be, out of any. Conditions: the lists read, within Go's bound. -/
import Derived.Test.YtaibdlnolpbpiaaLawS3
import Derived.Deep.CutRange
namespace Go.Proofs.Ytaibdlnolpbpiaa
open Go.RowKit

theorem tmod_range (a : Int) {n : Int} (h : 0 < n) : -n < Int.tmod a n ∧ Int.tmod a n < n := by
  constructor
  · have h1 := Int.lt_tmod_of_pos a h
    omega
  · exact Int.tmod_lt_of_pos a h
def PointsPost (m n : Nat) (w : World) (e : Ending) (w' : World) : Prop :=
  ∃ B d ys, e = .returned (.slice B (if 0 < n then m else 0) d) ∧ OwnR (Value.int .i64) w' w.heap.size 3 B (if 0 < n then m else 0) d ys ∧ (∀ y, y ∈ ys → 0 ≤ y ∧ y < (n : Int)) ∧ Below w.heap.size w w'
set_option maxRecDepth 100000 in
set_option maxHeartbeats 400000 in
theorem points_any (A : Option Addr) (m c n : Nat) (xs : List Int) (w : World) (h : Sl (Value.int .i64) w A m xs) (hm : m * 8 ≤ 140737488351232) (hn : n ≤ 1048576) :
    Calls Try.prog 29 #[.slice A m c, .int .i64 n] w (PointsPost m n w) := by
  obtain ⟨wa, hwa⟩ : ∃ wa : World, wa = w := ⟨_, rfl⟩
  subst hwa
  have HL := Lib.hid h
  clear h
  rcases Nat.eq_zero_or_pos n with rfl | h0
  · go_enter Try.func29, Try.ntmps29
    go_wp2_with fail
    go_loopw [5, 6] (fun v i wr => v = .slice none 0 0 ∧ i = .int .i64 0 ∧ wr = wa) (fun _ i _ => 0)
    case atStart => exact ⟨rfl, rfl, rfl⟩
    case round =>
      obtain ⟨rfl, rfl, hwr⟩ := hrel
      have hwr := hwr.symm
      subst hwr
      by_cases hm0 : (0 : Int) < (m : Nat)
      · go_wp2_with fail
        go_ret
        exact ⟨none, 0, [], rfl, OwnR.nil _ _ _ _, by simp, Below.refl _ _⟩
      · go_wp2_with fail
        go_ret
        exact ⟨none, 0, [], rfl, OwnR.nil _ _ _ _, by simp, Below.refl _ _⟩
  · have hn0 : (0 : Int) < (n : Nat) := by omega
    have hnn : ¬ ((n : Int) = 0) := by omega
    go_enter Try.func29, Try.ntmps29
    go_wp2_with fail
    go_loopw [5, 6] (fun v i wr => ∃ (k d : Nat) (B : Option Addr) (ys : List Int), i = .int .i64 (k : Nat) ∧ v = .slice B k d ∧ k ≤ m ∧ OwnR (Value.int .i64) wr wa.heap.size 3 B k d ys ∧ (∀ y, y ∈ ys → 0 ≤ y ∧ y < (n : Int)) ∧ Below wa.heap.size wa wr) (fun _ i _ => m - (intOf i).toNat)
    case atStart => exact ⟨0, 0, none, [], rfl, rfl, Nat.zero_le _, OwnR.nil _ _ _ _, by simp, Below.refl _ _⟩
    case round =>
      obtain ⟨k, d, B, ys, rfl, rfl, hk, ho, hys, hb⟩ := hrel
      obtain ⟨wb, hwb⟩ : ∃ wb : World, wb = wr := ⟨_, rfl⟩
      subst hwb
      by_cases hlt : k < m
      · obtain ⟨b, off, rfl, _, hc⟩ := (HL.out.below (Nat.le_refl _) hb).at' (by omega)
        have g1 := hc k hlt
        generalize nth xs k = x at *
        clear hc
        have hr := tmod_range x hn0
        obtain ⟨y, hy⟩ : ∃ y, y = Int.tmod x n := ⟨_, rfl⟩
        rw [← hy] at hr
        have hsz := hb.size
        have hk8 : (k + 1) * 8 ≤ 140737488355328 := by omega
        by_cases hneg : y < 0
        · have hw : wrap64 (Int.tmod x n + n) = Int.tmod x n + n := by rw [← hy]; unfold wrap64; omega
          have hneg2 : Int.tmod x n < 0 := by rw [← hy]; exact hneg
          have ho1 := ho.alloc (.cells #[.int .i64 (Int.tmod x n + n)] 3)
          have hbase : wa.heap.size ≤ (wb.alloc (.cells #[.int .i64 (Int.tmod x n + n)] 3)).heap.size := by simp; omega
          have HB := Lib.hid (And.intro hys (And.intro hb (And.intro hy hr)))
          clear hys hb ho hy
          go_wp2_with (first
            | (at_builtin; refine wpList_app _ eiInt (Value.int .i64) (fun _ => rfl) rfl _ _ rfl wa.heap.size _ _ _ _ rfl ho1 _ _ _ _ rfl (Sl.one (enc := Value.int .i64) _ _ _) hk8 hbase ?_)
            | fail)
          intro A9 c9 w9 ho9 _ hb9 _
          obtain ⟨hys, hb, hy, _⟩ := HB.out
          have hbf := (hb.alloc hsz (.cells #[.int .i64 (Int.tmod x n + n)] 3)).trans hb9
          have hyf : ∀ z, z ∈ ys ++ [Int.tmod x n + n] → 0 ≤ z ∧ z < (n : Int) := fun z hz => by
            rcases List.mem_append.1 hz with h1 | h1
            · exact hys z h1
            · rw [List.mem_singleton] at h1; subst h1; rw [← hy]; omega
          have HF := Lib.hid (And.intro ho9 (And.intro hyf hbf))
          clear ho9 hb9 hbf hyf hys hb hy ho1
          go_wp2_with fail
          exact ⟨⟨k + 1, c9, A9, _, by go_num, rfl, by omega, HF.out.1, HF.out.2.1, HF.out.2.2⟩, by simp [intOf]; omega⟩
        · have hneg2 : ¬ Int.tmod x n < 0 := by rw [← hy]; exact hneg
          have ho1 := ho.alloc (.cells #[.int .i64 (Int.tmod x n)] 3)
          have hbase : wa.heap.size ≤ (wb.alloc (.cells #[.int .i64 (Int.tmod x n)] 3)).heap.size := by simp; omega
          have HB := Lib.hid (And.intro hys (And.intro hb (And.intro hy hr)))
          clear hys hb ho hy
          go_wp2_with (first
            | (at_builtin; refine wpList_app _ eiInt (Value.int .i64) (fun _ => rfl) rfl _ _ rfl wa.heap.size _ _ _ _ rfl ho1 _ _ _ _ rfl (Sl.one (enc := Value.int .i64) _ _ _) hk8 hbase ?_)
            | fail)
          intro A9 c9 w9 ho9 _ hb9 _
          obtain ⟨hys, hb, hy, _⟩ := HB.out
          have hbf := (hb.alloc hsz (.cells #[.int .i64 (Int.tmod x n)] 3)).trans hb9
          have hyf : ∀ z, z ∈ ys ++ [Int.tmod x n] → 0 ≤ z ∧ z < (n : Int) := fun z hz => by
            rcases List.mem_append.1 hz with h1 | h1
            · exact hys z h1
            · rw [List.mem_singleton] at h1; subst h1; rw [← hy]; omega
          have HF := Lib.hid (And.intro ho9 (And.intro hyf hbf))
          clear ho9 hb9 hbf hyf hys hb hy ho1
          go_wp2_with fail
          exact ⟨⟨k + 1, c9, A9, _, by go_num, rfl, by omega, HF.out.1, HF.out.2.1, HF.out.2.2⟩, by simp [intOf]; omega⟩
      · obtain rfl : k = m := by omega
        have HB := Lib.hid (And.intro ho (And.intro hys hb))
        clear ho hys hb
        go_wp2_with fail
        go_ret
        exact ⟨B, d, ys, by rw [if_pos h0]; rfl, by rw [if_pos h0]; exact HB.out.1, HB.out.2.1, HB.out.2.2⟩

/-- a slice of slices of the call's own, each slice in a row of the call's own -/
structure Mats (w : World) (base : Nat) (A : Option Addr) (n c : Nat) (Ps : List (List Int)) (vs : List (Option Addr × Nat × Nat)) : Prop where
  out : OwnR eS w base 23 A n c vs
  row : ∀ i, i < n → OwnR (Value.int .i64) w base 3 (nth vs i).1 (nth vs i).2.1 (nth vs i).2.2 (nth Ps i)
  len : Ps.length = n
theorem Mats.below {w w' : World} {base : Nat} {A : Option Addr} {n c : Nat} {Ps : List (List Int)} {vs : List (Option Addr × Nat × Nat)} (h : Mats w base A n c Ps vs) (hb : Below w.heap.size w w') : Mats w' base A n c Ps vs :=
  ⟨h.out.below (Nat.le_refl _) hb, fun i hi => (h.row i hi).below (Nat.le_refl _) hb, h.len⟩
instance {base : Nat} {A : Option Addr} {n c : Nat} {Ps : List (List Int)} {vs : List (Option Addr × Nat × Nat)} : Stable (fun w => Mats w base A n c Ps vs) := ⟨fun hb h => h.below hb⟩
theorem Mats.rows {w : World} {base : Nat} {A : Option Addr} {n c : Nat} {Ps : List (List Int)} {vs : List (Option Addr × Nat × Nat)} (h : Mats w base A n c Ps vs) (hn : n ≤ 140737488351232) (hb : ∀ i, i < n → (nth Ps i).length ≤ 140737488351232) : Rows (Value.int .i64) w A n Ps := by
  refine ⟨⟨vs, h.out.sl hn, fun i hi => ?_⟩, h.len⟩
  have h1 := h.row i hi
  have h2 := h1.length
  exact ⟨h1.sl (by have := hb i hi; omega), h1.cap⟩
/-- each point hangs on points ahead of it, on at most four, none twice -/
def Mend (Ps : List (List Int)) : Prop := ∀ i, i < Ps.length → (∀ p, p ∈ nth Ps i → 0 ≤ p ∧ p < (i : Int)) ∧ (nth Ps i).Nodup ∧ (nth Ps i).length ≤ 4
theorem Mend.snoc {Ps : List (List Int)} (h : Mend Ps) {l : List Int} (h1 : ∀ p, p ∈ l → 0 ≤ p ∧ p < (Ps.length : Int)) (h2 : l.Nodup) (h3 : l.length ≤ 4) : Mend (Ps ++ [l]) := by
  intro i hi
  rw [List.length_append, List.length_singleton] at hi
  rcases Nat.lt_or_ge i Ps.length with h4 | h4
  · rw [nth_append_left h4]; exact h i h4
  · obtain rfl : i = Ps.length := by omega
    rw [nth_append_right (Nat.le_refl _), Nat.sub_self]
    exact ⟨h1, h2, h3⟩
/-- behind an append of a new row -/
theorem Mats.snoc {w w' : World} {base : Nat} {A A' : Option Addr} {n c c' : Nat} {Ps : List (List Int)} {vs : List (Option Addr × Nat × Nat)} (h : Mats w base A n c Ps vs) {R : Option Addr} {m d : Nat} {l : List Int} (hr : OwnR (Value.int .i64) w base 3 R m d l) (ho : OwnR eS w' base 23 A' (n + 1) c' (vs ++ [(R, m, d)]))
    (hg : (w.alloc (.cells #[.slice R m d] 23)).grownBy w' (Value.slice A n c).ownBlock) (hne : (3 : TypeId) ≠ 23) : Mats w' base A' (n + 1) c' (Ps ++ [l]) (vs ++ [(R, m, d)]) := by
  have hvl := h.out.length
  have keep : ∀ {X : Option Addr} {a b : Nat} {ys : List Int}, OwnR (Value.int .i64) w base 3 X a b ys → OwnR (Value.int .i64) w' base 3 X a b ys := fun {X a b ys} hX =>
    (hX.alloc (.cells #[.slice R m d] 23)).grown hg fun g e e2 => by
      have h2 := h.out.ownBlock_eq e2
      exact hX.kinds h.out hne e h2
  refine ⟨ho, fun i hi => ?_, by rw [List.length_append, h.len]; rfl⟩
  rcases Nat.lt_or_ge i n with h1 | h1
  · rw [nth_append_left (by omega), nth_append_left (by rw [h.len]; exact h1)]
    exact keep (h.row i h1)
  · obtain rfl : i = n := by omega
    rw [nth_append_right (by omega), nth_append_right (by rw [h.len]; exact Nat.le_refl _), hvl, h.len, Nat.sub_self]
    exact keep hr

def MendedPost (n : Nat) (w : World) (e : Ending) (w' : World) : Prop :=
  ∃ B k d Ms vs, e = .returned (.slice B k d) ∧ k = min n 30 ∧ Mats w' w.heap.size B k d Ms vs ∧ Mend Ms ∧ Below w.heap.size w w'
set_option maxRecDepth 100000 in
set_option maxHeartbeats 800000 in
theorem mended_any (A : Option Addr) (n c : Nat) (Ps : List (List Int)) (w : World) (h : Rows (Value.int .i64) w A n Ps) :
    Calls Try.prog 28 #[.slice A n c] w (MendedPost n w) := by
  obtain ⟨wa, hwa⟩ : ∃ wa : World, wa = w := ⟨_, rfl⟩
  subst hwa
  have hbig := h.big
  have HL := Lib.hid h
  clear h
  go_enter Try.func28, Try.ntmps28
  go_wp2_with fail
  go_loopw [3, 4] (fun v i wr => ∃ (k d : Nat) (B : Option Addr) (Ms : List (List Int)) (vs : List (Option Addr × Nat × Nat)), i = .int .i64 (k : Nat) ∧ v = .slice B k d ∧ k ≤ n ∧ k ≤ 30 ∧ Mats wr wa.heap.size B k d Ms vs ∧ Mend Ms ∧ Below wa.heap.size wa wr) (fun _ i _ => n - (intOf i).toNat)
  case atStart => exact ⟨0, 0, none, [], [], rfl, rfl, Nat.zero_le _, by omega, ⟨OwnR.nil _ _ _ _, fun i hi => by omega, rfl⟩, fun i hi => by simp at hi, Below.refl _ _⟩
  case round =>
    obtain ⟨k, d, B, Ms, vs, rfl, rfl, hk, hk30, hm, hmd, hb⟩ := hrel
    obtain ⟨wb, hwb⟩ : ∃ wb : World, wb = wr := ⟨_, rfl⟩
    subst hwb
    by_cases hlt : k < n ∧ k < 30
    · obtain ⟨hlt1, hlt2⟩ := hlt
      have hq1 : ((k : Nat) : Int) < (n : Nat) := by omega
      have hq2 : ((k : Nat) : Int) < 30 := by omega
      obtain ⟨b, off, R, m, dr, rfl, hbl, hcell, hrow⟩ := HL.out.row hlt1
      have hrb := hrow.big
      have HM := Lib.hid (And.intro hm (And.intro hmd (And.intro hb (And.intro hrow (And.intro hcell hbl)))))
      clear hm hmd hb hrow hcell hbl
      go_wp2_with fail
      go_loopw [5, 6] (fun v i wr => ∃ (q e a : Nat) (C : Option Addr) (L : List Int), i = .int .i64 (q : Nat) ∧ v = .slice C a e ∧ q ≤ m ∧ q ≤ 4 ∧ a ≤ q ∧ OwnR (Value.int .i64) wr wb.heap.size 3 C a e L ∧ (∀ p, p ∈ L → 0 ≤ p ∧ p < (k : Int)) ∧ L.Nodup ∧ Below wb.heap.size wb wr) (fun _ i _ => m - (intOf i).toNat)
      case atStart => exact ⟨0, 0, 0, none, [], rfl, rfl, Nat.zero_le _, by omega, Nat.le_refl _, OwnR.nil _ _ _ _, by simp, List.nodup_nil, Below.refl _ _⟩
      case round => as_aux_lemma =>
        obtain ⟨q, e, a, C, L, rfl, rfl, hq, hq4, haq, ho, hL, hnd, hb2⟩ := hrel
        obtain ⟨wc, hwc⟩ : ∃ wc : World, wc = wr := ⟨_, rfl⟩
        subst hwc
        have hbc := HM.out.2.2.1.trans (hb2.mono HM.out.2.2.1.size)
        have a0 := ((keeps hbc).1 b (off + k) HM.out.2.2.2.2.2).trans HM.out.2.2.2.2.1
        have hsz := hbc.size
        have hal := ho.length
        by_cases hgo : q < m ∧ q < 4 ∧ 0 < k
        · obtain ⟨hg1, hg2, hg3⟩ := hgo
          have hk0 : (0 : Int) < (k : Nat) := by omega
          have hkn : ¬ ((k : Int) = 0) := by omega
          have hi1 : ((q : Nat) : Int) < (m : Nat) := by omega
          have hi2 : ((q : Nat) : Int) < 4 := by omega
          have hi3 : ((k : Nat) : Int) > 0 := by omega
          obtain ⟨b3, o3, rfl, _, hc⟩ := (HM.out.2.2.2.1.below (Nat.le_refl _) hbc).at' (by omega)
          have g1 := hc q hg1
          generalize nth (nth Ps k) q = x at *
          have hr := tmod_range x hk0
          obtain ⟨y, hy⟩ : ∃ y, y = if Int.tmod x k < 0 then Int.tmod x k + k else Int.tmod x k := ⟨_, rfl⟩
          have hyr : 0 ≤ y ∧ y < (k : Int) := by rw [hy]; split <;> omega
          have HR := Lib.hid (And.intro ho (And.intro hL (And.intro hnd (And.intro hb2 (And.intro hbc (And.intro hyr hal))))))
          have HY := Lib.hid hy
          have HX := Lib.hid hr
          clear ho hL hnd hb2 hbc hyr hal hy hr hc
          go_upto_if 47 with fail
          go_cut [7] from 20 to 71 (fun v wx => v = .int .i64 y ∧ wx = wc)
          case first =>
            by_cases hneg : Int.tmod x k < 0
            · have hw : wrap64 (Int.tmod x k + k) = Int.tmod x k + k := by have := HX.out; unfold wrap64; omega
              go_wp2_with fail
              go_meet
              case rel => exact ⟨by rw [HY.out, if_pos hneg, hw], rfl⟩
            · go_wp2_with fail
              go_meet
              case rel => exact ⟨by rw [HY.out, if_neg (by omega)], rfl⟩
          case rest =>
            obtain ⟨rfl, rfl⟩ := hcut
            clear a0 g1 hi1 hi2 hi3
            go_wp2_with fail
            go_loopw [8, 9] (fun s j wr => ∃ t : Nat, j = .int .i64 (t : Nat) ∧ s = .bool (decide (y ∈ L.take t)) ∧ t ≤ a ∧ wr = wc) (fun _ j _ => a - (intOf j).toNat)
            case atStart => exact ⟨0, rfl, by simp, Nat.zero_le _, rfl⟩
            case round =>
              obtain ⟨t, rfl, rfl, ht, hwr⟩ := hrel
              have hwr := hwr.symm
              subst hwr
              by_cases hta : t < a
              · obtain ⟨b4, o4, rfl, _, hc4⟩ := (HR.out.1.sl (by omega)).at' (by omega)
                have g4 := hc4 t hta
                have htl : t < L.length := by rw [HR.out.2.2.2.2.2.2]; exact hta
                have hdec : decide (y ∈ L.take (t + 1)) = (decide (y ∈ L.take t) || (nth L t == y)) := by
                  rw [take_snoc htl, Bool.eq_iff_iff, Bool.or_eq_true, decide_eq_true_iff, decide_eq_true_iff, List.mem_append, List.mem_singleton, beq_iff_eq]
                  exact or_congr Iff.rfl ⟨fun h => h.symm, fun h => h.symm⟩
                have HD := Lib.hid hdec
                clear hdec hc4 htl
                generalize nth L t = z at *
                generalize decide (y ∈ L.take t) = s at *
                cases s with
                | true =>
                  go_wp2_with fail
                  exact ⟨⟨t + 1, by go_num, by rw [HD.out]; rfl, by omega, trivial⟩, by simp [intOf]; omega⟩
                | false =>
                  go_wp2_with fail
                  exact ⟨⟨t + 1, by go_num, by rw [HD.out]; simp, by omega, trivial⟩, by simp [intOf]; omega⟩
              · obtain rfl : t = a := by omega
                have e1 : L.take t = L := by rw [← HR.out.2.2.2.2.2.2, List.take_length]
                rw [e1]
                by_cases hin : y ∈ L
                · rw [decide_eq_true hin]
                  clear e1
                  go_wp2_with fail
                  obtain ⟨ho, hL, hnd, hb2, _, _, _⟩ := HR.out
                  exact ⟨⟨q + 1, e, t, C, L, by go_num, rfl, by omega, by omega, by omega, ho, hL, hnd, hb2⟩, by simp [intOf]; omega⟩
                · rw [decide_eq_false hin]
                  have ho1 := HR.out.1.alloc (.cells #[.int .i64 y] 3)
                  have hbase : wb.heap.size ≤ (wc.alloc (.cells #[.int .i64 y] 3)).heap.size := by have := HR.out.2.2.2.1.size; simp; omega
                  have hk8 : (t + 1) * 8 ≤ 140737488355328 := by omega
                  have HI := Lib.hid hin
                  clear e1 hin
                  go_wp2_with (first
                    | (at_builtin; refine wpList_app _ eiInt (Value.int .i64) (fun _ => rfl) rfl _ _ rfl wb.heap.size _ _ _ _ rfl ho1 _ _ _ _ rfl (Sl.one (enc := Value.int .i64) _ _ _) hk8 hbase ?_)
                    | fail)
                  intro A9 c9 w9 ho9 hg9 hb9 _
                  obtain ⟨ho, hL, hnd, hb2, hbc, hyr, _⟩ := HR.out
                  have hL9 : ∀ p, p ∈ L ++ [y] → 0 ≤ p ∧ p < (k : Int) := fun p hp => by
                    rcases List.mem_append.1 hp with h1 | h1
                    · exact hL p h1
                    · rw [List.mem_singleton] at h1; subst h1; exact hyr
                  have hnd9 : (L ++ [y]).Nodup := by
                    rw [List.nodup_append]
                    exact ⟨hnd, by simp, fun a ha b hb => by rw [List.mem_singleton] at hb; subst hb; rintro rfl; exact HI.out ha⟩
                  have hb29 := (hb2.alloc hb2.size (.cells #[.int .i64 y] 3)).trans hb9
                  have HF := Lib.hid (And.intro ho9 (And.intro hL9 (And.intro hnd9 hb29)))
                  clear ho hL hnd hb2 hbc hyr hL9 hnd9 hb29 ho9 hg9 hb9 ho1
                  go_wp2_with fail
                  exact ⟨⟨q + 1, c9, t + 1, A9, L ++ [y], by go_num, rfl, by omega, by omega, by omega, HF.out.1, HF.out.2.1, HF.out.2.2.1, HF.out.2.2.2⟩, by simp [intOf]; omega⟩
        · have hm2 := HM.out.1.below hb2
          have hos := hm2.out.alloc (.cells #[.slice C a e] 23)
          have hsz2 := hbc.size
          have hbase : wa.heap.size ≤ (wc.alloc (.cells #[.slice C a e] 23)).heap.size := by simp; omega
          have hk24 : (k + 1) * 24 ≤ 140737488355328 := by omega
          have HR := Lib.hid (And.intro (ho.mono HM.out.2.2.1.size) (And.intro hL (And.intro hnd (And.intro hbc (And.intro hm2 hal)))))
          clear ho hL hnd hb2 hbc hm2 hal
          rcases (show (¬ ((q : Nat) : Int) < (m : Nat)) ∨ (((q : Nat) : Int) < (m : Nat) ∧ ¬ ((q : Nat) : Int) < 4) ∨ (((q : Nat) : Int) < (m : Nat) ∧ ((q : Nat) : Int) < 4 ∧ ¬ ((k : Nat) : Int) > 0) by omega) with h1 | ⟨h1, h2⟩ | ⟨h1, h2, h3⟩ <;> (
            go_wp2_with (first
              | (at_builtin; refine wpList_app _ eiRows eS one_eS rfl _ _ rfl wa.heap.size _ _ _ _ rfl hos _ _ _ _ rfl (Sl.one (enc := eS) _ _ (C, a, e)) hk24 hbase ?_)
              | fail)
            intro A9 c9 w9 ho9 hg9 hb9 _
            obtain ⟨ho, hL, hnd, hbc, hm2, hal⟩ := HR.out
            have hmf := hm2.snoc ho ho9 hg9 (by decide)
            have hmdf := HM.out.2.1.snoc (l := L) (by rw [hm2.len]; exact hL) hnd (by omega)
            have hbf := (hbc.alloc hbc.size (.cells #[.slice C a e] 23)).trans hb9
            have HF := Lib.hid (And.intro hmf (And.intro hmdf hbf))
            clear ho hL hnd hbc hm2 hal hmf hmdf hbf ho9 hg9 hb9 hos
            go_wp2_with fail
            exact ⟨⟨k + 1, c9, A9, Ms ++ [L], vs ++ [(C, a, e)], by go_num, rfl, by omega, by omega, HF.out.1, HF.out.2.1, HF.out.2.2⟩, by simp [intOf]; omega⟩)
    · by_cases hlt1 : k < n
      · have hq1 : ((k : Nat) : Int) < (n : Nat) := by omega
        have hq2 : ¬ ((k : Nat) : Int) < 30 := by omega
        have HM := Lib.hid (And.intro hm (And.intro hmd hb))
        clear hm hmd hb
        go_wp2_with fail
        go_ret
        exact ⟨B, k, d, Ms, vs, rfl, by omega, HM.out.1, HM.out.2.1, HM.out.2.2⟩
      · have hq1 : ¬ ((k : Nat) : Int) < (n : Nat) := by omega
        have HM := Lib.hid (And.intro hm (And.intro hmd hb))
        clear hm hmd hb
        go_wp2_with fail
        go_ret
        exact ⟨B, k, d, Ms, vs, rfl, by omega, HM.out.1, HM.out.2.1, HM.out.2.2⟩
end Go.Proofs.Ytaibdlnolpbpiaa
