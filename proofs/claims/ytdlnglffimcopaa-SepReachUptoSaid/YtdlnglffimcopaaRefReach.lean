/- credenceref16.Reach, walked: the points of which some tell something, by all trails. Conditions: the parents and the points within Go's bound. -/
import Derived.Test.YtdlnglffimcopaaRefStart
import Derived.Test.YtdlnglffimcopaaBlankR
import Derived.Test.YtdlnglffimcopaaTells
namespace Go.Proofs.Ytdlnglffimcopaa
open Go.RowKit

/-- what of a point's trails -/
def ToldOf (G : List (List Nat)) (given : List Int) (a x : Nat) : Prop := ∃ l, (¬ Zp given a ∧ Trl G (Zp given) (Ap G given) a (x :: l)) ∧ ¬ Zp given x
theorem abOk {G : List (List Nat)} {given : List Int} (hg : GoodG G) (hin : ∀ z, z ∈ given → 0 ≤ z ∧ z < (G.length : Int)) : AbOk G (Zp given) (Ap G given) := by
  have hs : ∀ x, x ∈ given.map Int.toNat → x < G.length := fun x hx => by
    obtain ⟨y, hy, rfl⟩ := List.mem_map.1 hx
    have := hin y hy
    omega
  have hA : ∀ x, Ap G given x ↔ Up G (· ∈ given.map Int.toNat) x := fun x => by
    unfold Ap aB
    rw [decide_eq_true_iff, mem_castL, mem_upList hg hs]
  refine ⟨fun x hx => ?_, fun x hx p hp => ?_⟩
  · rw [hA]
    unfold Zp zB at hx
    rw [decide_eq_true_iff] at hx
    exact .base (List.mem_map.2 ⟨_, hx, by simp⟩)
  · rw [hA] at hx ⊢
    exact .step hx hp
theorem told_iff {G : List (List Nat)} {given : List Int} (hg : GoodG G) (hac : Acyc G) (hin : ∀ z, z ∈ given → 0 ≤ z ∧ z < (G.length : Int)) {xs : List Nat} (hx : ∀ a, a ∈ xs → a < G.length) (x : Nat) :
    (∃ a, a ∈ xs ∧ ToldOf G given a x) ↔ (∃ u, CameS G given xs (x, u)) ∧ zB given x = false := by
  have hA := abOk hg hin
  unfold ToldOf
  constructor
  · rintro ⟨a, ha, l, ⟨h1, h2⟩, h3⟩
    obtain ⟨m, u, hgo⟩ := (trl_iff hA hac.oneWay hg (hx a ha) h1).1 ⟨l, h2⟩
    have e : zB given a = false := by cases h : zB given a; rfl; exact absurd h h1
    have e2 : zB given x = false := by cases h : zB given x; rfl; exact absurd h h3
    exact ⟨⟨u, a, m, ha, e, hgo⟩, e2⟩
  · rintro ⟨⟨u, a, m, ha, h1, hgo⟩, h3⟩
    have e : ¬ Zp given a := fun h => by unfold Zp at h; rw [h1] at h; cases h
    have e2 : ¬ Zp given x := fun h => by unfold Zp at h; rw [h3] at h; cases h
    obtain ⟨l, hl⟩ := (trl_iff hA hac.oneWay hg (hx a ha) e).2 ⟨m, u, hgo⟩
    exact ⟨a, ha, l, ⟨e, hl⟩, e2⟩
theorem lookE_app (Ps : List (List Int)) (a given : List Int) : badE Ps (a ++ given) = lookE Ps given a := by
  unfold badE lookE
  by_cases hc : checkP Ps = 0
  · have e : ¬ (checkP Ps ≠ 0) := by rw [hc]; simp
    rw [if_neg e, if_neg e]
    have : inRow Ps.length (a ++ given) = true ↔ (inRow Ps.length given = true ∧ inRow Ps.length a = true) := by
      unfold inRow
      rw [List.all_append, Bool.and_eq_true]
      exact and_comm
    by_cases h : inRow Ps.length given = true ∧ inRow Ps.length a = true
    · rw [if_pos h, if_pos (this.2 h)]
    · rw [if_neg h, if_neg (fun h2 => h (this.1 h2))]
  · have e : checkP Ps ≠ 0 := hc
    rw [if_pos e, if_pos e]
def RReachPost (w : World) (Ps : List (List Int)) (a given : List Int) (e : Ending) (w' : World) : Prop :=
  Below w.heap.size w w' ∧ ∃ C k d, e = .returned (.tuple #[.slice C k d, .int .i64 (lookE Ps given a)]) ∧ (lookE Ps given a ≠ 0 → C = none ∧ k = 0 ∧ d = 0) ∧
    (lookE Ps given a = 0 → Sl (Value.int .i64) w' C k (castL (toldL (toG Ps) given (a.map Int.toNat))))
/-- what the first points have come to -/
structure CameN (G : List (List Nat)) (given : List Int) (xs : List Nat) (i : Nat) (n : Nat) (L : List Bool) : Prop where
  len : L.length = n
  iff : ∀ x, nth L x = true ↔ ∃ j, j < i ∧ ToldOf G given (nth xs j) x
theorem CameN.zero (G : List (List Nat)) (given : List Int) (xs : List Nat) (n : Nat) : CameN G given xs 0 n (List.replicate n false) := by
  refine ⟨by simp, fun x => ⟨fun h => ?_, fun ⟨j, hj, _⟩ => by omega⟩⟩
  rcases Nat.lt_or_ge x n with h1 | h1
  · rw [nth_eq (by simpa using h1)] at h; simp at h
  · have : nth (List.replicate n false) x = false := by simp [nth, List.getD, h1]
    rw [this] at h; cases h
/-- .. the next one's marks below q put in -/
structure CameQ (L0 L1 L : List Bool) (q : Nat) : Prop where
  len : L.length = L0.length
  iff : ∀ x, nth L x = (nth L0 x || (decide (x < q) && nth L1 x))
theorem CameQ.zero (L0 L1 : List Bool) : CameQ L0 L1 L0 0 := ⟨rfl, fun x => by simp⟩
theorem CameQ.set {L0 L1 L : List Bool} {q : Nat} (h : CameQ L0 L1 L q) (hq : q < L.length) : CameQ L0 L1 (L.set q (nth L q || nth L1 q)) (q + 1) := by
  refine ⟨by simpa using h.len, fun x => ?_⟩
  by_cases hx : x = q
  · subst hx
    rw [nth_set_same hq, h.iff]
    simp
  · rw [nth_set_other (fun e => hx e.symm), h.iff]
    by_cases h1 : x < q
    · simp [h1, Nat.lt_succ_of_lt h1]
    · have : ¬ x < q + 1 := by omega
      simp [h1, this]
theorem CameQ.done {G : List (List Nat)} {given : List Int} {xs : List Nat} {i n : Nat} {L0 L1 L : List Bool} (h : CameQ L0 L1 L n) (h0 : CameN G given xs i n L0) (h1 : L1.length = n) (h2 : ∀ x, nth L1 x = true ↔ ToldOf G given (nth xs i) x) : CameN G given xs (i + 1) n L := by
  refine ⟨h.len.trans h0.len, fun x => ?_⟩
  rw [h.iff, Bool.or_eq_true, Bool.and_eq_true, h0.iff, decide_eq_true_iff]
  constructor
  · rintro (⟨j, hj, ht⟩ | ⟨_, ht⟩)
    · exact ⟨j, by omega, ht⟩
    · exact ⟨i, by omega, (h2 x).1 ht⟩
  · rintro ⟨j, hj, ht⟩
    rcases Nat.lt_or_ge j i with h3 | h3
    · exact .inl ⟨j, h3, ht⟩
    · obtain rfl : j = i := by omega
      have h4 := (h2 x).2 ht
      refine .inr ⟨?_, h4⟩
      rw [← h1]
      rcases Nat.lt_or_ge x L1.length with h5 | h5
      · exact h5
      · have : nth L1 x = false := by simp [nth, List.getD, List.getElem?_eq_none h5]
        rw [this] at h4; cases h4

set_option maxRecDepth 100000 in
set_option maxHeartbeats 1600000 in
theorem rreach_ref (A B0 C0 : Option Addr) (n c m1 d1 m2 d2 : Nat) (Ps : List (List Int)) (a given : List Int) (w : World) (h : Rows (Value.int .i64) w A n Ps) (ha : Sl (Value.int .i64) w B0 m1 a) (hg : Sl (Value.int .i64) w C0 m2 given)
    (hn : n * 24 ≤ 140737488351232) (hsum : (m1 + m2) * 8 ≤ 140737488355328) : Calls Try.prog 17 #[.slice A n c, .slice B0 m1 d1, .slice C0 m2 d2] w (RReachPost w Ps a given) := by
  obtain ⟨wa, hwa⟩ : ∃ wa : World, wa = w := ⟨_, rfl⟩
  subst hwa
  have HL := Lib.hid (And.intro h.len (And.intro ha.len (And.intro hg.len (And.intro h (And.intro ha hg)))))
  have hemp : OwnR (Value.int .i64) (wa.alloc (.cells #[] 3)) wa.heap.size 3 (some ⟨wa.heap.size, 0, none⟩) 0 0 [] := by
    have hr : RowAt (Value.int .i64) (wa.alloc (.cells #[] 3)) wa.heap.size 3 ([] : List Int) [] := RowC.new wa 3 []
    exact OwnR.of_row' hr (Nat.le_refl _) rfl (by unfold maxLen; omega) rfl
  have hb0 : Below wa.heap.size wa (wa.alloc (.cells #[] 3)) := (Below.refl wa.heap.size wa).alloc (Nat.le_refl _) (.cells #[] 3)
  have ha0 := ha.below (Nat.le_refl _) hb0
  have hg0 := hg
  clear h ha hg
  go_enter Try.func17, Try.ntmps17
  go_wp2_with (first
    | (at_builtin; (with_reducible refine wpList_app _ eiInt (Value.int .i64) (fun _ => rfl) rfl _ _ rfl wa.heap.size _ _ _ _ rfl hemp _ _ _ _ rfl ha0 (by omega) (by simp) ?_); intro A8 c8 w8 ho8 hg8 hb8 hd8; have hb8' : Below wa.heap.size wa w8 := hb0.trans hb8; rw [Nat.zero_add] at ho8 hd8; rw [List.nil_append] at ho8; have hg8' := hg0.below (Nat.le_refl _) hb8')
    | (at_builtin; (with_reducible refine wpList_app _ eiInt (Value.int .i64) (fun _ => rfl) rfl _ _ rfl wa.heap.size _ _ _ _ rfl ho8 _ _ _ _ rfl hg8' (by omega) hb8'.size ?_))
    | fail)
  intro A9 c9 w9 ho9 hg9 hb9 hd9
  have hbw : Below wa.heap.size wa w9 := hb8'.trans hb9
  have hsl9 := ho9.sl (by omega)
  have h9 := HL.out.2.2.2.1.below (Nat.le_refl _) hbw
  have HB := Lib.hid hbw
  clear hbw ho9 hg9 hb9 hd9 ho8 hg8 hb8 hd8 hb8' hg8' hemp hb0 ha0 hg0
  go_wp2_with fail
  refine (bad_ref A A9 n c (m1 + m2) c9 Ps (a ++ given) _ h9 hsl9 hn).mono ?_
  rintro e w10 ⟨rfl, hb10⟩
  have hbw := HB.out.trans (hb10.mono HB.out.size)
  clear hsl9 h9 hb10
  rw [lookE_app]
  by_cases hE : lookE Ps given a = 0
  · rw [hE]
    obtain ⟨hck, hin1, hin2⟩ := lookE_inv hE
    rw [HL.out.1] at hin1 hin2
    have hga := inRow_iff.1 hin2
    have hgg := inRow_iff.1 hin1
    obtain ⟨hinr, _, hac⟩ := checkP_ok hck
    have hgood := good_toG hinr
    have hGl : (toG Ps).length = n := by rw [toG_length]; exact HL.out.1
    have hlt : ∀ x, x ∈ a.map Int.toNat → x < (toG Ps).length := fun x hx => by
      obtain ⟨y, hy, rfl⟩ := List.mem_map.1 hx
      have := hga y hy
      rw [hGl]; omega
    have htold := told_iff hgood hac (given := given) (by rw [hGl]; exact hgg) hlt
    have HE := Lib.hid (And.intro hE (And.intro hck (And.intro hin1 (And.intro hga (And.intro hGl (And.intro htold hbw))))))
    clear hE hck hin1 hin2 hga hgg hinr hac hgood hGl hlt htold hbw
    go_wp2_with (first
      | (with_reducible refine wpList_mk _ eiBool eB false rfl rfl _ _ rfl n rfl rfl (by omega) ?_)
      | fail)
    intro w11 hrow11 hb11
    go_wp2_with fail
    generalize hps : w10.heap.size = p at *
    go_loopw [10] (fun i wr => ∃ (k : Nat) (L : List Bool), i = .int .i64 (k : Nat) ∧ k ≤ m1 ∧ RowAt eB wr p 4 L [] ∧ Below p w10 wr ∧ CameN (toG Ps) given (a.map Int.toNat) k n L) (fun i _ => m1 - (intOf i).toNat)
    case atStart => exact ⟨0, _, rfl, Nat.zero_le _, hrow11, hb11, CameN.zero _ _ _ _⟩
    case round =>
      obtain ⟨k, L, rfl, hk, hrow, hbel, hcn⟩ := hrel
      obtain ⟨wb, hwb⟩ : ∃ wb : World, wb = wr := ⟨_, rfl⟩
      subst hwb
      by_cases hlt : k < m1
      · have hbw : Below wa.heap.size wa wb := HE.out.2.2.2.2.2.2.trans (hbel.mono (by have := HE.out.2.2.2.2.2.2.size; omega))
        obtain ⟨b, off, e1, hb, hc⟩ := (HL.out.2.2.2.2.1.below (Nat.le_refl _) hbw).at' (by omega)
        subst e1
        have g1 := hc k hlt
        have hka : k < a.length := by rw [HL.out.2.1]; exact hlt
        have hy := HE.out.2.2.2.1 _ (nth_mem hka)
        have hnm : nth (a.map Int.toNat) k = (nth a k).toNat := nth_map _ hka
        have hP := HL.out.2.2.2.1.below (Nat.le_refl _) hbw
        have hGv := HL.out.2.2.2.2.2.below (Nat.le_refl _) hbw
        generalize nth a k = s at *
        obtain ⟨y, rfl⟩ : ∃ y : Nat, s = (y : Int) := ⟨s.toNat, by omega⟩
        have hyn : y < n := by omega
        have hpl := hrow.lt
        have HR := Lib.hid (And.intro hrow (And.intro hbel (And.intro hcn hnm)))
        clear hrow hbel hcn hnm hc hka hbw hb hrow11 hb11
        go_wp2_with fail
        refine (start_ref A C0 n c m2 d2 Ps given y (-1) _ hP hGv HE.out.2.1 HE.out.2.2.1 hyn hn).mono ?_
        rintro e w5 ⟨wz, UA, mu, ud, hb, cb, L1, BA, bn, bc, bb, rfl, hb5, hcb, hM5, hL5, hH5⟩
        have hr5 := HR.out.1.below hb5 hpl
        have hbl5 : Below p w10 w5 := HR.out.2.1.trans (hb5.mono (Nat.le_of_lt hpl))
        have hlt5 := hM5.lt
        have htold : ∀ x, nth L1 x = true ↔ ToldOf (toG Ps) given y x := fun x => hH5.came x
        have HQ := Lib.hid (And.intro hr5 (And.intro hbl5 (And.intro hM5.row (And.intro hM5.came (And.intro hL5 htold)))))
        clear hr5 hbl5 hM5 hH5 hL5 htold hb5 hP hGv g1
        have hlL := HR.out.2.2.1.len
        go_wp2_with fail
        go_loopw [12] (fun i wr => ∃ (q : Nat) (L2 : List Bool), i = .int .i64 (q : Nat) ∧ q ≤ n ∧ RowAt eB wr p 4 L2 [] ∧ Below p w10 wr ∧ RowC wr hb 56 [.slice A n c, .slice C0 m2 d2, .slice UA mu ud, .int .i64 (-1), .slice BA bn bc, .slice (some ⟨cb, 0, none⟩) n n] ∧ RowAt eB wr cb 4 L1 [] ∧ CameQ L L1 L2 q) (fun i _ => n - (intOf i).toNat)
        case atStart => exact ⟨0, L, rfl, Nat.zero_le _, HQ.out.1, HQ.out.2.1, HQ.out.2.2.1, HQ.out.2.2.2.1, CameQ.zero _ _⟩
        case round =>
          obtain ⟨q, L2, rfl, hq, hr2, hbl2, hm2, hc2, hcq⟩ := hrel
          obtain ⟨wc, hwc⟩ : ∃ wc : World, wc = wr := ⟨_, rfl⟩
          subst hwc
          have hl2 := hcq.len
          rw [hlL] at hl2
          by_cases hqn : q < n
          · have g2 := hr2.cell (j := q) (by rw [hl2]; exact hqn)
            have f2 := hr2.frozen q
            have g3 := hc2.cell (j := q) (by rw [HQ.out.2.2.2.2.1]; exact hqn)
            have r5 := hm2.cell 5
            simp only [List.getElem?_cons_zero, List.getElem?_cons_succ] at r5
            have hnx := hcq.set (by rw [hl2]; exact hqn)
            have hr3 := hr2.set (j := q) (by rw [hl2]; exact hqn) (nth L2 q || nth L1 q)
            have hbl3 := hbl2.setCell (p := ⟨p, q, none⟩) (Nat.le_refl _) (eB (nth L2 q || nth L1 q))
            have hm3 := hm2.far (p := ⟨p, q, none⟩) (by simp; omega) (eB (nth L2 q || nth L1 q))
            have hc3 := hc2.setCellFar (p := ⟨p, q, none⟩) (by simp; omega) (eB (nth L2 q || nth L1 q))
            clear hr2 hbl2 hm2 hc2 hcq
            generalize nth L2 q = u at *
            generalize nth L1 q = v at *
            have HN := Lib.hid (And.intro hr3 (And.intro hbl3 (And.intro hm3 (And.intro hc3 hnx)))); clear hr3 hbl3 hm3 hc3 hnx
            cases u with
            | true =>
              go_wp2_with fail
              exact ⟨⟨q + 1, L2.set q true, by go_num, by omega, HN.out.1, HN.out.2.1, HN.out.2.2.1, HN.out.2.2.2.1, HN.out.2.2.2.2⟩, by simp [intOf]; omega⟩
            | false =>
              go_wp2_with fail
              exact ⟨⟨q + 1, L2.set q v, by go_num, by omega, HN.out.1, HN.out.2.1, HN.out.2.2.1, HN.out.2.2.2.1, HN.out.2.2.2.2⟩, by simp [intOf]; omega⟩
          · obtain rfl : q = n := by omega
            have hdn := hcq.done HR.out.2.2.1 HQ.out.2.2.2.2.1 (by rw [HR.out.2.2.2]; simpa using HQ.out.2.2.2.2.2)
            have HN := Lib.hid (And.intro hr2 (And.intro hbl2 hdn)); clear hr2 hbl2 hm2 hc2 hcq hdn
            go_wp2_with fail
            exact ⟨⟨k + 1, L2, by go_num, by omega, HN.out.1, HN.out.2.1, HN.out.2.2⟩, by simp [intOf]; omega⟩
      · obtain rfl : k = m1 := by omega
        have hlen := hcn.len
        have hfl0 : (List.range n).filter (fun x => nth L x) = toldL (toG Ps) given (a.map Int.toNat) := by
          unfold toldL
          rw [HE.out.2.2.2.2.1]
          refine ptsOf_eq (rising_filter _ _) fun x => ?_
          rw [List.mem_filter, List.mem_range, hcn.iff, ← HE.out.2.2.2.2.2.1 x]
          have hka : (a.map Int.toNat).length = k := by rw [List.length_map]; exact HL.out.2.1
          constructor
          · rintro ⟨h1, j, hj, ht⟩; exact ⟨h1, _, nth_mem (by rw [hka]; exact hj), ht⟩
          · rintro ⟨h1, z, hz, ht⟩; obtain ⟨j, hj, rfl⟩ := mem_nth hz; exact ⟨h1, j, by rw [hka] at hj; exact hj, ht⟩
        have HT := Lib.hid (And.intro hfl0 (And.intro hrow hbel)); clear hfl0 hcn hrow hbel hrow11 hb11
        go_wp2_with fail
        go_loopw [13, 14] (fun l i wr => ∃ (q k' c' : Nat) (A' : Option Addr), i = .int .i64 (q : Nat) ∧ l = .slice A' k' c' ∧ q ≤ n ∧ RowAt eB wr p 4 L [] ∧ OwnR eN wr (p + 1) 3 A' k' c' ((List.range q).filter fun x => nth L x) ∧ Below p w10 wr) (fun _ i _ => n - (intOf i).toNat)
        case atStart => exact ⟨0, 0, 0, none, rfl, rfl, Nat.zero_le _, HT.out.2.1, OwnR.nil _ _ _ _, HT.out.2.2⟩
        case round =>
          obtain ⟨q, k', c', A', rfl, rfl, hq, hrow2, hown2, hbel2⟩ := hrel
          obtain ⟨wd, hwd⟩ : ∃ wd : World, wd = wr := ⟨_, rfl⟩
          subst hwd
          by_cases hkn : q < n
          · have g2 := hrow2.cell (j := q) (by rw [hlen]; exact hkn)
            have hpl := hrow2.lt
            have hfl : (List.range (q + 1)).filter (fun x => nth L x) = (List.range q).filter (fun x => nth L x) ++ (if nth L q = true then [q] else []) := by
              rw [List.range_succ, List.filter_append]
              simp [List.filter_cons]
            have hlk := hown2.length
            have hkl := List.length_filter_le (fun x => nth L x) (List.range q)
            rw [List.length_range] at hkl
            have hk8 : (k' + 1) * 8 ≤ 140737488355328 := by omega
            clear hlk hkl
            cases hm : nth L q with
            | true =>
              rw [hm] at g2 hfl
              rw [if_pos rfl] at hfl
              have hos := hown2.alloc (.cells #[.int .i64 (q : Int)] 3)
              have H2 := Lib.hid (And.intro hrow2 (And.intro hbel2 (And.intro hfl hown2))); clear hrow2 hbel2 hfl hown2 hm
              go_wp2_with (first
                | (at_builtin; refine wpList_app _ eiInt eN one_eN rfl _ _ rfl (p + 1) _ _ _ _ rfl hos _ _ _ _ rfl (Sl.one (enc := eN) _ _ _) (by omega) (by simp; omega) ?_)
                | fail)
              intro A9 c9 w9 ho9 hg9 hb9 hd9
              have hne : some p ≠ (Value.slice A' k' c').ownBlock := fun e => by
                rcases H2.out.2.2.2.at_row with h1 | ⟨g', h1, h2, _⟩
                · rw [h1] at e; cases e
                · rw [h1] at e; injection e with e; have e' : p = g' := e; omega
              have hr9 := (H2.out.1.alloc (.cells #[.int .i64 (q : Int)] 3)).grown hg9 hne
              have hbl9 : Below p w10 w9 := (H2.out.2.1.alloc (by omega) (.cells #[.int .i64 (q : Int)] 3)).trans (hb9.mono (Nat.le_succ _))
              rw [← H2.out.2.2.1] at ho9
              have H9 := Lib.hid (And.intro hr9 (And.intro ho9 hbl9)); clear hr9 ho9 hbl9 hg9 hb9 hd9 hos
              go_wp2_with fail
              exact ⟨⟨q + 1, k' + 1, c9, A9, by go_num, rfl, by omega, H9.out.1, H9.out.2.1, H9.out.2.2⟩, by simp [intOf]; omega⟩
            | false =>
              rw [hm] at g2 hfl
              rw [if_neg (by simp), List.append_nil] at hfl
              rw [← hfl] at hown2
              have H2 := Lib.hid (And.intro hrow2 (And.intro hbel2 hown2)); clear hrow2 hbel2 hfl hown2 hm
              go_wp2_with fail
              exact ⟨⟨q + 1, k', c', A', by go_num, rfl, by omega, H2.out.1, H2.out.2.2, H2.out.2.1⟩, by simp [intOf]; omega⟩
          · obtain rfl : q = n := by omega
            have hlk := hown2.length
            have hkl := List.length_filter_le (fun x => nth L x) (List.range q)
            rw [List.length_range] at hkl
            have hsl := (hown2.sl (by omega)).toInt
            rw [HT.out.1] at hsl
            have hbw : Below wa.heap.size wa wd := HE.out.2.2.2.2.2.2.trans (hbel2.mono (by have := HE.out.2.2.2.2.2.2.size; omega))
            have H2 := Lib.hid (And.intro hsl hbw); clear hsl hbel2 hown2 hrow2 hlk hkl hbw
            go_wp2_with fail
            go_ret2
            exact ⟨H2.out.2, A', k', c', by rw [HE.out.1]; rfl, fun h => absurd HE.out.1 h, fun _ => H2.out.1⟩
  · have HF := Lib.hid (And.intro hbw hE); clear hbw
    go_wp2_with fail
    go_ret2
    exact ⟨HF.out.1, none, 0, 0, rfl, fun _ => ⟨rfl, rfl, rfl⟩, fun h => absurd h hE⟩
end Go.Proofs.Ytdlnglffimcopaa
