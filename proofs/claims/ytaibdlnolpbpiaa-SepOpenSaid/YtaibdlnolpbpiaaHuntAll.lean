/- Joined by program out of: Clos, RefAbove, Hunt, RefHunt, RefWalk, RefStart, RefReach. What each says stands at its own head. -/
import Derived.Test.YtaibdlnolpbpiaaLists
import Derived.Test.YtaibdlnolpbpiaaOwn
import Derived.Test.YtaibdlnolpbpiaaRefOut
import Derived.Test.YtaibdlnolpbpiaaReach
import Derived.Test.YtaibdlnolpbpiaaAbove
import Derived.Test.YtaibdlnolpbpiaaBall
import Derived.Test.YtaibdlnolpbpiaaFlowAll
import Derived.Deep.CutRange
import Derived.Lib.SliceRun
import Derived.Test.YtaibdlnolpbpiaaBlankR
/- Plain law: passes over all points, each telling its parents, come to all that is above. No condition. -/
namespace Go.Proofs.Ytaibdlnolpbpiaa

theorem nth_setB {L : List Bool} {p x : Nat} (hp : p < L.length) : nth (L.set p true) x = (decide (x = p) || nth L x) := by
  by_cases h : x = p
  · subst h; rw [nth_set_same hp]; simp
  · rw [nth_set_other (fun e => h e.symm)]; simp [h]
/-- a pass on its way: L0 was marked ahead of it, L is now; the points below v are done, of v the first k parents -/
structure PassU (G : List (List Nat)) (S : Nat → Prop) (L0 L : List Bool) (v k : Nat) : Prop where
  len : L.length = G.length
  le : ∀ x, nth L0 x = true → nth L x = true
  sound : ∀ x, nth L x = true → Up G S x
  prev : ∀ v', v' < v → nth L0 v' = true → ∀ p, p ∈ nth G v' → nth L p = true
  cur : ∀ j, j < k → nth L (nth (nth G v) j) = true
section
variable {G : List (List Nat)} {S : Nat → Prop} {L0 L : List Bool} {v k i : Nat}
theorem PassU.begin (hl : L.length = G.length) (hs : ∀ x, nth L x = true → Up G S x) : PassU G S L L 0 0 := ⟨hl, fun _ h => h, hs, fun v' h => by omega, fun j h => by omega⟩
theorem PassU.mark (h : PassU G S L0 L v k) (hg : GoodG G) (hv : v < G.length) (hk : k < (nth G v).length) (hm : nth L v = true) : PassU G S L0 (L.set (nth (nth G v) k) true) v (k + 1) := by
  have hp : nth (nth G v) k < L.length := by rw [h.len]; exact hg v hv _ (nth_mem hk)
  have hup : Up G S (nth (nth G v) k) := .step (h.sound v hm) (nth_mem hk)
  have hle : ∀ x, nth L x = true → nth (L.set (nth (nth G v) k) true) x = true := fun x hx => by rw [nth_setB hp, hx, Bool.or_true]
  refine ⟨by simpa using h.len, fun x hx => hle x (h.le x hx), fun x hx => ?_, fun v' hv' h0 p hp' => hle p (h.prev v' hv' h0 p hp'), fun j hj => ?_⟩
  · rw [nth_setB hp, Bool.or_eq_true, decide_eq_true_eq] at hx
    rcases hx with rfl | hx
    · exact hup
    · exact h.sound x hx
  · rcases Nat.lt_or_ge j k with h1 | h1
    · exact hle _ (h.cur j h1)
    · obtain rfl : j = k := by omega
      rw [nth_setB hp]; simp
theorem PassU.next (h : PassU G S L0 L v k) (he : (nth G v).length ≤ k ∨ nth L v = false) : PassU G S L0 L (v + 1) 0 := by
  refine ⟨h.len, h.le, h.sound, fun v' hv' h0 p hp => ?_, fun j hj => by omega⟩
  rcases Nat.lt_or_ge v' v with h1 | h1
  · exact h.prev v' h1 h0 p hp
  · obtain rfl : v' = v := by omega
    rcases he with he | he
    · obtain ⟨j, hj, rfl⟩ := mem_nth hp
      exact h.cur j (by omega)
    · rw [h.le _ h0] at he; cases he
/-- behind i passes -/
structure PassesU (G : List (List Nat)) (S : Nat → Prop) (L : List Bool) (i : Nat) : Prop where
  len : L.length = G.length
  base : ∀ x, S x → nth L x = true
  sound : ∀ x, nth L x = true → Up G S x
  done : (∀ x, nth L x = true → ∀ p, p ∈ nth G x → nth L p = true) ∨ i ≤ L.count true
theorem count_le : ∀ {a b : List Bool}, a.length = b.length → (∀ x, nth a x = true → nth b x = true) → a.count true ≤ b.count true ∧ (a.count true = b.count true → a = b)
  | [], [], _, _ => ⟨Nat.le_refl _, fun _ => rfl⟩
  | x :: a, y :: b, hl, h => by
    obtain ⟨h1, h2⟩ := count_le (a := a) (b := b) (by simpa using hl) (fun j hj => h (j + 1) hj)
    have h0 : x = true → y = true := h 0
    cases x <;> cases y <;> simp at h0 ⊢
    · exact ⟨h1, h2⟩
    · exact ⟨by omega, fun e => by omega⟩
    · exact ⟨h1, h2⟩
theorem PassU.passes (h : PassU G S L0 L G.length 0) (h0 : PassesU G S L0 i) : PassesU G S L (i + 1) := by
  refine ⟨h.len, fun x hx => h.le x (h0.base x hx), h.sound, ?_⟩
  obtain ⟨c1, c2⟩ := count_le (h0.len.trans h.len.symm) h.le
  rcases Nat.lt_or_ge (L0.count true) (L.count true) with hc | hc
  · rcases h0.done with hd | hd
    · left
      have e : ∀ x, nth L x = true → nth L0 x = true := fun x hx => by
        have hup := h.sound x hx
        clear hx
        induction hup with
        | base hs => exact h0.base _ hs
        | step _ hp ih => exact hd _ ih _ hp
      exact fun x hx p hp => h.le p (hd x (e x hx) p hp)
    · right; omega
  · left
    have e := c2 (by omega)
    intro x hx p hp
    have hlt : x < G.length := by
      rw [← h.len]
      rcases Nat.lt_or_ge x L.length with h1 | h1
      · exact h1
      · have : nth L x = false := by simp [nth, List.getD, List.getElem?_eq_none h1]
        rw [this] at hx; cases hx
    exact h.prev x hlt (by rw [e]; exact hx) p hp
theorem PassesU.all (h : PassesU G S L i) (hg : GoodG G) (hi : G.length ≤ i) (x : Nat) : nth L x = true ↔ Up G S x := by
  have hd : ∀ x, nth L x = true → ∀ p, p ∈ nth G x → nth L p = true := by
    rcases h.done with hd | hd
    · exact hd
    · intro x hx p hp
      have hlt : x < G.length := by
        rw [← h.len]
        rcases Nat.lt_or_ge x L.length with h1 | h1
        · exact h1
        · have : nth L x = false := by simp [nth, List.getD, List.getElem?_eq_none h1]
          rw [this] at hx; cases hx
      have hpl := hg x hlt p hp
      have hc : L.count true = L.length := by have := List.count_le_length (a := true) (l := L); have := h.len; omega
      rw [List.count_eq_length] at hc
      have hm := nth_mem (xs := L) (j := p) (by rw [h.len]; exact hpl)
      exact (hc _ hm).symm
  refine ⟨h.sound x, fun hup => ?_⟩
  induction hup with
  | base hs => exact h.base _ hs
  | step _ hp ih => exact hd _ ih _ hp
end
end Go.Proofs.Ytaibdlnolpbpiaa
/- credenceref14.closed and Above, walked: all that is above some points. Conditions: the parents and the points within Go's bound. -/
namespace Go.Proofs.Ytaibdlnolpbpiaa
open Go.RowKit

abbrev eB : Bool → Value := Value.bool
theorem one_eB (b : Bool) : (eB b).oneCell' = true := rfl
theorem eiBool : EI Try.prog 44 4 (.bool false) 1 := .mk' Try.underlying44 (by kernel_rfl) rfl (by omega)
/-- behind the first k points -/
structure MarkP (n : Nat) (pts : List Int) (k : Nat) (L : List Bool) : Prop where
  len : L.length = n
  ok : inRow n (pts.take k) = true
  iff : ∀ x, nth L x = true ↔ ∃ j, j < k ∧ (nth pts j).toNat = x
theorem MarkP.zero (n : Nat) (pts : List Int) : MarkP n pts 0 (List.replicate n false) := by
  refine ⟨by simp, rfl, fun x => ⟨fun h => ?_, fun ⟨j, hj, _⟩ => by omega⟩⟩
  rcases Nat.lt_or_ge x n with h1 | h1
  · rw [nth_eq (by simpa using h1)] at h; simp at h
  · have : nth (List.replicate n false) x = false := by simp [nth, List.getD, h1]
    rw [this] at h; cases h
theorem MarkP.snoc {n : Nat} {pts : List Int} {k : Nat} {L : List Bool} (h : MarkP n pts k L) (hk : k < pts.length) (h0 : 0 ≤ nth pts k) (h1 : nth pts k < (n : Int)) : MarkP n pts (k + 1) (L.set (nth pts k).toNat true) := by
  have hsn := all_inRow_snoc (n := n) hk
  refine ⟨by simpa using h.len, by rw [hsn, h.ok, Bool.true_and]; simp; omega, fun x => ?_⟩
  rw [nth_setB (by rw [h.len]; omega), Bool.or_eq_true, decide_eq_true_eq, h.iff]
  constructor
  · rintro (rfl | ⟨j, hj, e⟩)
    · exact ⟨k, by omega, rfl⟩
    · exact ⟨j, by omega, e⟩
  · rintro ⟨j, hj, e⟩
    rcases Nat.lt_or_ge j k with h2 | h2
    · exact .inr ⟨j, h2, e⟩
    · obtain rfl : j = k := by omega
      exact .inl e.symm
theorem MarkP.passes {G : List (List Nat)} {pts : List Int} {L : List Bool} (h : MarkP G.length pts pts.length L) : PassesU G (· ∈ pts.map Int.toNat) L 0 := by
  have hm : ∀ x, nth L x = true ↔ x ∈ pts.map Int.toNat := fun x => by
    rw [h.iff, List.mem_map]
    constructor
    · rintro ⟨j, hj, e⟩; exact ⟨_, nth_mem hj, e⟩
    · rintro ⟨y, hy, e⟩; obtain ⟨j, hj, rfl⟩ := mem_nth hy; exact ⟨j, hj, e⟩
  exact ⟨h.len, fun x hx => (hm x).2 hx, fun x hx => .base ((hm x).1 hx), .inr (Nat.zero_le _)⟩
theorem up_done {G : List (List Nat)} {pts : List Int} {L : List Bool} {i : Nat} (h : PassesU G (· ∈ pts.map Int.toNat) L i) (hg : GoodG G) (hi : G.length ≤ i) : (List.range G.length).filter (fun x => nth L x) = upList G (pts.map Int.toNat) := by
  refine ptsOf_eq (rising_filter _ _) fun x => ?_
  rw [List.mem_filter, List.mem_range, h.all hg hi]

set_option maxRecDepth 100000 in
set_option maxHeartbeats 800000 in
theorem closed_ref (A B : Option Addr) (n c m d : Nat) (Ps : List (List Int)) (pts : List Int) (w : World) (h : Rows (Value.int .i64) w A n Ps) (hr : inR Ps = true) (hp : Sl (Value.int .i64) w B m pts) (hn : n * 24 ≤ 140737488351232) :
    Calls Try.prog 80 #[.slice A n c, .slice B m d] w (ReachPost w (toG Ps) pts) := by
  have hpb := hp.big
  have hG := h.toNat hr
  have hgood := good_toG hr
  have HL := Lib.hid (And.intro h.len (And.intro hp.len (And.intro (toG_length Ps) hgood)))
  clear hgood
  obtain ⟨wa, hwa⟩ : ∃ wa : World, wa = w := ⟨_, rfl⟩
  subst hwa
  clear h hr
  go_enter Try.func80, Try.ntmps80
  go_wp2_with (first
    | (with_reducible refine wpList_mk _ eiBool eB false rfl rfl _ _ rfl n rfl rfl (by omega) ?_)
    | fail)
  intro w1 hrow1 hb1
  go_wp2_with fail
  generalize hps : wa.heap.size = p at *
  go_loopw [7] (fun i wr => ∃ (k : Nat) (L : List Bool), i = .int .i64 (k : Nat) ∧ k ≤ m ∧ RowAt eB wr p 4 L [] ∧ Below p wa wr ∧ MarkP n pts k L) (fun i _ => m - (intOf i).toNat)
  case atStart => exact ⟨0, _, rfl, Nat.zero_le _, hrow1, hb1, MarkP.zero n pts⟩
  case round =>
    obtain ⟨k, L, rfl, hk, hrow, hbel, hmk⟩ := hrel
    obtain ⟨wb, hwb⟩ : ∃ wb : World, wb = wr := ⟨_, rfl⟩
    subst hwb
    by_cases hlt : k < m
    · obtain ⟨b, off, rfl, hb, hc⟩ := (hp.below (Nat.le_of_eq hps) hbel).at' (by omega)
      have g1 := hc k hlt
      have hkl : k < pts.length := by rw [HL.out.2.1]; exact hlt
      have hlen := hmk.len
      have hbad : ¬ (0 ≤ nth pts k ∧ nth pts k < (n : Int)) → inRow (toG Ps).length pts = false := fun hb => by
        rw [HL.out.2.2.1, HL.out.1]
        refine all_down _ hkl ?_
        simp only [Bool.and_eq_false_iff, decide_eq_false_iff_not]; omega
      have hsn := fun h0 h1 => hmk.snoc hkl h0 h1
      generalize hs : nth pts k = s at *
      have HS := Lib.hid (And.intro hbad (And.intro hsn (And.intro hrow (And.intro hbel hs)))); clear hbad hsn hmk hc hkl hs
      by_cases hs0 : s < 0
      · have HC := Lib.hid (HS.out.1 (by omega))
        clear hrow
        go_wp2_with fail
        go_ret2
        exact ⟨by rw [hps]; exact HS.out.2.2.2.1, none, 0, 0, by rw [HC.out]; rfl, fun h => (by rw [HC.out] at h; cases h), fun _ => ⟨rfl, rfl, rfl⟩, Nat.le_refl _⟩
      · by_cases hs1 : (n : Int) ≤ s
        · have HC := Lib.hid (HS.out.1 (by omega))
          clear hrow
          go_wp2_with fail
          go_ret2
          exact ⟨by rw [hps]; exact HS.out.2.2.2.1, none, 0, 0, by rw [HC.out]; rfl, fun h => (by rw [HC.out] at h; cases h), fun _ => ⟨rfl, rfl, rfl⟩, Nat.le_refl _⟩
        · obtain ⟨x, rfl⟩ : ∃ x : Nat, s = (x : Int) := ⟨s.toNat, by omega⟩
          have hxn : x < n := by omega
          have g2 := hrow.cell (j := x) (by rw [hlen]; exact hxn)
          have f2 := hrow.frozen x
          have hm2 := HS.out.2.1 (by omega) (by omega)
          have hr2 := hrow.set (j := x) (by rw [hlen]; exact hxn) true
          have hb2 := hbel.setCell (p := ⟨p, x, none⟩) (Nat.le_refl _) (eB true)
          have H2 := Lib.hid (And.intro hm2 (And.intro hr2 hb2)); clear hm2 hr2 hb2 hrow
          clear hs0
          go_wp2_with fail
          exact ⟨⟨k + 1, L.set x true, by go_num, by omega, H2.out.2.1, H2.out.2.2, by simpa using H2.out.1⟩, by simp [intOf]; omega⟩
    · obtain rfl : k = m := by omega
      have hin : inRow (toG Ps).length pts = true := by
        have := hmk.ok
        rw [take_all (by rw [HL.out.2.1]; exact Nat.le_refl _)] at this
        rw [HL.out.2.2.1, HL.out.1]; exact this
      have hps0 : PassesU (toG Ps) (· ∈ pts.map Int.toNat) L 0 := by
        refine MarkP.passes ?_
        rw [HL.out.2.2.1, HL.out.1, HL.out.2.1]; exact hmk
      have HI := Lib.hid (And.intro hin (And.intro hps0 (And.intro hrow hbel))); clear hin hps0 hrow hbel hmk
      go_wp2_with fail
      go_loopw [8] (fun i wr => ∃ (k : Nat) (L : List Bool), i = .int .i64 (k : Nat) ∧ k ≤ n ∧ RowAt eB wr p 4 L [] ∧ Below p wa wr ∧ PassesU (toG Ps) (· ∈ pts.map Int.toNat) L k) (fun i _ => n - (intOf i).toNat)
      case atStart => exact ⟨0, L, rfl, Nat.zero_le _, HI.out.2.2.1, HI.out.2.2.2, HI.out.2.1⟩
      case round =>
        obtain ⟨i0, L0, rfl, hi0, hrow0, hbel0, hpas0⟩ := hrel
        obtain ⟨wc, hwc⟩ : ∃ wc : World, wc = wr := ⟨_, rfl⟩
        subst hwc
        have H0 := Lib.hid (And.intro hrow0 (And.intro hbel0 hpas0)); clear hrow0 hbel0 hpas0
        by_cases hlt0 : i0 < n
        · go_wp2_with fail
          go_loopw [9] (fun i wr => ∃ (q : Nat) (L : List Bool), i = .int .i64 (q : Nat) ∧ q ≤ n ∧ RowAt eB wr p 4 L [] ∧ Below p wa wr ∧ PassU (toG Ps) (· ∈ pts.map Int.toNat) L0 L q 0) (fun i _ => n - (intOf i).toNat)
          case atStart => exact ⟨0, L0, rfl, Nat.zero_le _, H0.out.1, H0.out.2.1, PassU.begin H0.out.2.2.len H0.out.2.2.sound⟩
          case round =>
            obtain ⟨q, L1, rfl, hq, hrow1, hbel1, hpas1⟩ := hrel
            obtain ⟨wd, hwd⟩ : ∃ wd : World, wd = wr := ⟨_, rfl⟩
            subst hwd
            have H1 := Lib.hid (And.intro hrow1 (And.intro hbel1 hpas1)); clear hrow1 hbel1 hpas1
            by_cases hltq : q < n
            · obtain ⟨b, off, R, m5, d5, rfl, hb, hcell, hsl5⟩ := hG.row (i := q) hltq
              have HC5 := Lib.hid (And.intro hb hcell)
              have HR := Lib.hid hsl5
              have hbg5 := hsl5.big
              clear hsl5 hb hcell
              go_wp2_with fail
              go_loopw [10] (fun i wr => ∃ (r : Nat) (L : List Bool), i = .int .i64 (r : Nat) ∧ r ≤ m5 ∧ RowAt eB wr p 4 L [] ∧ Below p wa wr ∧ PassU (toG Ps) (· ∈ pts.map Int.toNat) L0 L q r) (fun i _ => m5 - (intOf i).toNat)
              case atStart => exact ⟨0, L1, rfl, Nat.zero_le _, H1.out.1, H1.out.2.1, H1.out.2.2⟩
              case round =>
                obtain ⟨r, L2, rfl, hr, hrow2, hbel2, hpas2⟩ := hrel
                obtain ⟨we, hwe⟩ : ∃ we : World, we = wr := ⟨_, rfl⟩
                subst hwe
                have a0 := ((keeps hbel2).1 b (off + q) (by rw [← hps]; exact HC5.out.1)).trans HC5.out.2
                have hl2 := hpas2.len
                rw [HL.out.2.2.1, HL.out.1] at hl2
                have q1 : (0 : Int) ≤ (q : Nat) := by omega
                have q2 : ((q : Nat) : Int) < (n : Nat) := by omega
                have g2 := hrow2.cell (j := q) (by rw [hl2]; exact hltq)
                by_cases hr5 : r < m5
                · have hr5' : ((r : Nat) : Int) < (m5 : Nat) := by omega
                  cases hm : nth L2 q with
                  | true =>
                    rw [hm] at g2
                    obtain ⟨b3, off3, rfl, _, hc⟩ := (HR.out.below (Nat.le_of_eq hps) hbel2).at' (by omega)
                    have g3 := hc r hr5
                    have hrl : r < (nth (toG Ps) q).length := by rw [HR.out.len]; exact hr5
                    have hyn := HL.out.2.2.2 q (by rw [HL.out.2.2.1, HL.out.1]; exact hltq) _ (nth_mem hrl)
                    rw [HL.out.2.2.1, HL.out.1] at hyn
                    have hmk := hpas2.mark HL.out.2.2.2 (by rw [HL.out.2.2.1, HL.out.1]; exact hltq) hrl hm
                    generalize nth (nth (toG Ps) q) r = y at *
                    have f4 := hrow2.frozen y
                    have g4 := hrow2.cell (j := y) (by rw [hl2]; exact hyn)
                    have hr2 := hrow2.set (j := y) (by rw [hl2]; exact hyn) true
                    have hb2 := hbel2.setCell (p := ⟨p, y, none⟩) (Nat.le_refl _) (eB true)
                    have H2 := Lib.hid (And.intro hr2 (And.intro hb2 hmk)); clear hr2 hb2 hmk hc hrow2 hpas2 hbel2 hm
                    go_wp2_with fail
                    exact ⟨⟨r + 1, L2.set y true, by go_num, by omega, H2.out.1, H2.out.2.1, H2.out.2.2⟩, by simp [intOf]; omega⟩
                  | false =>
                    rw [hm] at g2
                    have hnx := hpas2.next (.inr hm)
                    have H2 := Lib.hid (And.intro hrow2 (And.intro hbel2 hnx)); clear hnx hrow2 hpas2 hbel2 hm
                    go_wp2_with fail
                    exact ⟨⟨q + 1, L2, by go_num, by omega, H2.out.1, H2.out.2.1, H2.out.2.2⟩, by simp [intOf]; omega⟩
                · obtain rfl : r = m5 := by omega
                  have hnx := hpas2.next (.inl (by rw [HR.out.len]; exact Nat.le_refl _))
                  have H2 := Lib.hid (And.intro hrow2 (And.intro hbel2 hnx)); clear hnx hrow2 hpas2 hbel2 g2
                  go_wp2_with fail
                  exact ⟨⟨q + 1, L2, by go_num, by omega, H2.out.1, H2.out.2.1, H2.out.2.2⟩, by simp [intOf]; omega⟩
            · obtain rfl : q = n := by omega
              have hpn : PassesU (toG Ps) (· ∈ pts.map Int.toNat) L1 (i0 + 1) := by
                refine PassU.passes (L0 := L0) ?_ H0.out.2.2
                rw [HL.out.2.2.1, HL.out.1]; exact H1.out.2.2
              have HN := Lib.hid hpn; clear hpn
              go_wp2_with fail
              exact ⟨⟨i0 + 1, L1, by go_num, by omega, H1.out.1, H1.out.2.1, HN.out⟩, by simp [intOf]; omega⟩
        · obtain rfl : i0 = n := by omega
          have hdn := up_done H0.out.2.2 HL.out.2.2.2 (by rw [HL.out.2.2.1, HL.out.1]; exact Nat.le_refl _)
          have HN := Lib.hid hdn; clear hdn
          have hlen := H0.out.2.2.len
          rw [HL.out.2.2.1, HL.out.1] at hlen
          go_wp2_with fail
          go_loopw [11, 12] (fun l i wr => ∃ (k k' c' : Nat) (A' : Option Addr), i = .int .i64 (k : Nat) ∧ l = .slice A' k' c' ∧ k ≤ i0 ∧ RowAt eB wr p 4 L0 [] ∧ OwnR eN wr (p + 1) 3 A' k' c' ((List.range k).filter fun x => nth L0 x) ∧ Below p wa wr) (fun _ i _ => i0 - (intOf i).toNat)
          case atStart => exact ⟨0, 0, 0, none, rfl, rfl, Nat.zero_le _, H0.out.1, OwnR.nil _ _ _ _, H0.out.2.1⟩
          case round =>
            obtain ⟨k, k', c', A', rfl, rfl, hk, hrow2, hown2, hbel2⟩ := hrel
            obtain ⟨wd, hwd⟩ : ∃ wd : World, wd = wr := ⟨_, rfl⟩
            subst hwd
            by_cases hkn : k < i0
            · have g2 := hrow2.cell (j := k) (by rw [hlen]; exact hkn)
              have hpl := hrow2.lt
              have hfl : (List.range (k + 1)).filter (fun x => nth L0 x) = (List.range k).filter (fun x => nth L0 x) ++ (if nth L0 k = true then [k] else []) := by
                rw [List.range_succ, List.filter_append]
                simp [List.filter_cons]
              have hlk := hown2.length
              have hkl := List.length_filter_le (fun x => nth L0 x) (List.range k)
              rw [List.length_range] at hkl
              have hk8 : (k' + 1) * 8 ≤ 140737488355328 := by omega
              clear hlk hkl
              cases hm : nth L0 k with
              | true =>
                rw [hm] at g2 hfl
                rw [if_pos rfl] at hfl
                have hos := hown2.alloc (.cells #[.int .i64 (k : Int)] 3)
                have H2 := Lib.hid (And.intro hrow2 (And.intro hbel2 (And.intro hfl hown2))); clear hrow2 hbel2 hfl hown2 hm
                go_wp2_with (first
                  | (at_builtin; refine wpList_app _ eiInt eN one_eN rfl _ _ rfl (p + 1) _ _ _ _ rfl hos _ _ _ _ rfl (Sl.one (enc := eN) _ _ _) (by omega) (by simp; omega) ?_)
                  | fail)
                intro A9 c9 w9 ho9 hg9 hb9 hd9
                have hne : some p ≠ (Value.slice A' k' c').ownBlock := fun e => by
                  rcases H2.out.2.2.2.at_row with h1 | ⟨g', h1, h2, _⟩
                  · rw [h1] at e; cases e
                  · rw [h1] at e; injection e with e; have e' : p = g' := e; omega
                have hr9 := (H2.out.1.alloc (.cells #[.int .i64 (k : Int)] 3)).grown hg9 hne
                have hbl9 : Below p wa w9 := (H2.out.2.1.alloc (by omega) (.cells #[.int .i64 (k : Int)] 3)).trans (hb9.mono (Nat.le_succ _))
                rw [← H2.out.2.2.1] at ho9
                have H9 := Lib.hid (And.intro hr9 (And.intro ho9 hbl9)); clear hr9 ho9 hbl9 hg9 hb9 hd9 hos
                go_wp2_with fail
                exact ⟨⟨k + 1, k' + 1, c9, A9, by go_num, rfl, by omega, H9.out.1, H9.out.2.1, H9.out.2.2⟩, by simp [intOf]; omega⟩
              | false =>
                rw [hm] at g2 hfl
                rw [if_neg (by simp), List.append_nil] at hfl
                rw [← hfl] at hown2
                have H2 := Lib.hid (And.intro hrow2 (And.intro hbel2 hown2)); clear hrow2 hbel2 hfl hown2 hm
                go_wp2_with fail
                exact ⟨⟨k + 1, k', c', A', by go_num, rfl, by omega, H2.out.1, H2.out.2.2, H2.out.2.1⟩, by simp [intOf]; omega⟩
            · obtain rfl : k = i0 := by omega
              have hlk := hown2.length
              have hkl := List.length_filter_le (fun x => nth L0 x) (List.range k)
              rw [List.length_range] at hkl
              have hcap9 := hown2.cap
              have hsl := hown2.sl (by omega)
              have hN := HN.out
              rw [HL.out.2.2.1, HL.out.1] at hN
              rw [hN] at hsl
              have H2 := Lib.hid (And.intro hsl hbel2); clear hsl hbel2 hown2 hrow2 hN hlk hkl
              go_wp2_with fail
              go_ret2
              exact ⟨by rw [hps]; exact H2.out.2, A', k', c', by rw [HI.out.1]; rfl, fun _ => H2.out.1, fun h => (by rw [HI.out.1] at h; cases h), hcap9⟩
/-- the reference's Above -/
theorem above_ref (A B : Option Addr) (n c m d : Nat) (Ps : List (List Int)) (pts : List Int) (w : World) (h : Rows (Value.int .i64) w A n Ps) (hp : Sl (Value.int .i64) w B m pts) (hn : n * 24 ≤ 140737488351232) (hc : checkP Ps = 0) :
    Calls Try.prog 59 #[.slice A n c, .slice B m d] w (ReachPost w (toG Ps) pts) := by
  obtain ⟨wa, hwa⟩ : ∃ wa : World, wa = w := ⟨_, rfl⟩
  subst hwa
  go_enter Try.func59, Try.ntmps59
  go_wp2_with fail
  refine (check_ref A n c Ps _ h hn).mono ?_
  rintro e w1 ⟨rfl, hb1⟩
  rw [hc]
  have h1 := h.below (Nat.le_refl _) hb1
  have hp1 := hp.below (Nat.le_refl _) hb1
  have hin := (checkP_ok hc).1
  have HB := Lib.hid hb1
  clear h hp hb1
  go_wp2_with fail
  refine (closed_ref A B n c m d Ps pts _ h1 hin hp1 hn).mono ?_
  rintro e w2 ⟨hb2, C, k, d9, rfl, hh⟩
  have H2 := Lib.hid (And.intro hb2 hh)
  clear hb2 hh
  by_cases hr : inRow (toG Ps).length pts = true
  · rw [if_pos hr]
    have HR := Lib.hid hr; clear hr
    go_wp2_with fail
    go_ret2
    exact ⟨HB.out.trans (H2.out.1.mono HB.out.size), C, k, d9, by rw [if_pos HR.out]; rfl, H2.out.2⟩
  · rw [if_neg hr]
    have HR := Lib.hid hr; clear hr
    go_wp2_with fail
    go_ret2
    exact ⟨HB.out.trans (H2.out.1.mono HB.out.size), C, k, d9, by rw [if_neg HR.out]; rfl, H2.out.2⟩
end Go.Proofs.Ytaibdlnolpbpiaa
/- Plain law: a hunt through all open trails: what it has come to, and the least trail to a point. No condition. -/
namespace Go.Proofs.Ytaibdlnolpbpiaa

/-- the first difference decides -/
def lexL : List Nat → List Nat → Bool
  | x :: a, y :: b => if x = y then lexL a b else decide (x < y)
  | _, _ => false
/-- shorter, or as long and less -/
def lessL (a b : List Nat) : Bool := if a.length = b.length then lexL a b else decide (a.length < b.length)
theorem lexL_trans : ∀ {a b c : List Nat}, lexL a b = true → lexL b c = true → lexL a c = true
  | [], _, _, h, _ => by simp [lexL] at h
  | x :: a, [], _, h, _ => by simp [lexL] at h
  | x :: a, y :: b, [], _, h => by simp [lexL] at h
  | x :: a, y :: b, z :: c, h1, h2 => by
    unfold lexL at h1 h2 ⊢
    by_cases e1 : x = y
    · subst e1
      rw [if_pos rfl] at h1
      by_cases e2 : x = z
      · subst e2; rw [if_pos rfl] at h2 ⊢; exact lexL_trans h1 h2
      · rw [if_neg e2] at h2 ⊢; exact h2
    · rw [if_neg e1, decide_eq_true_eq] at h1
      by_cases e2 : y = z
      · subst e2; rw [if_neg e1, decide_eq_true_eq]; exact h1
      · rw [if_neg e2, decide_eq_true_eq] at h2
        rw [if_neg (by omega), decide_eq_true_eq]; omega
theorem lexL_irr : ∀ a : List Nat, lexL a a = false
  | [] => rfl
  | x :: a => by unfold lexL; rw [if_pos rfl]; exact lexL_irr a
theorem lessL_irr (a : List Nat) : lessL a a = false := by unfold lessL; rw [if_pos rfl]; exact lexL_irr a
theorem lessL_trans {a b c : List Nat} (h1 : lessL a b = true) (h2 : lessL b c = true) : lessL a c = true := by
  unfold lessL at h1 h2 ⊢
  by_cases e1 : a.length = b.length
  · rw [if_pos e1] at h1
    by_cases e2 : b.length = c.length
    · rw [if_pos e2] at h2; rw [if_pos (by omega)]; exact lexL_trans h1 h2
    · rw [if_neg e2, decide_eq_true_eq] at h2
      rw [if_neg (by omega), decide_eq_true_eq]; omega
  · rw [if_neg e1, decide_eq_true_eq] at h1
    by_cases e2 : b.length = c.length
    · rw [if_neg (by omega), decide_eq_true_eq]; omega
    · rw [if_neg e2, decide_eq_true_eq] at h2
      rw [if_neg (by omega), decide_eq_true_eq]; omega
/-- of trails P (the last point first) that were gone through: the points come to; the least one to a point -/
structure Hst (dst : Int) (Z : Nat → Prop) (P : List Nat → Prop) (L : List Bool) (b : Option (List Nat)) : Prop where
  came : ∀ x, nth L x = true ↔ ∃ l, P (x :: l) ∧ ¬ Z x
  bnone : b = none → ∀ x l, P (x :: l) → ¬ Z x → (x : Int) ≠ dst
  bsome : ∀ t, b = some t → (∃ x l, P (x :: l) ∧ ¬ Z x ∧ (x : Int) = dst ∧ t = (x :: l).reverse) ∧ ∀ x l, P (x :: l) → ¬ Z x → (x : Int) = dst → lessL (x :: l).reverse t = false
section
variable {dst : Int} {Z : Nat → Prop} {P Q : List Nat → Prop} {L : List Bool} {b : Option (List Nat)} {x : Nat} {l : List Nat}
theorem Hst.congr (h : Hst dst Z P L b) (e : ∀ l, P l ↔ Q l) : Hst dst Z Q L b := by
  have : P = Q := funext fun l => propext (e l)
  rw [← this]; exact h
theorem Hst.none (n : Nat) : Hst dst Z (fun _ => False) (List.replicate n false) none := by
  refine ⟨fun x => ⟨fun h => ?_, fun ⟨_, h, _⟩ => h.elim⟩, fun _ _ _ h => h.elim, fun t e => by cases e⟩
  rcases Nat.lt_or_ge x n with h1 | h1
  · rw [nth_eq (by simpa using h1)] at h; simp at h
  · have : nth (List.replicate n false) x = false := by simp [nth, List.getD, h1]
    rw [this] at h; cases h
theorem Hst.given (h : Hst dst Z P L b) (hz : Z x) : Hst dst Z (fun l' => P l' ∨ l' = x :: l) L b := by
  have e : ∀ y m, (P (y :: m) ∨ y :: m = x :: l) ∧ ¬ Z y → P (y :: m) := fun y m ⟨hp, hn⟩ => by
    rcases hp with hp | hp
    · exact hp
    · injection hp with e1 e2; subst e1; exact absurd hz hn
  refine ⟨fun y => ?_, fun e0 y m hp hn => h.bnone e0 y m (e y m ⟨hp, hn⟩) hn, fun t e0 => ?_⟩
  · rw [h.came]
    exact ⟨fun ⟨m, h1, h2⟩ => ⟨m, .inl h1, h2⟩, fun ⟨m, h1, h2⟩ => ⟨m, e y m ⟨h1, h2⟩, h2⟩⟩
  · obtain ⟨⟨y, m, h1, h2, h3, h4⟩, h5⟩ := h.bsome t e0
    exact ⟨⟨y, m, .inl h1, h2, h3, h4⟩, fun y m hp hn ht => h5 y m (e y m ⟨hp, hn⟩) hn ht⟩
theorem Hst.cameNew (h : Hst dst Z P L b) (hz : ¬ Z x) (hx : x < L.length) (y : Nat) : nth (L.set x true) y = true ↔ ∃ m, (P (y :: m) ∨ y :: m = x :: l) ∧ ¬ Z y := by
  rw [nth_setB hx, Bool.or_eq_true, decide_eq_true_eq, h.came]
  constructor
  · rintro (rfl | ⟨m, h1, h2⟩)
    · exact ⟨l, .inr rfl, hz⟩
    · exact ⟨m, .inl h1, h2⟩
  · rintro ⟨m, h1 | h1, h2⟩
    · exact .inr ⟨m, h1, h2⟩
    · injection h1 with e1 e2; exact .inl e1
/-- a trail to another point -/
theorem Hst.other (h : Hst dst Z P L b) (hz : ¬ Z x) (hx : x < L.length) (ht : (x : Int) ≠ dst) : Hst dst Z (fun l' => P l' ∨ l' = x :: l) (L.set x true) b := by
  have e : ∀ y m, (P (y :: m) ∨ y :: m = x :: l) → (y : Int) = dst → P (y :: m) := fun y m hp hy => by
    rcases hp with hp | hp
    · exact hp
    · injection hp with e1 e2; subst e1; exact absurd hy ht
  refine ⟨h.cameNew hz hx, fun e0 y m hp hn hy => h.bnone e0 y m (e y m hp hy) hn hy, fun t e0 => ?_⟩
  obtain ⟨⟨y, m, h1, h2, h3, h4⟩, h5⟩ := h.bsome t e0
  exact ⟨⟨y, m, .inl h1, h2, h3, h4⟩, fun y m hp hn hy => h5 y m (e y m hp hy) hn hy⟩
/-- the first trail to it, or a less one -/
theorem Hst.better (h : Hst dst Z P L b) (hz : ¬ Z x) (hx : x < L.length) (ht : (x : Int) = dst) (hb : ∀ t, b = some t → lessL (x :: l).reverse t = true) : Hst dst Z (fun l' => P l' ∨ l' = x :: l) (L.set x true) (some (x :: l).reverse) := by
  refine ⟨h.cameNew hz hx, fun e0 => (by cases e0), fun t e0 => ?_⟩
  injection e0 with e0
  subst e0
  refine ⟨⟨x, l, .inr rfl, hz, ht, rfl⟩, fun y m hp hn hy => ?_⟩
  rcases hp with hp | hp
  · cases b with
    | none => exact absurd hy (h.bnone rfl y m hp hn)
    | some t =>
      cases hl : lessL (y :: m).reverse (x :: l).reverse
      · rfl
      · have := lessL_trans hl (hb t rfl)
        rw [(h.bsome t rfl).2 y m hp hn hy] at this; cases this
  · injection hp with e1 e2; subst e1 e2; exact lessL_irr _
/-- .. or one that is no less -/
theorem Hst.worse (h : Hst dst Z P L b) (hz : ¬ Z x) (hx : x < L.length) {t : List Nat} (hb : b = some t) (hw : lessL (x :: l).reverse t = false) : Hst dst Z (fun l' => P l' ∨ l' = x :: l) (L.set x true) b := by
  obtain ⟨⟨y, m, h1, h2, h3, h4⟩, h5⟩ := h.bsome t hb
  refine ⟨h.cameNew hz hx, fun e0 => (by rw [hb] at e0; cases e0), fun t' e0 => ?_⟩
  rw [hb] at e0; injection e0 with e0; subst e0
  refine ⟨⟨y, m, .inl h1, h2, h3, h4⟩, fun y m hp hn hy => ?_⟩
  rcases hp with hp | hp
  · exact h5 y m hp hn hy
  · rw [hp]; exact hw
end
section
variable {G : List (List Nat)} {Z Ab : Nat → Prop} {a : Nat}
/-- what a trail goes on to -/
def Ext (G : List (List Nat)) (Z Ab : Nat → Prop) (a : Nat) (l l' : List Nat) : Prop := Trl G Z Ab a l' ∧ ∃ e, l' = e ++ l
/-- .. by the points below k -/
def Part (G : List (List Nat)) (Z Ab : Nat → Prop) (a : Nat) (l : List Nat) (k : Nat) (l' : List Nat) : Prop := Trl G Z Ab a l' ∧ (l' = l ∨ ∃ e m, m < k ∧ l' = e ++ m :: l)
theorem Trl.ne {l : List Nat} (h : Trl G Z Ab a l) : l ≠ [] := by cases h <;> simp
theorem Trl.tail {n : Nat} {l : List Nat} (h : Trl G Z Ab a (n :: l)) (hl : l ≠ []) : Trl G Z Ab a l := by
  cases h with
  | one => exact absurd rfl hl
  | two => exact .one
  | more h => exact h
theorem Trl.suffix : ∀ {e l : List Nat}, Trl G Z Ab a (e ++ l) → l ≠ [] → Trl G Z Ab a l
  | [], _, h, _ => h
  | x :: e, l, h, hl => Trl.suffix (e := e) (h.tail (by simp [hl])) hl
theorem Trl.nodup {l : List Nat} (h : Trl G Z Ab a l) : l.Nodup := by
  induction h with
  | one => simp
  | two _ _ hn => rw [List.nodup_cons]; exact ⟨hn, by simp⟩
  | more _ _ _ hn _ ih => rw [List.nodup_cons]; exact ⟨hn, ih⟩
theorem Trl.lt {l : List Nat} (h : Trl G Z Ab a l) (ha : a < G.length) : ∀ x, x ∈ l → x < G.length := by
  induction h with
  | one => simpa using ha
  | two hn _ _ => intro x hx; rcases List.mem_cons.1 hx with rfl | hx; exact hn; rw [List.mem_singleton] at hx; subst hx; exact ha
  | more _ hn _ _ _ ih => intro x hx; rcases List.mem_cons.1 hx with rfl | hx; exact hn; exact ih x hx
theorem Trl.length_le {l : List Nat} (h : Trl G Z Ab a l) (ha : a < G.length) : l.length ≤ G.length := nodup_lt_length h.nodup (h.lt ha)
theorem part_zero {l : List Nat} (h : Trl G Z Ab a l) (l' : List Nat) : Part G Z Ab a l 0 l' ↔ l' = l :=
  ⟨fun ⟨_, h2⟩ => h2.elim id fun ⟨_, m, hm, _⟩ => by omega, fun e => ⟨by rw [e]; exact h, .inl e⟩⟩
theorem part_succ {l : List Nat} {k : Nat} (l' : List Nat) : Part G Z Ab a l (k + 1) l' ↔ Part G Z Ab a l k l' ∨ Ext G Z Ab a (k :: l) l' := by
  unfold Part Ext
  constructor
  · rintro ⟨h1, rfl | ⟨e, m, hm, rfl⟩⟩
    · exact .inl ⟨h1, .inl rfl⟩
    · rcases Nat.lt_or_ge m k with h2 | h2
      · exact .inl ⟨h1, .inr ⟨e, m, h2, rfl⟩⟩
      · obtain rfl : m = k := by omega
        exact .inr ⟨h1, e, rfl⟩
  · rintro (⟨h1, rfl | ⟨e, m, hm, rfl⟩⟩ | ⟨h1, e, rfl⟩)
    · exact ⟨h1, .inl rfl⟩
    · exact ⟨h1, .inr ⟨e, m, by omega, rfl⟩⟩
    · exact ⟨h1, .inr ⟨e, k, by omega, rfl⟩⟩
theorem part_skip {l : List Nat} {k : Nat} (hn : ¬ Trl G Z Ab a (k :: l)) (l' : List Nat) : Part G Z Ab a l (k + 1) l' ↔ Part G Z Ab a l k l' := by
  rw [part_succ]
  refine ⟨fun h => h.elim id ?_, .inl⟩
  rintro ⟨h1, e, rfl⟩
  exact absurd (h1.suffix (by simp)) hn
theorem part_all {l : List Nat} (hl : l ≠ []) (l' : List Nat) : Part G Z Ab a l G.length l' ↔ Ext G Z Ab a l l' := by
  unfold Part Ext
  constructor
  · rintro ⟨h1, rfl | ⟨e, m, _, rfl⟩⟩
    · exact ⟨h1, [], rfl⟩
    · exact ⟨h1, e ++ [m], by simp⟩
  · rintro ⟨h1, e, rfl⟩
    refine ⟨h1, ?_⟩
    rcases List.eq_nil_or_concat e with rfl | ⟨e, m, rfl⟩
    · exact .inl rfl
    · right
      refine ⟨e, m, ?_, by simp⟩
      have h2 : Trl G Z Ab a (m :: l) := by
        have : e.concat m ++ l = e ++ (m :: l) := by simp
        rw [this] at h1
        exact h1.suffix (by simp)
      cases h2 with
      | one => exact absurd rfl hl
      | two h _ _ => exact h
      | more _ h _ _ _ => exact h
/-- may a trail go on to a point? -/
def Can (G : List (List Nat)) (Z Ab : Nat → Prop) (x : Nat) (l : List Nat) (n : Nat) : Prop := (n ∈ nth G x ∨ x ∈ nth G n) ∧ n ∉ x :: l ∧ (match l with | [] => True | q :: _ => Opn G Z Ab q x n)
theorem trl_can {x n : Nat} {l : List Nat} (h : Trl G Z Ab a (x :: l)) (hn : n < G.length) : Trl G Z Ab a (n :: x :: l) ↔ Can G Z Ab x l n := by
  unfold Can
  cases l with
  | nil =>
    obtain rfl : x = a := by cases h; rfl
    constructor
    · intro h2; cases h2 with | two h3 h4 h5 => exact ⟨h4, h5, trivial⟩
    · rintro ⟨h4, h5, _⟩; exact .two hn h4 h5
  | cons q l =>
    constructor
    · intro h2; cases h2 with | more h3 h4 h5 h6 h7 => exact ⟨h5, h6, h7⟩
    · rintro ⟨h4, h5, h6⟩; exact .more h hn h4 h5 h6
/-- all trails -/
theorem ext_one (l' : List Nat) : Ext G Z Ab a [a] l' ↔ Trl G Z Ab a l' := by
  refine ⟨fun h => h.1, fun h => ⟨h, ?_⟩⟩
  induction h with
  | one => exact ⟨[], rfl⟩
  | two => exact ⟨[_], rfl⟩
  | more _ _ _ _ _ ih => obtain ⟨e, he⟩ := ih; exact ⟨_ :: e, by rw [he]; rfl⟩
end
end Go.Proofs.Ytaibdlnolpbpiaa
/- credenceref16's Hunt: joined, open, less, walked. Conditions: the hunt's cell is the call's own; what it holds lies below. -/
namespace Go.Proofs.Ytaibdlnolpbpiaa
open Go.RowKit

/-- a hunt, as it lies in memory: it was begun in w0 -/
structure HuntM (w0 : World) (n : Nat) (PA GA UA : Option Addr) (pc mg gd mu ud : Nat) (tg : Int) (hb cb : Nat) (L : List Bool) (BA : Option Addr) (bn bc : Nat) (b : Option (List Nat)) (w : World) : Prop where
  row : RowC w hb 53 [.slice PA n pc, .slice GA mg gd, .slice UA mu ud, .int .i64 tg, .slice BA bn bc, .slice (some ⟨cb, 0, none⟩) n n]
  came : RowAt eB w cb 4 L []
  best : (b = none ∧ BA = none ∧ bn = 0 ∧ bc = 0) ∨ ∃ t, b = some t ∧ t ≠ [] ∧ OwnR eN w (hb + 1) 3 BA bn bc t
  lt : cb < hb
  bel : Below cb w0 w
  sz : w0.heap.size ≤ cb
section
variable {w0 w w' : World} {n pc mg gd mu ud hb cb bn bc : Nat} {PA GA UA BA : Option Addr} {tg : Int} {L : List Bool} {b : Option (List Nat)}
theorem HuntM.step (h : HuntM w0 n PA GA UA pc mg gd mu ud tg hb cb L BA bn bc b w) (hb' : Below w.heap.size w w') : HuntM w0 n PA GA UA pc mg gd mu ud tg hb cb L BA bn bc b w' := by
  refine ⟨h.row.below' hb', h.came.below hb' h.came.lt, ?_, h.lt, h.bel.trans (hb'.mono (Nat.le_of_lt h.came.lt)), h.sz⟩
  rcases h.best with h1 | ⟨t, h1, h2, h3⟩
  · exact .inl h1
  · exact .inr ⟨t, h1, h2, h3.below (Nat.le_refl _) hb'⟩
end
/-- what the hunt goes by -/
structure HuntS (w0 : World) (G : List (List Nat)) (given : List Int) (n : Nat) (PA GA UA : Option Addr) (mg mu : Nat) : Prop where
  par : Rows eN w0 PA n G
  giv : Sl (Value.int .i64) w0 GA mg given
  abv : Sl eN w0 UA mu (upList G (given.map Int.toNat))
  len : G.length = n
  good : GoodG G
section
variable {w0 w w' : World} {G : List (List Nat)} {given : List Int} {n pc mg gd mu ud hb cb bn bc : Nat} {PA GA UA BA : Option Addr} {tg : Int} {L : List Bool} {b : Option (List Nat)}
set_option maxRecDepth 100000 in
set_option maxHeartbeats 800000 in
theorem joined_ref (hS : HuntS w0 G given n PA GA UA mg mu) (hM : HuntM w0 n PA GA UA pc mg gd mu ud tg hb cb L BA bn bc b w) (p c : Nat) (hc : c < n) :
    Calls Try.prog 82 #[.pointer (some ⟨hb, 0, none⟩), .int .i64 (p : Int), .int .i64 (c : Int)] w fun e w' => e = .returned (.bool (decide (p ∈ nth G c))) ∧ w' = w := by
  obtain ⟨wa, hwa⟩ : ∃ wa : World, wa = w := ⟨_, rfl⟩
  subst hwa
  have r0 := hM.row.cell 0
  obtain ⟨b1, off, R, m1, d1, rfl, hlt, hcell, hsl⟩ := hS.par.row (i := c) hc
  have hbig := hS.par.big
  have a0 := ((keeps hM.bel).1 b1 (off + c) (Nat.lt_of_lt_of_le hlt hM.sz)).trans hcell
  have hsw := hsl.below hM.sz hM.bel
  have q1 : (0 : Int) ≤ (c : Nat) := by omega
  have q2 : ((c : Nat) : Int) < (n : Nat) := by omega
  clear hM hS hcell hsl hlt
  simp only [List.getElem?_cons_zero] at r0
  go_enter Try.func82, Try.ntmps82
  go_wp2_with fail
  refine (has_refN R m1 d1 _ p _ hsw).mono ?_
  rintro e w1 ⟨rfl, rfl⟩
  clear hsw
  generalize hz : decide (p ∈ nth G c) = z at *
  have HZ := Lib.hid hz; clear hz
  go_wp2_with fail
  go_ret
  exact ⟨by rw [HZ.out]; rfl, rfl⟩
open Classical in
/-- may a trail go through a point, between two others? -/
noncomputable def opB (G : List (List Nat)) (given : List Int) (q p m : Nat) : Bool := decide (Opn G (Zp given) (Ap G given) q p m)
open Classical in
theorem opB_iff {q p m : Nat} : opB G given q p m = true ↔ Opn G (Zp given) (Ap G given) q p m := by unfold opB; exact decide_eq_true_iff
theorem opB_in {q p m : Nat} (h1 : q ∈ nth G p) (h2 : m ∈ nth G p) : opB G given q p m = decide (p ∈ upList G (given.map Int.toNat)) := by
  rw [Bool.eq_iff_iff, opB_iff, decide_eq_true_iff]
  unfold Opn
  rw [if_pos ⟨h1, h2⟩]
  unfold Ap aB
  rw [decide_eq_true_iff]; exact mem_castL
theorem opB_out {q p m : Nat} (h : ¬ (q ∈ nth G p ∧ m ∈ nth G p)) : opB G given q p m = ! decide ((p : Int) ∈ given) := by
  rw [Bool.eq_iff_iff, opB_iff]
  unfold Opn
  rw [if_neg h]
  unfold Zp zB
  simp
set_option maxRecDepth 100000 in
set_option maxHeartbeats 800000 in
theorem open_ref (hS : HuntS w0 G given n PA GA UA mg mu) (hM : HuntM w0 n PA GA UA pc mg gd mu ud tg hb cb L BA bn bc b w) (q p m : Nat) (hp : p < n) :
    Calls Try.prog 83 #[.pointer (some ⟨hb, 0, none⟩), .int .i64 (q : Int), .int .i64 (p : Int), .int .i64 (m : Int)] w fun e w' => e = .returned (.bool (opB G given q p m)) ∧ w' = w := by
  obtain ⟨wa, hwa⟩ : ∃ wa : World, wa = w := ⟨_, rfl⟩
  subst hwa
  have r1 := hM.row.cell 1
  have r2 := hM.row.cell 2
  simp only [List.getElem?_cons_zero, List.getElem?_cons_succ] at r1 r2
  have hg := hS.giv.below hM.sz hM.bel
  have hu := hS.abv.below hM.sz hM.bel
  have HM := Lib.hid (And.intro hS hM); clear hM hS
  go_enter Try.func83, Try.ntmps83
  go_wp2_with fail
  refine (joined_ref HM.out.1 HM.out.2 q p hp).mono ?_
  rintro e w1 ⟨rfl, rfl⟩
  by_cases h1 : q ∈ nth G p
  · rw [decide_eq_true h1]
    go_wp2_with fail
    refine (joined_ref HM.out.1 HM.out.2 m p hp).mono ?_
    rintro e w1 ⟨rfl, rfl⟩
    by_cases h2 : m ∈ nth G p
    · rw [decide_eq_true h2]
      have HO := Lib.hid (opB_in (given := given) h1 h2)
      clear h1 h2
      go_wp2_with fail
      refine (has_refN UA mu ud _ p _ hu).mono ?_
      rintro e w1 ⟨rfl, rfl⟩
      generalize hz : decide (p ∈ upList G (given.map Int.toNat)) = z at *
      have HZ := Lib.hid hz; clear hz
      go_wp2_with fail
      go_ret
      exact ⟨by rw [HO.out]; rfl, rfl⟩
    · rw [decide_eq_false h2]
      have HO := Lib.hid (opB_out (G := G) (given := given) (q := q) (p := p) (m := m) (fun h => h2 h.2))
      clear h1 h2
      go_wp2_with fail
      refine (has_ref GA mg gd _ _ _ hg).mono ?_
      rintro e w1 ⟨rfl, rfl⟩
      generalize hz : decide ((p : Int) ∈ given) = z at *
      have HZ := Lib.hid hz; clear hz
      go_wp2_with fail
      go_ret
      exact ⟨by rw [HO.out]; rfl, rfl⟩
  · rw [decide_eq_false h1]
    have HO := Lib.hid (opB_out (G := G) (given := given) (q := q) (p := p) (m := m) (fun h => h1 h.1))
    go_wp2_with fail
    refine (joined_ref HM.out.1 HM.out.2 m p hp).mono ?_
    rintro e w1 ⟨rfl, rfl⟩
    clear h1
    generalize decide (m ∈ nth G p) = y at *
    go_wp2_with fail
    refine (has_ref GA mg gd _ _ _ hg).mono ?_
    rintro e w1 ⟨rfl, rfl⟩
    generalize hz : decide ((p : Int) ∈ given) = z at *
    have HZ := Lib.hid hz; clear hz
    go_wp2_with fail
    go_ret
    exact ⟨by rw [HO.out]; rfl, rfl⟩
end
theorem lexL_at {xs ys : List Nat} {k : Nat} (h1 : k < xs.length) (h2 : k < ys.length) : lexL (xs.drop k) (ys.drop k) = if nth xs k = nth ys k then lexL (xs.drop (k + 1)) (ys.drop (k + 1)) else decide (nth xs k < nth ys k) := by
  rw [List.drop_eq_getElem_cons h1, List.drop_eq_getElem_cons h2, nth_eq h1, nth_eq h2]; rfl
set_option maxRecDepth 100000 in
set_option maxHeartbeats 800000 in
theorem less_ref (A B : Option Addr) (n c m d : Nat) (xs ys : List Nat) (w : World) (hx : Sl eN w A n xs) (hy : Sl eN w B m ys) :
    Calls Try.prog 81 #[.slice A n c, .slice B m d] w fun e w' => e = .returned (.bool (lessL xs ys)) ∧ ∃ t, w' = w.drewN t := by
  obtain ⟨wa, hwa⟩ : ∃ wa : World, wa = w := ⟨_, rfl⟩
  subst hwa
  have hbx := hx.big
  have hby := hy.big
  have HL := Lib.hid (And.intro hx.len hy.len)
  go_enter Try.func81, Try.ntmps81
  by_cases hnm : n = m
  · subst hnm
    go_wp2_with fail
    go_loopw [5] (fun i wr => ∃ k t : Nat, i = .int .i64 (k : Nat) ∧ k ≤ n ∧ wr = wa.drewN t ∧ lessL xs ys = lexL (xs.drop k) (ys.drop k)) (fun i _ => n - (intOf i).toNat)
    case atStart => exact ⟨0, 0, rfl, Nat.zero_le _, rfl, by unfold lessL; rw [if_pos (by rw [HL.out.1, HL.out.2])]; simp⟩
    case round =>
      obtain ⟨k, t, rfl, hk, hwr, hle⟩ := hrel
      by_cases hlt : k < n
      · obtain ⟨b1, o1, rfl, _, hc1⟩ := (hx.drewN t).at' (by omega)
        obtain ⟨b2, o2, rfl, _, hc2⟩ := (hy.drewN t).at' (by omega)
        have g1 := hc1 k hlt
        have g2 := hc2 k hlt
        rw [lexL_at (by rw [HL.out.1]; exact hlt) (by rw [HL.out.2]; exact hlt)] at hle
        generalize nth xs k = x at *
        generalize nth ys k = y at *
        obtain ⟨wb, hwb⟩ : ∃ wb : World, wb = wr := ⟨_, rfl⟩
        subst hwb
        rw [← hwr] at g1 g2
        have q1 : (0 : Int) ≤ (k : Nat) := by omega
        have q2 : ((k : Nat) : Int) < (n : Nat) := by omega
        have HW := Lib.hid hwr
        clear hc1 hc2 hwr
        by_cases hxy : x = y
        · subst hxy
          rw [if_pos rfl] at hle
          have HE := Lib.hid hle; clear hle
          go_wp2_with fail
          go_quiet (fail)
          go_wp2_with fail
          exact ⟨⟨k + 1, t + _, by go_num, by omega, by rw [HW.out, World.drewN_drewN], HE.out⟩, by simp [intOf]; omega⟩
        · rw [if_neg hxy] at hle
          have HE := Lib.hid hle; clear hle
          have q3 : decide ((x : Int) = (y : Int)) = false := by simp; omega
          have q4 : ¬ ((x : Int) = (y : Int)) := by omega
          generalize hz : decide (x < y) = z at *
          have q5 : decide ((x : Int) < (y : Int)) = z := by rw [← hz, decide_eq_decide]; omega
          have HZ := Lib.hid hz; clear hz
          go_wp2_with fail
          go_quiet (fail)
          go_wp2_with fail
          go_quiet (fail)
          go_wp2_with fail
          go_ret
          exact ⟨by rw [HE.out, ← HZ.out]; rfl, t + _, by rw [HW.out, World.drewN_drewN, World.drewN_drewN]⟩
      · obtain rfl : k = n := by omega
        have hlast : lessL xs ys = false := by
          rw [hle, List.drop_of_length_le (by rw [HL.out.1]; exact Nat.le_refl _)]; rfl
        have HE := Lib.hid hlast
        have HW := Lib.hid hwr
        clear hle hlast hwr
        go_wp2_with fail
        go_ret
        exact ⟨by rw [HE.out]; rfl, t, HW.out⟩
  · have hr : lessL xs ys = decide (n < m) := by unfold lessL; rw [if_neg (by rw [HL.out.1, HL.out.2]; exact hnm), HL.out.1, HL.out.2]
    have HE := Lib.hid hr
    clear hr
    go_wp2_with fail
    go_ret
    exact ⟨by rw [HE.out]; simp, 0, rfl⟩
end Go.Proofs.Ytaibdlnolpbpiaa
/- credenceref16's Hunt.walk, walked: all open trails that begin so. Conditions: the hunt's cell and its row are the call's own. -/
namespace Go.Proofs.Ytaibdlnolpbpiaa
open Go.RowKit

section
variable {w0 w w' : World} {G : List (List Nat)} {given : List Int} {n pc mg gd mu ud hb cb : Nat} {PA GA UA : Option Addr} {tg : Int}
theorem HuntM.mark {L : List Bool} {BA : Option Addr} {bn bc : Nat} {b : Option (List Nat)} (h : HuntM w0 n PA GA UA pc mg gd mu ud tg hb cb L BA bn bc b w) {x : Nat} (hx : x < L.length) :
    HuntM w0 n PA GA UA pc mg gd mu ud tg hb cb (L.set x true) BA bn bc b (w.setCell ⟨cb, x, none⟩ (eB true)) := by
  have hlt := h.lt
  refine ⟨h.row.far (by simp; omega) _, h.came.set hx true, ?_, h.lt, h.bel.setCell (p := ⟨cb, x, none⟩) (Nat.le_refl _) _, h.sz⟩
  rcases h.best with h1 | ⟨t, h1, h2, h3⟩
  · exact .inl h1
  · refine .inr ⟨t, h1, h2, h3.setFar (fun g e => ?_) _⟩
    rcases h3.at_row with h4 | ⟨g', h4, h5, _⟩
    · rw [e] at h4; cases h4
    · rw [e] at h4; injection h4 with h4; injection h4 with h4; simp; omega
theorem HuntM.took {L : List Bool} {BA : Option Addr} {bn bc : Nat} {b : Option (List Nat)} (h : HuntM w0 n PA GA UA pc mg gd mu ud tg hb cb L BA bn bc b w) {A : Option Addr} {k c : Nat} {t : List Nat} (ht : t ≠ []) (ho : OwnR eN w (hb + 1) 3 A k c t) :
    HuntM w0 n PA GA UA pc mg gd mu ud tg hb cb L A k c (some t) (w.setCell ⟨hb, 4, none⟩ (.slice A k c)) := by
  have hlt := h.lt
  refine ⟨h.row.put 4 _, h.came.setCellFar (by simp; omega) _, .inr ⟨t, rfl, ht, ho.setFar (fun g e => ?_) _⟩, h.lt, h.bel.setCell (p := ⟨hb, 4, none⟩) (by simp; omega) _, h.sz⟩
  rcases ho.at_row with h4 | ⟨g', h4, h5, _⟩
  · rw [e] at h4; cases h4
  · rw [e] at h4; injection h4 with h4; injection h4 with h4; simp; omega
/-- what walk does -/
def WalkPost (w0 : World) (G : List (List Nat)) (given : List Int) (n pc mg gd mu ud hb cb : Nat) (PA GA UA : Option Addr) (tg : Int) (a : Nat) (P : List Nat → Prop) (l : List Nat) (w : World) (e : Ending) (w' : World) : Prop :=
  e = .returned (.tuple #[]) ∧ Turn w w' (fun x => x = hb ∨ x = cb) ∧ ∃ L' BA' bn' bc' b', HuntM w0 n PA GA UA pc mg gd mu ud tg hb cb L' BA' bn' bc' b' w' ∧ L'.length = n ∧ Hst tg (Zp given) (fun l' => P l' ∨ Ext G (Zp given) (Ap G given) a l l') L' b'
end
set_option maxRecDepth 100000 in
set_option maxHeartbeats 1600000 in
theorem walk_ref {w0 : World} {G : List (List Nat)} {given : List Int} {n pc mg gd mu ud hb cb : Nat} {PA GA UA : Option Addr} {tg : Int} {a : Nat} (hS : HuntS w0 G given n PA GA UA mg mu) (han : a < n) (hn : n * 24 ≤ 140737488351232) (fuel : Nat) :
    ∀ (x : Nat) (l : List Nat) (P : List Nat → Prop) (TA : Option Addr) (tk tc : Nat) (L : List Bool) (BA : Option Addr) (bn bc : Nat) (b : Option (List Nat)) (w : World), n + 1 - (x :: l).length ≤ fuel → Trl G (Zp given) (Ap G given) a (x :: l) →
      OwnR eN w (hb + 1) 3 TA tk tc (x :: l).reverse → HuntM w0 n PA GA UA pc mg gd mu ud tg hb cb L BA bn bc b w → L.length = n → Hst tg (Zp given) P L b → (∀ l', P l' → Trl G (Zp given) (Ap G given) a l') →
      Calls Try.prog 60 #[.pointer (some ⟨hb, 0, none⟩), .slice TA tk tc] w (WalkPost w0 G given n pc mg gd mu ud hb cb PA GA UA tg a P (x :: l) w) := by
  induction fuel with
  | zero =>
    intro x l P TA tk tc L BA bn bc b w hf ht
    have := ht.length_le (by rw [hS.len]; exact han)
    rw [hS.len] at this
    omega
  | succ fuel ih =>
    intro x l P TA tk tc L BA bn bc b w hf ht hown hM hLn hH hPt
    obtain ⟨wa, hwa⟩ : ∃ wa : World, wa = w := ⟨_, rfl⟩
    subst hwa
    have hlen := hown.length
    have hle := ht.length_le (by rw [hS.len]; exact han)
    rw [hS.len] at hle
    have hxn := ht.lt (by rw [hS.len]; exact han) x (by simp)
    rw [hS.len] at hxn
    have htk : tk = l.length + 1 := by rw [← hlen]; simp
    have htkn : tk ≤ n := by rw [← hlen]; simp at hle ⊢; exact hle
    have hsl := hown.sl (by simp at hle; omega)
    have hbt := hsl.big
    obtain ⟨tb, toff, rfl, _, hc⟩ := hsl.at' (by omega)
    have g0 := hc (tk - 1) (by omega)
    have hlast : nth (x :: l).reverse (tk - 1) = x := by
      rw [nth_eq (by rw [hlen]; omega)]
      simp [htk]
    rw [hlast] at g0
    have q1 : (0 : Int) ≤ ((tk : Nat) : Int) - 1 := by omega
    have q2 : ((tk : Nat) : Int) - 1 < (tk : Nat) := by omega
    have q3 : (((tk : Nat) : Int) - 1).toNat = tk - 1 := by omega
    have r1 := hM.row.cell 1
    simp only [List.getElem?_cons_zero, List.getElem?_cons_succ] at r1
    have hgiv := hS.giv.below hM.sz hM.bel
    have H0 := Lib.hid (And.intro hf (And.intro ht (And.intro hown (And.intro hM (And.intro hLn (And.intro hH (And.intro hlen (And.intro hle (And.intro htk hsl)))))))))
    clear hf ht hown hM hLn hH hlen hle htk hsl hc hlast
    have IH := Lib.hid ih; clear ih
    have HS := Lib.hid hS; clear hS
    go_enter Try.func60, Try.ntmps60
    go_wp2_with fail
    refine (has_ref GA mg gd _ _ _ hgiv).mono ?_
    rintro e w1 ⟨rfl, rfl⟩
    generalize hz : decide ((x : Int) ∈ given) = z at *
    have HZ := Lib.hid hz; clear hz
    go_upto_if 23 with fail
    go_cut [4] from 10 (fun s4 wx => s4 = .int .i64 (x : Int) ∧ Turn w1 wx (fun y => y = hb ∨ y = cb) ∧ ∃ L' BA' bn' bc' b', HuntM w0 n PA GA UA pc mg gd mu ud tg hb cb L' BA' bn' bc' b' wx ∧ L'.length = n ∧ Hst tg (Zp given) (fun l' => P l' ∨ l' = x :: l) L' b')
    case first =>
      cases z with
      | true =>
        go_wp2_with fail
        go_meet
        case rel =>
          obtain ⟨_, _, _, h4, h5, h6, _⟩ := H0.out
          exact ⟨rfl, Turn.refl _ _, L, BA, bn, bc, b, h4, h5, h6.given HZ.out⟩
      | false =>
        have hzn : ¬ Zp given x := fun h => by have h1 := HZ.out; unfold Zp zB at h; rw [h1] at h; cases h
        obtain ⟨hf, ht, hown, hM, hLn, hH, hlen, hle, htk, hsl⟩ := H0.out
        have hMm := hM.mark (x := x) (by rw [hLn]; exact hxn)
        have r3 := hM.row.cell 3
        have r4 := hM.row.cell 4
        have r5 := hM.row.cell 5
        have s3 := hMm.row.cell 3
        have s4 := hMm.row.cell 4
        have f4 := hMm.row.frozen 4
        have c5 := hM.came.cell (j := x) (by rw [hLn]; exact hxn)
        have f5 := hM.came.frozen x
        have hcl := hM.lt
        have p1 : (0 : Int) ≤ (x : Nat) := by omega
        have p2 : ((x : Nat) : Int) < (n : Nat) := by omega
        simp only [List.getElem?_cons_zero, List.getElem?_cons_succ] at r3 r4 r5 s3 s4
        have hT0 : Turn w1 (w1.setCell ⟨cb, x, none⟩ (eB true)) (fun y => y = hb ∨ y = cb) := (Turn.refl w1 _).setCell ⟨cb, x, none⟩ (fun _ => .inr rfl) _
        have hLn2 : (L.set x true).length = n := by simpa using hLn
        have hL0 : x < L.length := by rw [hLn]; exact hxn
        have hnil := fun (w : World) (a : Option Addr) (n c : Nat) => Go.Lib.run_eql_slice_nil (P := Try.prog) w 23 3 a n c 0 0 Try.underlying23
        by_cases hxt : (x : Int) = tg
        · have hown2 : OwnR eN (w1.setCell ⟨cb, x, none⟩ (eB true)) (hb + 1) 3 (some ⟨tb, toff, none⟩) tk tc (x :: l).reverse := hown.setFar (fun g e => by
            rcases hown.at_row with h1 | ⟨g', h1, h2, _⟩
            · cases h1
            · rw [e] at h1; injection h1 with h1; injection h1 with h1; simp; omega) _
          have hsl2 := hown2.sl (by omega)
          have hbst := hM.best
          subst hxt
          rcases hbst with ⟨rfl, rfl, rfl, rfl⟩ | ⟨t, rfl, htne, hot⟩
          · have hemp : OwnR eN ((w1.setCell ⟨cb, x, none⟩ (eB true)).alloc (.cells #[] 3)) (hb + 1) 3 (some ⟨w1.heap.size, 0, none⟩) 0 0 [] := by
              have hr : RowAt eN ((w1.setCell ⟨cb, x, none⟩ (eB true)).alloc (.cells #[] 3)) w1.heap.size 3 ([] : List Nat) [] := by
                have := RowC.new (w1.setCell ⟨cb, x, none⟩ (eB true)) 3 []
                rw [(show (w1.setCell ⟨cb, x, none⟩ (eB true)).heap.size = w1.heap.size from by simp [World.setCell])] at this
                exact this
              exact OwnR.of_row' hr (by have := hMm.row.lt; rw [show (w1.setCell ⟨cb, x, none⟩ (eB true)).heap.size = w1.heap.size from (show (w1.setCell ⟨cb, x, none⟩ (eB true)).heap.size = w1.heap.size from by simp [World.setCell])] at this; omega) rfl (by unfold maxLen; omega) rfl
            have htr := hsl2.below (Nat.le_refl _) ((Below.refl (w1.setCell ⟨cb, x, none⟩ (eB true)).heap.size (w1.setCell ⟨cb, x, none⟩ (eB true))).alloc (Nat.le_refl _) (.cells #[] 3))
            have hlb := hMm.row.lt
            rw [show (w1.setCell ⟨cb, x, none⟩ (eB true)).heap.size = w1.heap.size from (show (w1.setCell ⟨cb, x, none⟩ (eB true)).heap.size = w1.heap.size from by simp [World.setCell])] at hlb
            have HX := Lib.hid (And.intro hMm (And.intro hT0 (And.intro hLn2 (And.intro hH (And.intro hlen (hH.better (l := l) hzn hL0 rfl (fun t e => by cases e)))))))
            clear hMm hT0 hLn2 hM hH hown ht hLn hsl hf hlen hle htk hgiv hown2 hsl2
            go_wp2_with (first
              | (at_builtin; refine wpList_app _ eiInt eN one_eN rfl _ _ rfl (hb + 1) _ _ _ _ rfl hemp _ _ _ _ rfl htr (by omega) (by simp; omega) ?_)
              | fail)
            intro A9 c9 w9 ho9 hg9 _ _
            have hbv : Below (w1.setCell ⟨cb, x, none⟩ (eB true)).heap.size (w1.setCell ⟨cb, x, none⟩ (eB true)) w9 := ((Below.refl (w1.setCell ⟨cb, x, none⟩ (eB true)).heap.size (w1.setCell ⟨cb, x, none⟩ (eB true))).alloc (Nat.le_refl _) (.cells #[] 3)).grown hg9 (by simp) (fun g e => by
              have e2 : w1.heap.size = g := by injection e
              rw [show (w1.setCell ⟨cb, x, none⟩ (eB true)).heap.size = w1.heap.size from (show (w1.setCell ⟨cb, x, none⟩ (eB true)).heap.size = w1.heap.size from by simp [World.setCell])]; omega)
            have hM9 := HX.out.1.step hbv
            have ho9' : OwnR eN w9 (hb + 1) 3 A9 tk c9 (x :: l).reverse := by rw [List.reverse_cons]; exact ho9
            have hMf := hM9.took (t := (x :: l).reverse) (by simp) ho9'
            have hTf : Turn w1 (w9.setCell ⟨hb, 4, none⟩ (.slice A9 tk c9)) (fun y => y = hb ∨ y = cb) := (HX.out.2.1.trans (Turn.of_below hbv (fun _ => False)) (fun _ _ e => e.elim)).setCell ⟨hb, 4, none⟩ (fun _ => .inl rfl) _
            have u4 := hM9.row.cell 4
            have fu4 := hM9.row.frozen 4
            have HF := Lib.hid (And.intro hMf hTf)
            clear hMf hTf hM9 ho9 ho9' hg9 hbv hemp htr
            go_wp2_with fail
            go_meet
            case rel => exact ⟨rfl, HF.out.2, L.set x true, A9, tk, c9, _, HF.out.1, HX.out.2.2.1, HX.out.2.2.2.2.2⟩
          · have hbl := hot.length
            obtain ⟨gB, rest, rfl, hgB, hrB, _⟩ := hot.row (by rw [← hbl]; exact List.length_pos_iff.2 htne)
            have hbn : bn ≤ 140737488351232 := by
              obtain ⟨⟨y, m, h1, h2, h3, h4⟩, _⟩ := hH.bsome t rfl
              have h5 := hPt _ h1
              have h6 := h5.length_le (by rw [HS.out.len]; exact han)
              rw [HS.out.len] at h6
              rw [← hbl, h4, List.length_reverse]
              omega
            have hot2 : OwnR eN (w1.setCell ⟨cb, x, none⟩ (eB true)) (hb + 1) 3 (some ⟨gB, 0, none⟩) bn bc t := hot.setFar (fun g e => by injection e with e; injection e with e; simp; omega) _
            have hbsl := hot2.sl hbn
            have HQ := Lib.hid (And.intro hMm (And.intro hT0 (And.intro hLn2 (And.intro hH (And.intro hlen hsl2)))))
            clear hrB hot hot2 hMm hT0 hLn2 hM hH hown ht hLn hsl hf hlen hle htk hgiv hown2
            go_wp2_with fail
            refine (less_ref _ _ tk tc bn bc _ _ _ hsl2 hbsl).mono ?_
            rintro e v ⟨rfl, dn, hv⟩
            have hMm := HQ.out.1.step (w' := v) (by rw [hv]; exact below_refl_drewN _ _ _)
            have hT0 : Turn w1 v (fun y => y = hb ∨ y = cb) := by rw [hv]; exact HQ.out.2.1.drewN dn
            have hszv : v.heap.size = w1.heap.size := by rw [hv]; simp [World.setCell, World.drewN]
            have hlen := HQ.out.2.2.2.2.1
            have hLn2 := HQ.out.2.2.1
            have hH := HQ.out.2.2.2.1
            have hslv : Sl eN v (some ⟨tb, toff, none⟩) tk (x :: l).reverse := by rw [hv]; exact hsl2.drewN dn
            clear hv hsl2
            cases hlt : lessL (x :: l).reverse t with
            | true =>
              have hsl2 := hslv
              have hemp : OwnR eN (v.alloc (.cells #[] 3)) (hb + 1) 3 (some ⟨w1.heap.size, 0, none⟩) 0 0 [] := by
                have hr : RowAt eN (v.alloc (.cells #[] 3)) w1.heap.size 3 ([] : List Nat) [] := by
                  have := RowC.new v 3 []
                  rw [hszv] at this
                  exact this
                exact OwnR.of_row' hr (by have := hMm.row.lt; rw [show v.heap.size = w1.heap.size from hszv] at this; omega) rfl (by unfold maxLen; omega) rfl
              have htr := hsl2.below (Nat.le_refl _) ((Below.refl v.heap.size v).alloc (Nat.le_refl _) (.cells #[] 3))
              have hlb := hMm.row.lt
              rw [show v.heap.size = w1.heap.size from hszv] at hlb
              have HX := Lib.hid (And.intro hMm (And.intro hT0 (And.intro hLn2 (And.intro hH (And.intro hlen (hH.better (l := l) hzn hL0 rfl (fun t' e => by injection e with e; rw [← e]; exact hlt)))))))
              clear hMm hT0 hLn2 hH hlen hsl2 hlt hslv hbsl
              go_wp2_with (first
                | (at_builtin; refine wpList_app _ eiInt eN one_eN rfl _ _ rfl (hb + 1) _ _ _ _ rfl hemp _ _ _ _ rfl htr (by omega) (by simp; omega) ?_)
                | fail)
              intro A9 c9 w9 ho9 hg9 _ _
              have hbv : Below v.heap.size v w9 := ((Below.refl v.heap.size v).alloc (Nat.le_refl _) (.cells #[] 3)).grown hg9 (by simp) (fun g e => by
                have e2 : w1.heap.size = g := by injection e
                rw [show v.heap.size = w1.heap.size from hszv]; omega)
              have hM9 := HX.out.1.step hbv
              have ho9' : OwnR eN w9 (hb + 1) 3 A9 tk c9 (x :: l).reverse := by rw [List.reverse_cons]; exact ho9
              have hMf := hM9.took (t := (x :: l).reverse) (by simp) ho9'
              have hTf : Turn w1 (w9.setCell ⟨hb, 4, none⟩ (.slice A9 tk c9)) (fun y => y = hb ∨ y = cb) := (HX.out.2.1.trans (Turn.of_below hbv (fun _ => False)) (fun _ _ e => e.elim)).setCell ⟨hb, 4, none⟩ (fun _ => .inl rfl) _
              have u4 := hM9.row.cell 4
              have fu4 := hM9.row.frozen 4
              have HF := Lib.hid (And.intro hMf hTf)
              clear hMf hTf hM9 ho9 ho9' hg9 hbv hemp htr
              go_wp2_with fail
              go_meet
              case rel => exact ⟨rfl, HF.out.2, L.set x true, A9, tk, c9, _, HF.out.1, HX.out.2.2.1, HX.out.2.2.2.2.2⟩
            | false =>
              have HF := Lib.hid (And.intro hMm (And.intro hT0 (And.intro hLn2 (hH.worse (l := l) hzn hL0 rfl hlt))))
              clear hMm hT0 hLn2 hH hlen hbsl hslv hlt
              go_wp2_with fail
              go_meet
              case rel => exact ⟨rfl, HF.out.2.1, L.set x true, some ⟨gB, 0, none⟩, bn, bc, some t, HF.out.1, HF.out.2.2.1, HF.out.2.2.2⟩
        · have HF := Lib.hid (And.intro hMm (And.intro hT0 (And.intro hLn2 (hH.other (l := l) hzn hL0 hxt))))
          clear hMm hT0 hLn2 hM hH hown ht hLn hsl hf hlen hle htk hgiv
          go_wp2_with fail
          go_meet
          case rel => exact ⟨rfl, HF.out.2.1, L.set x true, BA, bn, bc, b, HF.out.1, HF.out.2.2.1, HF.out.2.2.2⟩
    case rest =>
      obtain ⟨rfl, hT, L1, BA1, bn1, bc1, b1, hM1, hL1, hH1⟩ := hcut
      have r0 := hM1.row.cell 0
      simp only [List.getElem?_cons_zero] at r0
      have hown1 : OwnR eN wc (hb + 1) 3 (some ⟨tb, toff, none⟩) tk tc (x :: l).reverse := H0.out.2.2.1.turn hT (fun g e h => by
        rcases H0.out.2.2.1.at_row with h1 | ⟨g', h1, h2, _⟩
        · cases h1
        · rw [e] at h1; injection h1 with h1; injection h1 with h1; have := hM1.lt; omega)
      have hPart : Hst tg (Zp given) (fun l' => P l' ∨ Part G (Zp given) (Ap G given) a (x :: l) 0 l') L1 b1 := hH1.congr fun l' => by rw [part_zero H0.out.2.1]
      have HC := Lib.hid (And.intro hT (And.intro hM1 (And.intro hL1 hPart))); clear hT hM1 hL1 hH1 hPart
      have ht := H0.out.2.1
      have hHT := Lib.hid ht
      clear ht r1 hgiv
      go_wp2_with fail
      clear r0
      go_loopw [6] (fun i wr => ∃ (k : Nat) (L : List Bool) (BA : Option Addr) (bn bc : Nat) (b : Option (List Nat)), i = .int .i64 (k : Nat) ∧ k ≤ n ∧ Turn w1 wr (fun y => y = hb ∨ y = cb) ∧ HuntM w0 n PA GA UA pc mg gd mu ud tg hb cb L BA bn bc b wr ∧ L.length = n ∧ Hst tg (Zp given) (fun l' => P l' ∨ Part G (Zp given) (Ap G given) a (x :: l) k l') L b) (fun i _ => n - (intOf i).toNat)
      case atStart => exact ⟨0, L1, BA1, bn1, bc1, b1, rfl, Nat.zero_le _, HC.out.1, HC.out.2.1, HC.out.2.2.1, HC.out.2.2.2⟩
      case round =>
        obtain ⟨k, L2, BA2, bn2, bc2, b2, rfl, hk, hT2, hM2, hL2, hH2⟩ := hrel
        obtain ⟨wb, hwb⟩ : ∃ wb : World, wb = wr := ⟨_, rfl⟩
        subst hwb
        have r0 := hM2.row.cell 0
        simp only [List.getElem?_cons_zero] at r0
        have H2 := Lib.hid (And.intro hT2 (And.intro hM2 (And.intro hL2 hH2))); clear hT2 hM2 hL2 hH2
        by_cases hkn : k < n
        · go_wp2_with fail
          refine (joined_ref HS.out H2.out.2.1 k x hxn).mono ?_
          rintro e w5 ⟨rfl, rfl⟩
          generalize hu : decide (k ∈ nth G x) = u at *
          have HU := Lib.hid hu; clear hu
          go_wp2_with fail
          refine (joined_ref HS.out H2.out.2.1 x k hkn).mono ?_
          rintro e w6 ⟨rfl, rfl⟩
          generalize hd : decide (x ∈ nth G k) = dd at *
          have HD := Lib.hid hd; clear hd
          go_upto_region 11 with fail
          have hownb : OwnR eN w6 (hb + 1) 3 (some ⟨tb, toff, none⟩) tk tc (x :: l).reverse := H0.out.2.2.1.turn H2.out.1 (fun g e h => by
            rcases H0.out.2.2.1.at_row with h1 | ⟨g', h1, h2, _⟩
            · cases h1
            · rw [e] at h1; injection h1 with h1; injection h1 with h1; have := H2.out.2.1.lt; omega)
          have hslb := hownb.sl (by omega)
          have HOb := Lib.hid hownb; clear hownb
          go_cut [84] from 57 to 107 (fun s wx => s = .bool ((!u && !dd) || decide (k ∈ (x :: l).reverse)) ∧ wx = w6)
          case first =>
            clear r0
            cases u with
            | true =>
              go_wp2_with fail
              refine (has_refN _ tk tc _ k _ hslb).mono ?_
              rintro e w7 ⟨rfl, rfl⟩
              generalize hh : decide (k ∈ (x :: l).reverse) = hx at *
              go_wp2_with fail
              go_meet
              case rel => exact ⟨by simp, rfl⟩
            | false =>
              cases dd with
              | true =>
                go_wp2_with fail
                refine (has_refN _ tk tc _ k _ hslb).mono ?_
                rintro e w7 ⟨rfl, rfl⟩
                generalize hh : decide (k ∈ (x :: l).reverse) = hx at *
                go_wp2_with fail
                go_meet
                case rel => exact ⟨by simp, rfl⟩
              | false =>
                clear hslb
                generalize decide (k ∈ (x :: l).reverse) = hx at *
                go_wp2_with fail
                go_meet
                case rel => exact ⟨by simp, rfl⟩
          case rest =>
            obtain ⟨rfl, rfl⟩ := hcut
            generalize hsk : ((!u && !dd) || decide (k ∈ (x :: l).reverse)) = sk
            have hkG : k < G.length := by rw [HS.out.len]; exact hkn
            have hcan := trl_can (n := k) hHT.out hkG
            cases sk with
            | true =>
              have hno : ¬ Trl G (Zp given) (Ap G given) a (k :: x :: l) := fun h => by
                obtain ⟨h1, h2, _⟩ := hcan.1 h
                rw [Bool.or_eq_true, Bool.and_eq_true] at hsk
                rcases hsk with ⟨h3, h4⟩ | h3
                · rw [← HU.out, Bool.not_eq_true', decide_eq_false_iff_not] at h3
                  rw [← HD.out, Bool.not_eq_true', decide_eq_false_iff_not] at h4
                  exact h1.elim h3 h4
                · rw [decide_eq_true_iff, List.mem_reverse] at h3; exact h2 h3
              have HN := Lib.hid hno
              clear hno hcan hsk hslb r0
              go_wp2_with fail
              exact ⟨⟨k + 1, L2, BA2, bn2, bc2, b2, by go_num, by omega, H2.out.1, H2.out.2.1, H2.out.2.2.1, H2.out.2.2.2.congr fun l' => by rw [part_skip HN.out]⟩, by simp [intOf]; omega⟩
            | false =>
              have hadj : (k ∈ nth G x ∨ x ∈ nth G k) ∧ k ∉ x :: l := by
                rw [Bool.or_eq_false_iff, Bool.and_eq_false_iff, decide_eq_false_iff_not, List.mem_reverse] at hsk
                refine ⟨hsk.1.imp (fun h => ?_) (fun h => ?_), hsk.2⟩
                · rw [← HU.out, Bool.not_eq_false', decide_eq_true_iff] at h; exact h
                · rw [← HD.out, Bool.not_eq_false', decide_eq_true_iff] at h; exact h
              have HA := Lib.hid (And.intro hadj hcan)
              clear hadj hcan hsk
              go_upto_if 87 with fail
              go_cut [] from 57 to 107 (fun wx => wx = wc ∧ Trl G (Zp given) (Ap G given) a (k :: x :: l))
              case first =>
                clear r0
                have htkl := H0.out.2.2.2.2.2.2.2.2.1
                by_cases hl1 : tk = 1
                · have hl0 : l = [] := List.eq_nil_of_length_eq_zero (by omega)
                  have hgo : Trl G (Zp given) (Ap G given) a (k :: x :: l) := HA.out.2.2 (by
                    subst hl0; exact ⟨HA.out.1.1, HA.out.1.2, trivial⟩)
                  have HG := Lib.hid hgo
                  have d1 : ¬ ((1 : Int) < ((tk : Nat) : Int)) := by omega
                  have d2 : ¬ (1 < tk) := by omega
                  have d3 : ((1 : Int) < ((tk : Nat) : Int)) = False := eq_false d1
                  clear htkl hl0 hgo hslb
                  subst hl1
                  go_wp2_with fail
                  go_meet
                  case rel => exact ⟨rfl, HG.out⟩
                · obtain ⟨q, l1, hql⟩ : ∃ q l1, l = q :: l1 := by
                    cases l with
                    | nil => simp at htkl; exact absurd htkl hl1
                    | cons q l1 => exact ⟨q, l1, rfl⟩
                  obtain ⟨b7, o7, e7, _, hc7⟩ := hslb.at' (by omega)
                  injection e7 with e7
                  injection e7 with e7 e8
                  subst e7 e8
                  have g7 := hc7 (tk - 2) (by omega)
                  have hq7 : nth (x :: l).reverse (tk - 2) = q := by
                    subst hql
                    simp only [List.length_cons] at htkl
                    rw [nth_eq (by simp; omega)]
                    simp [htkl]
                  rw [hq7] at g7
                  have d1 : decide ((1 : Int) < ((tk : Nat) : Int)) = true := by simp; omega
                  have d2 : decide (1 < tk) = true := by simp; omega
                  have p1 : (0 : Int) ≤ ((tk : Nat) : Int) - 2 := by omega
                  have p2 : ((tk : Nat) : Int) - 2 < (tk : Nat) := by omega
                  have p3 : (((tk : Nat) : Int) - 2).toNat = tk - 2 := by omega
                  have HQ := Lib.hid hql
                  clear htkl hl1 hslb hc7 hq7 hql
                  go_wp2_with fail
                  refine (open_ref HS.out H2.out.2.1 q x k hxn).mono ?_
                  rintro e w7 ⟨rfl, rfl⟩
                  generalize hop : opB G given q x k = op at *
                  cases op with
                  | true =>
                    have hgo : Trl G (Zp given) (Ap G given) a (k :: x :: l) := HA.out.2.2 (by
                      have := opB_iff.1 hop
                      refine ⟨HA.out.1.1, HA.out.1.2, ?_⟩
                      rw [HQ.out]; exact this)
                    have HG := Lib.hid hgo
                    clear hgo hop g7
                    go_wp2_with fail
                    go_meet
                    case rel => exact ⟨rfl, HG.out⟩
                  | false =>
                    have hno : ¬ Trl G (Zp given) (Ap G given) a (k :: x :: l) := fun h => by
                      obtain ⟨_, _, h3⟩ := HA.out.2.1 h
                      rw [HQ.out] at h3
                      rw [opB_iff.2 h3] at hop; cases hop
                    have HN := Lib.hid hno
                    clear hno hop g7
                    go_wp2_with fail
                    exact ⟨⟨k + 1, L2, BA2, bn2, bc2, b2, by go_num, by omega, H2.out.1, H2.out.2.1, H2.out.2.2.1, H2.out.2.2.2.congr fun l' => by rw [part_skip HN.out]⟩, by simp [intOf]; omega⟩
              case rest =>
                obtain ⟨rfl, hgo⟩ := hcut
                have hle9 := hgo.length_le (by rw [HS.out.len]; exact han)
                rw [HS.out.len] at hle9
                have htk9 : tk + 1 ≤ n := by
                  have := H0.out.2.2.2.2.2.2.2.2.1
                  simp only [List.length_cons] at hle9
                  omega
                have hlb := H2.out.2.1.row.lt
                have hemp : OwnR eN (wc.alloc (.cells #[] 3)) (hb + 1) 3 (some ⟨wc.heap.size, 0, none⟩) 0 0 [] := by
                  have hr : RowAt eN (wc.alloc (.cells #[] 3)) wc.heap.size 3 ([] : List Nat) [] := RowC.new wc 3 []
                  exact OwnR.of_row' hr (by omega) rfl (by unfold maxLen; omega) rfl
                have htr := hslb.below (Nat.le_refl _) ((Below.refl wc.heap.size wc).alloc (Nat.le_refl _) (.cells #[] 3))
                have HG := Lib.hid (And.intro hgo hle9)
                clear hgo hle9 hslb
                go_wp2_with (first
                  | (at_builtin; (with_reducible refine wpList_app _ eiInt eN one_eN rfl _ _ rfl (hb + 1) _ _ _ _ rfl hemp _ _ _ _ rfl htr (by omega) (by simp; omega) ?_); intro A8 c8 w8 ho8 hg8 hb8 hd8; have hb8' : Below wc.heap.size wc w8 := ((Below.refl wc.heap.size wc).alloc (Nat.le_refl _) (.cells #[] 3)).grown hg8 (by simp) (fun g e => by have e2 : wc.heap.size = g := (by injection e); omega); have hsz8 := hb8'.size; rw [Nat.zero_add] at ho8 hd8; rw [List.nil_append] at ho8; have hos8 := ho8.alloc (.cells #[.int .i64 (k : Int)] 3))
                  | (at_builtin; (with_reducible refine wpList_app _ eiInt eN one_eN rfl _ _ rfl (hb + 1) _ _ _ _ rfl hos8 _ _ _ _ rfl (Sl.one (enc := eN) _ _ _) (by omega) (by simp; omega) ?_))
                  | fail)
                intro A9 c9 w9 ho9 hg9 hb9 hd9
                have hA8 : ∀ g, (Value.slice A8 tk c8).ownBlock = some g → wc.heap.size ≤ g := fun g e => by
                  rcases hd8 with h1 | h1
                  · rw [h1] at e; have e2 : wc.heap.size = g := (by injection e); omega
                  · rw [h1] at e; injection e with e; simp at e; omega
                have hb9' : Below wc.heap.size wc w9 := (hb8'.alloc hsz8 (.cells #[.int .i64 (k : Int)] 3)).grown hg9 (by simp; omega) (fun g e => hA8 g e)
                have hM9 := H2.out.2.1.step hb9'
                have ho9' : OwnR eN w9 (hb + 1) 3 A9 (tk + 1) c9 (k :: x :: l).reverse := by
                  rw [show (k :: x :: l).reverse = l.reverse ++ [x, k] from by simp]; exact ho9
                have hT9 : Turn w1 w9 (fun y => y = hb ∨ y = cb) := H2.out.1.trans (Turn.of_below hb9' (fun _ => False)) (fun _ _ e => e.elim)
                have hfu : n + 1 - (k :: x :: l).length ≤ fuel := by
                  have := H0.out.1
                  simp only [List.length_cons] at this ⊢
                  omega
                have HW := Lib.hid (And.intro hM9 (And.intro ho9' (And.intro hT9 hfu)))
                clear hM9 ho9' hT9 hfu hb9' hA8 ho9 hg9 hb9 hd9 hos8 ho8 hg8 hb8 hd8 hb8' hsz8 hemp htr
                go_wp2_with fail
                refine (IH.out k (x :: l) (fun l' => P l' ∨ Part G (Zp given) (Ap G given) a (x :: l) k l') A9 (tk + 1) c9 L2 BA2 bn2 bc2 b2 _ HW.out.2.2.2 HG.out.1 HW.out.2.1 HW.out.1 H2.out.2.2.1 H2.out.2.2.2 (fun l' h => h.elim (hPt l') (fun h => h.1))).mono ?_
                rintro e w10 ⟨rfl, hT10, L10, BA10, bn10, bc10, b10, hM10, hL10, hH10⟩
                have hTf : Turn w1 w10 (fun y => y = hb ∨ y = cb) := HW.out.2.2.1.trans hT10 (fun _ _ e => e)
                have hHf : Hst tg (Zp given) (fun l' => P l' ∨ Part G (Zp given) (Ap G given) a (x :: l) (k + 1) l') L10 b10 := hH10.congr fun l' => by rw [part_succ, or_assoc]
                have HZ2 := Lib.hid (And.intro hTf (And.intro hM10 (And.intro hL10 hHf)))
                clear hT10 hM10 hL10 hH10 hTf hHf
                go_wp2_with fail
                exact ⟨⟨k + 1, L10, BA10, bn10, bc10, b10, by go_num, by omega, HZ2.out.1, HZ2.out.2.1, HZ2.out.2.2.1, HZ2.out.2.2.2⟩, by simp [intOf]; omega⟩
        · obtain rfl : k = n := by omega
          go_wp2_with fail
          go_end0
          refine ⟨rfl, H2.out.1, L2, BA2, bn2, bc2, b2, H2.out.2.1, H2.out.2.2.1, H2.out.2.2.2.congr fun l' => ?_⟩
          have := part_all (G := G) (Z := Zp given) (Ab := Ap G given) (a := a) (l := x :: l) (by simp) l'
          rw [HS.out.len] at this
          rw [this]
end Go.Proofs.Ytaibdlnolpbpiaa
/- credenceref16.start, walked: a hunt from a point. Conditions: the parents may be, what is given is points. -/
namespace Go.Proofs.Ytaibdlnolpbpiaa
open Go.RowKit

def StartPost (G : List (List Nat)) (given : List Int) (n : Nat) (PA GA : Option Addr) (pc mg gd : Nat) (a : Nat) (tg : Int) (w : World) (e : Ending) (w' : World) : Prop :=
  ∃ w1 UA mu ud hb cb L BA bn bc b, e = .returned (.pointer (some ⟨hb, 0, none⟩)) ∧ Below w.heap.size w w' ∧ w.heap.size ≤ cb ∧ HuntM w1 n PA GA UA pc mg gd mu ud tg hb cb L BA bn bc b w' ∧ L.length = n ∧
    Hst tg (Zp given) (fun l' => ¬ Zp given a ∧ Trl G (Zp given) (Ap G given) a l') L b

set_option maxRecDepth 100000 in
set_option maxHeartbeats 1600000 in
theorem start_ref (A B : Option Addr) (n c m d : Nat) (Ps : List (List Int)) (given : List Int) (a : Nat) (tg : Int) (w : World) (h : Rows (Value.int .i64) w A n Ps) (hg : Sl (Value.int .i64) w B m given) (hc : checkP Ps = 0) (hin : inRow n given = true) (ha : a < n) (hn : n * 24 ≤ 140737488351232) :
    Calls Try.prog 37 #[.slice A n c, .int .i64 (a : Int), .int .i64 tg, .slice B m d] w (StartPost (toG Ps) given n A B c m d a tg w) := by
  obtain ⟨wa, hwa⟩ : ∃ wa : World, wa = w := ⟨_, rfl⟩
  subst hwa
  have hL := h.len
  have hGl : (toG Ps).length = n := by rw [toG_length]; exact hL
  have hinr := (checkP_ok hc).1
  have HB := Lib.hid (And.intro h (And.intro hg (And.intro hinr hGl)))
  clear hL hGl hinr
  go_enter Try.func37, Try.ntmps37
  go_wp2_with fail
  refine (above_ref A B n c m d Ps given _ h hg hn hc).mono ?_
  rintro e w1 ⟨hb1, UA, mu, ud, rfl, hU, _⟩
  have hin' : inRow (toG Ps).length given = true := by rw [HB.out.2.2.2]; exact hin
  have hU := hU hin'
  rw [if_pos hin']
  clear hin'
  have hg1 := hg.below (Nat.le_refl _) hb1
  have hS : HuntS w1 (toG Ps) given n A B UA m mu := ⟨(h.below (Nat.le_refl _) hb1).toNat HB.out.2.2.1, hg1, hU, HB.out.2.2.2, good_toG HB.out.2.2.1⟩
  have HS := Lib.hid (And.intro hS hb1)
  clear hS hb1 hU h hg
  go_wp2_with (first
    | (with_reducible refine wpList_mk _ eiBool eB false rfl rfl _ _ rfl n rfl rfl (by omega) ?_)
    | fail)
  intro w2 hrow2 hb2
  have hlt := hrow2.lt
  have hM : HuntM w1 n A B UA c m d mu ud tg w2.heap.size w1.heap.size (List.replicate n false) none 0 0 none (w2.alloc (.cells #[.slice A n c, .slice B m d, .slice UA mu ud, .int .i64 tg, .slice none 0 0, .slice (some ⟨w1.heap.size, 0, none⟩) n n] 53)) :=
    ⟨RowC.new w2 53 _, hrow2.alloc _, .inl ⟨rfl, rfl, rfl, rfl⟩, hlt, hb2.alloc hb2.size _, Nat.le_refl _⟩
  have hgw := hg1.below (Nat.le_refl _) hM.bel
  have HM := Lib.hid (And.intro hM (And.intro hb2 hlt))
  clear hM hb2 hrow2 hg1
  go_wp2_with fail
  generalize hwv : w2.alloc (.cells #[.slice A n c, .slice B m d, .slice UA mu ud, .int .i64 tg, .slice none 0 0, .slice (some ⟨w1.heap.size, 0, none⟩) n n] 53) = wv at *
  have hszv : wv.heap.size = w2.heap.size + 1 := by rw [← hwv]; simp
  have hbv : Below wa.heap.size wa wv := HS.out.2.trans (HM.out.1.bel.mono HS.out.2.size)
  have HV := Lib.hid (And.intro hbv (And.intro hszv HS.out.2.size))
  clear hwv hszv hbv
  refine (has_ref B m d _ _ _ hgw).mono ?_
  rintro e w5 ⟨rfl, rfl⟩
  generalize hz : decide ((a : Int) ∈ given) = z at *
  clear hgw
  cases z with
  | true =>
    have hzp : Zp given a := hz
    have HZ := Lib.hid hzp
    clear hz hzp
    go_wp2_with fail
    go_ret
    exact ⟨w1, UA, mu, ud, w2.heap.size, w1.heap.size, _, none, 0, 0, none, rfl, HV.out.1, HV.out.2.2, HM.out.1, by simp, (Hst.none n).congr fun l' => ⟨fun h => h.elim, fun h => (h.1 HZ.out).elim⟩⟩
  | false =>
    have hzp : ¬ Zp given a := fun h => by have h1 : decide ((a : Int) ∈ given) = true := h; rw [hz] at h1; cases h1
    have HZ := Lib.hid hzp
    have hone : OwnR eN (w5.alloc (.cells #[.int .i64 (a : Int)] 3)) (w2.heap.size + 1) 3 (some ⟨w5.heap.size, 0, none⟩) 1 1 [a] := by
      have hr : RowAt eN (w5.alloc (.cells #[.int .i64 (a : Int)] 3)) w5.heap.size 3 [a] [] := RowC.new w5 3 [.int .i64 (a : Int)]
      exact OwnR.of_row' hr (by rw [HV.out.2.1]; exact Nat.le_refl _) rfl (by unfold maxLen; omega) rfl
    have hM2 := HM.out.1.step ((Below.refl w5.heap.size w5).alloc (Nat.le_refl _) (.cells #[.int .i64 (a : Int)] 3))
    have HO := Lib.hid (And.intro hone hM2)
    clear hz hzp hone hM2
    go_wp2_with fail
    refine (walk_ref HS.out.1 ha hn (n + 1) a [] (fun _ => False) (some ⟨w5.heap.size, 0, none⟩) 1 1 (List.replicate n false) none 0 0 none _ (by omega) .one HO.out.1 HO.out.2 (by simp) (Hst.none n) (fun _ h => h.elim)).mono ?_
    rintro e w6 ⟨rfl, hT6, L6, BA6, bn6, bc6, b6, hM6, hL6, hH6⟩
    have hbf : Below wa.heap.size wa w6 := (HV.out.1.alloc HV.out.1.size _).trans (hT6.below (by have := HV.out.1.size; simp; omega) (fun x hx h => by
      have := HV.out.2.2
      have := HM.out.2.2
      rcases h with h | h <;> omega))
    have HF := Lib.hid (And.intro hbf (And.intro hM6 (And.intro hL6 hH6)))
    clear hbf hM6 hL6 hH6 hT6
    go_wp2_with fail
    go_ret
    exact ⟨w1, UA, mu, ud, w2.heap.size, w1.heap.size, L6, BA6, bn6, bc6, b6, rfl, HF.out.1, HV.out.2.2, HF.out.2.1, HF.out.2.2.1, HF.out.2.2.2.congr fun l' => ⟨fun h => ⟨HZ.out, by rcases h with h | h; exact h.elim; exact (ext_one l').1 h⟩, fun h => .inr ((ext_one l').2 h.2)⟩⟩
end Go.Proofs.Ytaibdlnolpbpiaa
/- credenceref16.Reach, walked: the points of which some tell something, by all trails. Conditions: the parents and the points within Go's bound. -/
namespace Go.Proofs.Ytaibdlnolpbpiaa
open Go.RowKit

/-- what of a point's trails -/
def ToldOf (G : List (List Nat)) (given : List Int) (a x : Nat) : Prop := ∃ l, (¬ Zp given a ∧ Trl G (Zp given) (Ap G given) a (x :: l)) ∧ ¬ Zp given x
theorem abOk {G : List (List Nat)} {given : List Int} (hg : GoodG G) (hin : ∀ z, z ∈ given → 0 ≤ z ∧ z < (G.length : Int)) : AbOk G (Zp given) (Ap G given) := by
  have hs : ∀ x, x ∈ given.map Int.toNat → x < G.length := fun x hx => by
    obtain ⟨y, hy, rfl⟩ := List.mem_map.1 hx
    have := hin y hy
    omega
  have hA : ∀ x, Ap G given x ↔ Up G (· ∈ given.map Int.toNat) x := fun x => by
    unfold Ap aB
    rw [decide_eq_true_iff, mem_castL, mem_upList hg hs]
  refine ⟨fun x hx => ?_, fun x hx p hp => ?_⟩
  · rw [hA]
    unfold Zp zB at hx
    rw [decide_eq_true_iff] at hx
    exact .base (List.mem_map.2 ⟨_, hx, by simp⟩)
  · rw [hA] at hx ⊢
    exact .step hx hp
theorem told_iff {G : List (List Nat)} {given : List Int} (hg : GoodG G) (hac : Acyc G) (hin : ∀ z, z ∈ given → 0 ≤ z ∧ z < (G.length : Int)) {xs : List Nat} (hx : ∀ a, a ∈ xs → a < G.length) (x : Nat) :
    (∃ a, a ∈ xs ∧ ToldOf G given a x) ↔ (∃ u, CameS G given xs (x, u)) ∧ zB given x = false := by
  have hA := abOk hg hin
  unfold ToldOf
  constructor
  · rintro ⟨a, ha, l, ⟨h1, h2⟩, h3⟩
    obtain ⟨m, u, hgo⟩ := (trl_iff hA hac.oneWay hg (hx a ha) h1).1 ⟨l, h2⟩
    have e : zB given a = false := by cases h : zB given a; rfl; exact absurd h h1
    have e2 : zB given x = false := by cases h : zB given x; rfl; exact absurd h h3
    exact ⟨⟨u, a, m, ha, e, hgo⟩, e2⟩
  · rintro ⟨⟨u, a, m, ha, h1, hgo⟩, h3⟩
    have e : ¬ Zp given a := fun h => by unfold Zp at h; rw [h1] at h; cases h
    have e2 : ¬ Zp given x := fun h => by unfold Zp at h; rw [h3] at h; cases h
    obtain ⟨l, hl⟩ := (trl_iff hA hac.oneWay hg (hx a ha) e).2 ⟨m, u, hgo⟩
    exact ⟨a, ha, l, ⟨e, hl⟩, e2⟩
theorem lookE_app (Ps : List (List Int)) (a given : List Int) : badE Ps (a ++ given) = lookE Ps given a := by
  unfold badE lookE
  by_cases hc : checkP Ps = 0
  · have e : ¬ (checkP Ps ≠ 0) := by rw [hc]; simp
    rw [if_neg e, if_neg e]
    have : inRow Ps.length (a ++ given) = true ↔ (inRow Ps.length given = true ∧ inRow Ps.length a = true) := by
      unfold inRow
      rw [List.all_append, Bool.and_eq_true]
      exact and_comm
    by_cases h : inRow Ps.length given = true ∧ inRow Ps.length a = true
    · rw [if_pos h, if_pos (this.2 h)]
    · rw [if_neg h, if_neg (fun h2 => h (this.1 h2))]
  · have e : checkP Ps ≠ 0 := hc
    rw [if_pos e, if_pos e]
def RReachPost (w : World) (Ps : List (List Int)) (a given : List Int) (e : Ending) (w' : World) : Prop :=
  Below w.heap.size w w' ∧ ∃ C k d, e = .returned (.tuple #[.slice C k d, .int .i64 (lookE Ps given a)]) ∧ (lookE Ps given a ≠ 0 → C = none ∧ k = 0 ∧ d = 0) ∧
    (lookE Ps given a = 0 → Sl (Value.int .i64) w' C k (castL (toldL (toG Ps) given (a.map Int.toNat))))
/-- what the first points have come to -/
structure CameN (G : List (List Nat)) (given : List Int) (xs : List Nat) (i : Nat) (n : Nat) (L : List Bool) : Prop where
  len : L.length = n
  iff : ∀ x, nth L x = true ↔ ∃ j, j < i ∧ ToldOf G given (nth xs j) x
theorem CameN.zero (G : List (List Nat)) (given : List Int) (xs : List Nat) (n : Nat) : CameN G given xs 0 n (List.replicate n false) := by
  refine ⟨by simp, fun x => ⟨fun h => ?_, fun ⟨j, hj, _⟩ => by omega⟩⟩
  rcases Nat.lt_or_ge x n with h1 | h1
  · rw [nth_eq (by simpa using h1)] at h; simp at h
  · have : nth (List.replicate n false) x = false := by simp [nth, List.getD, h1]
    rw [this] at h; cases h
/-- .. the next one's marks below q put in -/
structure CameQ (L0 L1 L : List Bool) (q : Nat) : Prop where
  len : L.length = L0.length
  iff : ∀ x, nth L x = (nth L0 x || (decide (x < q) && nth L1 x))
theorem CameQ.zero (L0 L1 : List Bool) : CameQ L0 L1 L0 0 := ⟨rfl, fun x => by simp⟩
theorem CameQ.set {L0 L1 L : List Bool} {q : Nat} (h : CameQ L0 L1 L q) (hq : q < L.length) : CameQ L0 L1 (L.set q (nth L q || nth L1 q)) (q + 1) := by
  refine ⟨by simpa using h.len, fun x => ?_⟩
  by_cases hx : x = q
  · subst hx
    rw [nth_set_same hq, h.iff]
    simp
  · rw [nth_set_other (fun e => hx e.symm), h.iff]
    by_cases h1 : x < q
    · simp [h1, Nat.lt_succ_of_lt h1]
    · have : ¬ x < q + 1 := by omega
      simp [h1, this]
theorem CameQ.done {G : List (List Nat)} {given : List Int} {xs : List Nat} {i n : Nat} {L0 L1 L : List Bool} (h : CameQ L0 L1 L n) (h0 : CameN G given xs i n L0) (h1 : L1.length = n) (h2 : ∀ x, nth L1 x = true ↔ ToldOf G given (nth xs i) x) : CameN G given xs (i + 1) n L := by
  refine ⟨h.len.trans h0.len, fun x => ?_⟩
  rw [h.iff, Bool.or_eq_true, Bool.and_eq_true, h0.iff, decide_eq_true_iff]
  constructor
  · rintro (⟨j, hj, ht⟩ | ⟨_, ht⟩)
    · exact ⟨j, by omega, ht⟩
    · exact ⟨i, by omega, (h2 x).1 ht⟩
  · rintro ⟨j, hj, ht⟩
    rcases Nat.lt_or_ge j i with h3 | h3
    · exact .inl ⟨j, h3, ht⟩
    · obtain rfl : j = i := by omega
      have h4 := (h2 x).2 ht
      refine .inr ⟨?_, h4⟩
      rw [← h1]
      rcases Nat.lt_or_ge x L1.length with h5 | h5
      · exact h5
      · have : nth L1 x = false := by simp [nth, List.getD, List.getElem?_eq_none h5]
        rw [this] at h4; cases h4

set_option maxRecDepth 100000 in
set_option maxHeartbeats 1600000 in
theorem rreach_ref (A B0 C0 : Option Addr) (n c m1 d1 m2 d2 : Nat) (Ps : List (List Int)) (a given : List Int) (w : World) (h : Rows (Value.int .i64) w A n Ps) (ha : Sl (Value.int .i64) w B0 m1 a) (hg : Sl (Value.int .i64) w C0 m2 given)
    (hn : n * 24 ≤ 140737488351232) (hsum : (m1 + m2) * 8 ≤ 140737488355328) : Calls Try.prog 14 #[.slice A n c, .slice B0 m1 d1, .slice C0 m2 d2] w (RReachPost w Ps a given) := by
  obtain ⟨wa, hwa⟩ : ∃ wa : World, wa = w := ⟨_, rfl⟩
  subst hwa
  have HL := Lib.hid (And.intro h.len (And.intro ha.len (And.intro hg.len (And.intro h (And.intro ha hg)))))
  have hemp : OwnR (Value.int .i64) (wa.alloc (.cells #[] 3)) wa.heap.size 3 (some ⟨wa.heap.size, 0, none⟩) 0 0 [] := by
    have hr : RowAt (Value.int .i64) (wa.alloc (.cells #[] 3)) wa.heap.size 3 ([] : List Int) [] := RowC.new wa 3 []
    exact OwnR.of_row' hr (Nat.le_refl _) rfl (by unfold maxLen; omega) rfl
  have hb0 : Below wa.heap.size wa (wa.alloc (.cells #[] 3)) := (Below.refl wa.heap.size wa).alloc (Nat.le_refl _) (.cells #[] 3)
  have ha0 := ha.below (Nat.le_refl _) hb0
  have hg0 := hg
  clear h ha hg
  go_enter Try.func14, Try.ntmps14
  go_wp2_with (first
    | (at_builtin; (with_reducible refine wpList_app _ eiInt (Value.int .i64) (fun _ => rfl) rfl _ _ rfl wa.heap.size _ _ _ _ rfl hemp _ _ _ _ rfl ha0 (by omega) (by simp) ?_); intro A8 c8 w8 ho8 hg8 hb8 hd8; have hb8' : Below wa.heap.size wa w8 := hb0.trans hb8; rw [Nat.zero_add] at ho8 hd8; rw [List.nil_append] at ho8; have hg8' := hg0.below (Nat.le_refl _) hb8')
    | (at_builtin; (with_reducible refine wpList_app _ eiInt (Value.int .i64) (fun _ => rfl) rfl _ _ rfl wa.heap.size _ _ _ _ rfl ho8 _ _ _ _ rfl hg8' (by omega) hb8'.size ?_))
    | fail)
  intro A9 c9 w9 ho9 hg9 hb9 hd9
  have hbw : Below wa.heap.size wa w9 := hb8'.trans hb9
  have hsl9 := ho9.sl (by omega)
  have h9 := HL.out.2.2.2.1.below (Nat.le_refl _) hbw
  have HB := Lib.hid hbw
  clear hbw ho9 hg9 hb9 hd9 ho8 hg8 hb8 hd8 hb8' hg8' hemp hb0 ha0 hg0
  go_wp2_with fail
  refine (bad_ref A A9 n c (m1 + m2) c9 Ps (a ++ given) _ h9 hsl9 hn).mono ?_
  rintro e w10 ⟨rfl, hb10⟩
  have hbw := HB.out.trans (hb10.mono HB.out.size)
  clear hsl9 h9 hb10
  rw [lookE_app]
  by_cases hE : lookE Ps given a = 0
  · rw [hE]
    obtain ⟨hck, hin1, hin2⟩ := lookE_inv hE
    rw [HL.out.1] at hin1 hin2
    have hga := inRow_iff.1 hin2
    have hgg := inRow_iff.1 hin1
    obtain ⟨hinr, _, hac⟩ := checkP_ok hck
    have hgood := good_toG hinr
    have hGl : (toG Ps).length = n := by rw [toG_length]; exact HL.out.1
    have hlt : ∀ x, x ∈ a.map Int.toNat → x < (toG Ps).length := fun x hx => by
      obtain ⟨y, hy, rfl⟩ := List.mem_map.1 hx
      have := hga y hy
      rw [hGl]; omega
    have htold := told_iff hgood hac (given := given) (by rw [hGl]; exact hgg) hlt
    have HE := Lib.hid (And.intro hE (And.intro hck (And.intro hin1 (And.intro hga (And.intro hGl (And.intro htold hbw))))))
    clear hE hck hin1 hin2 hga hgg hinr hac hgood hGl hlt htold hbw
    go_wp2_with (first
      | (with_reducible refine wpList_mk _ eiBool eB false rfl rfl _ _ rfl n rfl rfl (by omega) ?_)
      | fail)
    intro w11 hrow11 hb11
    go_wp2_with fail
    generalize hps : w10.heap.size = p at *
    go_loopw [10] (fun i wr => ∃ (k : Nat) (L : List Bool), i = .int .i64 (k : Nat) ∧ k ≤ m1 ∧ RowAt eB wr p 4 L [] ∧ Below p w10 wr ∧ CameN (toG Ps) given (a.map Int.toNat) k n L) (fun i _ => m1 - (intOf i).toNat)
    case atStart => exact ⟨0, _, rfl, Nat.zero_le _, hrow11, hb11, CameN.zero _ _ _ _⟩
    case round =>
      obtain ⟨k, L, rfl, hk, hrow, hbel, hcn⟩ := hrel
      obtain ⟨wb, hwb⟩ : ∃ wb : World, wb = wr := ⟨_, rfl⟩
      subst hwb
      by_cases hlt : k < m1
      · have hbw : Below wa.heap.size wa wb := HE.out.2.2.2.2.2.2.trans (hbel.mono (by have := HE.out.2.2.2.2.2.2.size; omega))
        obtain ⟨b, off, e1, hb, hc⟩ := (HL.out.2.2.2.2.1.below (Nat.le_refl _) hbw).at' (by omega)
        subst e1
        have g1 := hc k hlt
        have hka : k < a.length := by rw [HL.out.2.1]; exact hlt
        have hy := HE.out.2.2.2.1 _ (nth_mem hka)
        have hnm : nth (a.map Int.toNat) k = (nth a k).toNat := nth_map _ hka
        have hP := HL.out.2.2.2.1.below (Nat.le_refl _) hbw
        have hGv := HL.out.2.2.2.2.2.below (Nat.le_refl _) hbw
        generalize nth a k = s at *
        obtain ⟨y, rfl⟩ : ∃ y : Nat, s = (y : Int) := ⟨s.toNat, by omega⟩
        have hyn : y < n := by omega
        have hpl := hrow.lt
        have HR := Lib.hid (And.intro hrow (And.intro hbel (And.intro hcn hnm)))
        clear hrow hbel hcn hnm hc hka hbw hb hrow11 hb11
        go_wp2_with fail
        refine (start_ref A C0 n c m2 d2 Ps given y (-1) _ hP hGv HE.out.2.1 HE.out.2.2.1 hyn hn).mono ?_
        rintro e w5 ⟨wz, UA, mu, ud, hb, cb, L1, BA, bn, bc, bb, rfl, hb5, hcb, hM5, hL5, hH5⟩
        have hr5 := HR.out.1.below hb5 hpl
        have hbl5 : Below p w10 w5 := HR.out.2.1.trans (hb5.mono (Nat.le_of_lt hpl))
        have hlt5 := hM5.lt
        have htold : ∀ x, nth L1 x = true ↔ ToldOf (toG Ps) given y x := fun x => hH5.came x
        have HQ := Lib.hid (And.intro hr5 (And.intro hbl5 (And.intro hM5.row (And.intro hM5.came (And.intro hL5 htold)))))
        clear hr5 hbl5 hM5 hH5 hL5 htold hb5 hP hGv g1
        have hlL := HR.out.2.2.1.len
        go_wp2_with fail
        go_loopw [12] (fun i wr => ∃ (q : Nat) (L2 : List Bool), i = .int .i64 (q : Nat) ∧ q ≤ n ∧ RowAt eB wr p 4 L2 [] ∧ Below p w10 wr ∧ RowC wr hb 53 [.slice A n c, .slice C0 m2 d2, .slice UA mu ud, .int .i64 (-1), .slice BA bn bc, .slice (some ⟨cb, 0, none⟩) n n] ∧ RowAt eB wr cb 4 L1 [] ∧ CameQ L L1 L2 q) (fun i _ => n - (intOf i).toNat)
        case atStart => exact ⟨0, L, rfl, Nat.zero_le _, HQ.out.1, HQ.out.2.1, HQ.out.2.2.1, HQ.out.2.2.2.1, CameQ.zero _ _⟩
        case round =>
          obtain ⟨q, L2, rfl, hq, hr2, hbl2, hm2, hc2, hcq⟩ := hrel
          obtain ⟨wc, hwc⟩ : ∃ wc : World, wc = wr := ⟨_, rfl⟩
          subst hwc
          have hl2 := hcq.len
          rw [hlL] at hl2
          by_cases hqn : q < n
          · have g2 := hr2.cell (j := q) (by rw [hl2]; exact hqn)
            have f2 := hr2.frozen q
            have g3 := hc2.cell (j := q) (by rw [HQ.out.2.2.2.2.1]; exact hqn)
            have r5 := hm2.cell 5
            simp only [List.getElem?_cons_zero, List.getElem?_cons_succ] at r5
            have hnx := hcq.set (by rw [hl2]; exact hqn)
            have hr3 := hr2.set (j := q) (by rw [hl2]; exact hqn) (nth L2 q || nth L1 q)
            have hbl3 := hbl2.setCell (p := ⟨p, q, none⟩) (Nat.le_refl _) (eB (nth L2 q || nth L1 q))
            have hm3 := hm2.far (p := ⟨p, q, none⟩) (by simp; omega) (eB (nth L2 q || nth L1 q))
            have hc3 := hc2.setCellFar (p := ⟨p, q, none⟩) (by simp; omega) (eB (nth L2 q || nth L1 q))
            clear hr2 hbl2 hm2 hc2 hcq
            generalize nth L2 q = u at *
            generalize nth L1 q = v at *
            have HN := Lib.hid (And.intro hr3 (And.intro hbl3 (And.intro hm3 (And.intro hc3 hnx)))); clear hr3 hbl3 hm3 hc3 hnx
            cases u with
            | true =>
              go_wp2_with fail
              exact ⟨⟨q + 1, L2.set q true, by go_num, by omega, HN.out.1, HN.out.2.1, HN.out.2.2.1, HN.out.2.2.2.1, HN.out.2.2.2.2⟩, by simp [intOf]; omega⟩
            | false =>
              go_wp2_with fail
              exact ⟨⟨q + 1, L2.set q v, by go_num, by omega, HN.out.1, HN.out.2.1, HN.out.2.2.1, HN.out.2.2.2.1, HN.out.2.2.2.2⟩, by simp [intOf]; omega⟩
          · obtain rfl : q = n := by omega
            have hdn := hcq.done HR.out.2.2.1 HQ.out.2.2.2.2.1 (by rw [HR.out.2.2.2]; simpa using HQ.out.2.2.2.2.2)
            have HN := Lib.hid (And.intro hr2 (And.intro hbl2 hdn)); clear hr2 hbl2 hm2 hc2 hcq hdn
            go_wp2_with fail
            exact ⟨⟨k + 1, L2, by go_num, by omega, HN.out.1, HN.out.2.1, HN.out.2.2⟩, by simp [intOf]; omega⟩
      · obtain rfl : k = m1 := by omega
        have hlen := hcn.len
        have hfl0 : (List.range n).filter (fun x => nth L x) = toldL (toG Ps) given (a.map Int.toNat) := by
          unfold toldL
          rw [HE.out.2.2.2.2.1]
          refine ptsOf_eq (rising_filter _ _) fun x => ?_
          rw [List.mem_filter, List.mem_range, hcn.iff, ← HE.out.2.2.2.2.2.1 x]
          have hka : (a.map Int.toNat).length = k := by rw [List.length_map]; exact HL.out.2.1
          constructor
          · rintro ⟨h1, j, hj, ht⟩; exact ⟨h1, _, nth_mem (by rw [hka]; exact hj), ht⟩
          · rintro ⟨h1, z, hz, ht⟩; obtain ⟨j, hj, rfl⟩ := mem_nth hz; exact ⟨h1, j, by rw [hka] at hj; exact hj, ht⟩
        have HT := Lib.hid (And.intro hfl0 (And.intro hrow hbel)); clear hfl0 hcn hrow hbel hrow11 hb11
        go_wp2_with fail
        go_loopw [13, 14] (fun l i wr => ∃ (q k' c' : Nat) (A' : Option Addr), i = .int .i64 (q : Nat) ∧ l = .slice A' k' c' ∧ q ≤ n ∧ RowAt eB wr p 4 L [] ∧ OwnR eN wr (p + 1) 3 A' k' c' ((List.range q).filter fun x => nth L x) ∧ Below p w10 wr) (fun _ i _ => n - (intOf i).toNat)
        case atStart => exact ⟨0, 0, 0, none, rfl, rfl, Nat.zero_le _, HT.out.2.1, OwnR.nil _ _ _ _, HT.out.2.2⟩
        case round =>
          obtain ⟨q, k', c', A', rfl, rfl, hq, hrow2, hown2, hbel2⟩ := hrel
          obtain ⟨wd, hwd⟩ : ∃ wd : World, wd = wr := ⟨_, rfl⟩
          subst hwd
          by_cases hkn : q < n
          · have g2 := hrow2.cell (j := q) (by rw [hlen]; exact hkn)
            have hpl := hrow2.lt
            have hfl : (List.range (q + 1)).filter (fun x => nth L x) = (List.range q).filter (fun x => nth L x) ++ (if nth L q = true then [q] else []) := by
              rw [List.range_succ, List.filter_append]
              simp [List.filter_cons]
            have hlk := hown2.length
            have hkl := List.length_filter_le (fun x => nth L x) (List.range q)
            rw [List.length_range] at hkl
            have hk8 : (k' + 1) * 8 ≤ 140737488355328 := by omega
            clear hlk hkl
            cases hm : nth L q with
            | true =>
              rw [hm] at g2 hfl
              rw [if_pos rfl] at hfl
              have hos := hown2.alloc (.cells #[.int .i64 (q : Int)] 3)
              have H2 := Lib.hid (And.intro hrow2 (And.intro hbel2 (And.intro hfl hown2))); clear hrow2 hbel2 hfl hown2 hm
              go_wp2_with (first
                | (at_builtin; refine wpList_app _ eiInt eN one_eN rfl _ _ rfl (p + 1) _ _ _ _ rfl hos _ _ _ _ rfl (Sl.one (enc := eN) _ _ _) (by omega) (by simp; omega) ?_)
                | fail)
              intro A9 c9 w9 ho9 hg9 hb9 hd9
              have hne : some p ≠ (Value.slice A' k' c').ownBlock := fun e => by
                rcases H2.out.2.2.2.at_row with h1 | ⟨g', h1, h2, _⟩
                · rw [h1] at e; cases e
                · rw [h1] at e; injection e with e; have e' : p = g' := e; omega
              have hr9 := (H2.out.1.alloc (.cells #[.int .i64 (q : Int)] 3)).grown hg9 hne
              have hbl9 : Below p w10 w9 := (H2.out.2.1.alloc (by omega) (.cells #[.int .i64 (q : Int)] 3)).trans (hb9.mono (Nat.le_succ _))
              rw [← H2.out.2.2.1] at ho9
              have H9 := Lib.hid (And.intro hr9 (And.intro ho9 hbl9)); clear hr9 ho9 hbl9 hg9 hb9 hd9 hos
              go_wp2_with fail
              exact ⟨⟨q + 1, k' + 1, c9, A9, by go_num, rfl, by omega, H9.out.1, H9.out.2.1, H9.out.2.2⟩, by simp [intOf]; omega⟩
            | false =>
              rw [hm] at g2 hfl
              rw [if_neg (by simp), List.append_nil] at hfl
              rw [← hfl] at hown2
              have H2 := Lib.hid (And.intro hrow2 (And.intro hbel2 hown2)); clear hrow2 hbel2 hfl hown2 hm
              go_wp2_with fail
              exact ⟨⟨q + 1, k', c', A', by go_num, rfl, by omega, H2.out.1, H2.out.2.2, H2.out.2.1⟩, by simp [intOf]; omega⟩
          · obtain rfl : q = n := by omega
            have hlk := hown2.length
            have hkl := List.length_filter_le (fun x => nth L x) (List.range q)
            rw [List.length_range] at hkl
            have hsl := (hown2.sl (by omega)).toInt
            rw [HT.out.1] at hsl
            have hbw : Below wa.heap.size wa wd := HE.out.2.2.2.2.2.2.trans (hbel2.mono (by have := HE.out.2.2.2.2.2.2.size; omega))
            have H2 := Lib.hid (And.intro hsl hbw); clear hsl hbel2 hown2 hrow2 hlk hkl hbw
            go_wp2_with fail
            go_ret2
            exact ⟨H2.out.2, A', k', c', by rw [HE.out.1]; rfl, fun h => absurd HE.out.1 h, fun _ => H2.out.1⟩
  · have HF := Lib.hid (And.intro hbw hE); clear hbw
    go_wp2_with fail
    go_ret2
    exact ⟨HF.out.1, none, 0, 0, rfl, fun _ => ⟨rfl, rfl, rfl⟩, fun h => absurd h hE⟩
end Go.Proofs.Ytaibdlnolpbpiaa
