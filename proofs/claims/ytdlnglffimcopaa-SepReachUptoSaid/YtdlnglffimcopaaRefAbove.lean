/- credenceref14.closed and Above, walked: all that is above some points. Conditions: the parents and the points within Go's bound. -/
import Derived.Test.YtdlnglffimcopaaClos
import Derived.Test.YtdlnglffimcopaaRefOut
import Derived.Test.YtdlnglffimcopaaReach
import Derived.Test.YtdlnglffimcopaaAbove
namespace Go.Proofs.Ytdlnglffimcopaa
open Go.RowKit

abbrev eB : Bool → Value := Value.bool
theorem one_eB (b : Bool) : (eB b).oneCell' = true := rfl
theorem eiBool : EI Try.prog 48 4 (.bool false) 1 := .mk' Try.underlying48 (by kernel_rfl) rfl (by omega)
/-- behind the first k points -/
structure MarkP (n : Nat) (pts : List Int) (k : Nat) (L : List Bool) : Prop where
  len : L.length = n
  ok : inRow n (pts.take k) = true
  iff : ∀ x, nth L x = true ↔ ∃ j, j < k ∧ (nth pts j).toNat = x
theorem MarkP.zero (n : Nat) (pts : List Int) : MarkP n pts 0 (List.replicate n false) := by
  refine ⟨by simp, rfl, fun x => ⟨fun h => ?_, fun ⟨j, hj, _⟩ => by omega⟩⟩
  rcases Nat.lt_or_ge x n with h1 | h1
  · rw [nth_eq (by simpa using h1)] at h; simp at h
  · have : nth (List.replicate n false) x = false := by simp [nth, List.getD, h1]
    rw [this] at h; cases h
theorem MarkP.snoc {n : Nat} {pts : List Int} {k : Nat} {L : List Bool} (h : MarkP n pts k L) (hk : k < pts.length) (h0 : 0 ≤ nth pts k) (h1 : nth pts k < (n : Int)) : MarkP n pts (k + 1) (L.set (nth pts k).toNat true) := by
  have hsn := all_inRow_snoc (n := n) hk
  refine ⟨by simpa using h.len, by rw [hsn, h.ok, Bool.true_and]; simp; omega, fun x => ?_⟩
  rw [nth_setB (by rw [h.len]; omega), Bool.or_eq_true, decide_eq_true_eq, h.iff]
  constructor
  · rintro (rfl | ⟨j, hj, e⟩)
    · exact ⟨k, by omega, rfl⟩
    · exact ⟨j, by omega, e⟩
  · rintro ⟨j, hj, e⟩
    rcases Nat.lt_or_ge j k with h2 | h2
    · exact .inr ⟨j, h2, e⟩
    · obtain rfl : j = k := by omega
      exact .inl e.symm
theorem MarkP.passes {G : List (List Nat)} {pts : List Int} {L : List Bool} (h : MarkP G.length pts pts.length L) : PassesU G (· ∈ pts.map Int.toNat) L 0 := by
  have hm : ∀ x, nth L x = true ↔ x ∈ pts.map Int.toNat := fun x => by
    rw [h.iff, List.mem_map]
    constructor
    · rintro ⟨j, hj, e⟩; exact ⟨_, nth_mem hj, e⟩
    · rintro ⟨y, hy, e⟩; obtain ⟨j, hj, rfl⟩ := mem_nth hy; exact ⟨j, hj, e⟩
  exact ⟨h.len, fun x hx => (hm x).2 hx, fun x hx => .base ((hm x).1 hx), .inr (Nat.zero_le _)⟩
theorem up_done {G : List (List Nat)} {pts : List Int} {L : List Bool} {i : Nat} (h : PassesU G (· ∈ pts.map Int.toNat) L i) (hg : GoodG G) (hi : G.length ≤ i) : (List.range G.length).filter (fun x => nth L x) = upList G (pts.map Int.toNat) := by
  refine ptsOf_eq (rising_filter _ _) fun x => ?_
  rw [List.mem_filter, List.mem_range, h.all hg hi]

set_option maxRecDepth 100000 in
set_option maxHeartbeats 800000 in
theorem closed_ref (A B : Option Addr) (n c m d : Nat) (Ps : List (List Int)) (pts : List Int) (w : World) (h : Rows (Value.int .i64) w A n Ps) (hr : inR Ps = true) (hp : Sl (Value.int .i64) w B m pts) (hn : n * 24 ≤ 140737488351232) :
    Calls Try.prog 97 #[.slice A n c, .slice B m d] w (ReachPost w (toG Ps) pts) := by
  have hpb := hp.big
  have hG := h.toNat hr
  have hgood := good_toG hr
  have HL := Lib.hid (And.intro h.len (And.intro hp.len (And.intro (toG_length Ps) hgood)))
  clear hgood
  obtain ⟨wa, hwa⟩ : ∃ wa : World, wa = w := ⟨_, rfl⟩
  subst hwa
  clear h hr
  go_enter Try.func97, Try.ntmps97
  go_wp2_with (first
    | (with_reducible refine wpList_mk _ eiBool eB false rfl rfl _ _ rfl n rfl rfl (by omega) ?_)
    | fail)
  intro w1 hrow1 hb1
  go_wp2_with fail
  generalize hps : wa.heap.size = p at *
  go_loopw [7] (fun i wr => ∃ (k : Nat) (L : List Bool), i = .int .i64 (k : Nat) ∧ k ≤ m ∧ RowAt eB wr p 4 L [] ∧ Below p wa wr ∧ MarkP n pts k L) (fun i _ => m - (intOf i).toNat)
  case atStart => exact ⟨0, _, rfl, Nat.zero_le _, hrow1, hb1, MarkP.zero n pts⟩
  case round =>
    obtain ⟨k, L, rfl, hk, hrow, hbel, hmk⟩ := hrel
    obtain ⟨wb, hwb⟩ : ∃ wb : World, wb = wr := ⟨_, rfl⟩
    subst hwb
    by_cases hlt : k < m
    · obtain ⟨b, off, rfl, hb, hc⟩ := (hp.below (Nat.le_of_eq hps) hbel).at' (by omega)
      have g1 := hc k hlt
      have hkl : k < pts.length := by rw [HL.out.2.1]; exact hlt
      have hlen := hmk.len
      have hbad : ¬ (0 ≤ nth pts k ∧ nth pts k < (n : Int)) → inRow (toG Ps).length pts = false := fun hb => by
        rw [HL.out.2.2.1, HL.out.1]
        refine all_down _ hkl ?_
        simp only [Bool.and_eq_false_iff, decide_eq_false_iff_not]; omega
      have hsn := fun h0 h1 => hmk.snoc hkl h0 h1
      generalize hs : nth pts k = s at *
      have HS := Lib.hid (And.intro hbad (And.intro hsn (And.intro hrow (And.intro hbel hs)))); clear hbad hsn hmk hc hkl hs
      by_cases hs0 : s < 0
      · have HC := Lib.hid (HS.out.1 (by omega))
        clear hrow
        go_wp2_with fail
        go_ret2
        exact ⟨by rw [hps]; exact HS.out.2.2.2.1, none, 0, 0, by rw [HC.out]; rfl, fun h => (by rw [HC.out] at h; cases h), fun _ => ⟨rfl, rfl, rfl⟩⟩
      · by_cases hs1 : (n : Int) ≤ s
        · have HC := Lib.hid (HS.out.1 (by omega))
          clear hrow
          go_wp2_with fail
          go_ret2
          exact ⟨by rw [hps]; exact HS.out.2.2.2.1, none, 0, 0, by rw [HC.out]; rfl, fun h => (by rw [HC.out] at h; cases h), fun _ => ⟨rfl, rfl, rfl⟩⟩
        · obtain ⟨x, rfl⟩ : ∃ x : Nat, s = (x : Int) := ⟨s.toNat, by omega⟩
          have hxn : x < n := by omega
          have g2 := hrow.cell (j := x) (by rw [hlen]; exact hxn)
          have f2 := hrow.frozen x
          have hm2 := HS.out.2.1 (by omega) (by omega)
          have hr2 := hrow.set (j := x) (by rw [hlen]; exact hxn) true
          have hb2 := hbel.setCell (p := ⟨p, x, none⟩) (Nat.le_refl _) (eB true)
          have H2 := Lib.hid (And.intro hm2 (And.intro hr2 hb2)); clear hm2 hr2 hb2 hrow
          clear hs0
          go_wp2_with fail
          exact ⟨⟨k + 1, L.set x true, by go_num, by omega, H2.out.2.1, H2.out.2.2, by simpa using H2.out.1⟩, by simp [intOf]; omega⟩
    · obtain rfl : k = m := by omega
      have hin : inRow (toG Ps).length pts = true := by
        have := hmk.ok
        rw [take_all (by rw [HL.out.2.1]; exact Nat.le_refl _)] at this
        rw [HL.out.2.2.1, HL.out.1]; exact this
      have hps0 : PassesU (toG Ps) (· ∈ pts.map Int.toNat) L 0 := by
        refine MarkP.passes ?_
        rw [HL.out.2.2.1, HL.out.1, HL.out.2.1]; exact hmk
      have HI := Lib.hid (And.intro hin (And.intro hps0 (And.intro hrow hbel))); clear hin hps0 hrow hbel hmk
      go_wp2_with fail
      go_loopw [8] (fun i wr => ∃ (k : Nat) (L : List Bool), i = .int .i64 (k : Nat) ∧ k ≤ n ∧ RowAt eB wr p 4 L [] ∧ Below p wa wr ∧ PassesU (toG Ps) (· ∈ pts.map Int.toNat) L k) (fun i _ => n - (intOf i).toNat)
      case atStart => exact ⟨0, L, rfl, Nat.zero_le _, HI.out.2.2.1, HI.out.2.2.2, HI.out.2.1⟩
      case round =>
        obtain ⟨i0, L0, rfl, hi0, hrow0, hbel0, hpas0⟩ := hrel
        obtain ⟨wc, hwc⟩ : ∃ wc : World, wc = wr := ⟨_, rfl⟩
        subst hwc
        have H0 := Lib.hid (And.intro hrow0 (And.intro hbel0 hpas0)); clear hrow0 hbel0 hpas0
        by_cases hlt0 : i0 < n
        · go_wp2_with fail
          go_loopw [9] (fun i wr => ∃ (q : Nat) (L : List Bool), i = .int .i64 (q : Nat) ∧ q ≤ n ∧ RowAt eB wr p 4 L [] ∧ Below p wa wr ∧ PassU (toG Ps) (· ∈ pts.map Int.toNat) L0 L q 0) (fun i _ => n - (intOf i).toNat)
          case atStart => exact ⟨0, L0, rfl, Nat.zero_le _, H0.out.1, H0.out.2.1, PassU.begin H0.out.2.2.len H0.out.2.2.sound⟩
          case round =>
            obtain ⟨q, L1, rfl, hq, hrow1, hbel1, hpas1⟩ := hrel
            obtain ⟨wd, hwd⟩ : ∃ wd : World, wd = wr := ⟨_, rfl⟩
            subst hwd
            have H1 := Lib.hid (And.intro hrow1 (And.intro hbel1 hpas1)); clear hrow1 hbel1 hpas1
            by_cases hltq : q < n
            · obtain ⟨b, off, R, m5, d5, rfl, hb, hcell, hsl5⟩ := hG.row (i := q) hltq
              have HC5 := Lib.hid (And.intro hb hcell)
              have HR := Lib.hid hsl5
              have hbg5 := hsl5.big
              clear hsl5 hb hcell
              go_wp2_with fail
              go_loopw [10] (fun i wr => ∃ (r : Nat) (L : List Bool), i = .int .i64 (r : Nat) ∧ r ≤ m5 ∧ RowAt eB wr p 4 L [] ∧ Below p wa wr ∧ PassU (toG Ps) (· ∈ pts.map Int.toNat) L0 L q r) (fun i _ => m5 - (intOf i).toNat)
              case atStart => exact ⟨0, L1, rfl, Nat.zero_le _, H1.out.1, H1.out.2.1, H1.out.2.2⟩
              case round =>
                obtain ⟨r, L2, rfl, hr, hrow2, hbel2, hpas2⟩ := hrel
                obtain ⟨we, hwe⟩ : ∃ we : World, we = wr := ⟨_, rfl⟩
                subst hwe
                have a0 := ((keeps hbel2).1 b (off + q) (by rw [← hps]; exact HC5.out.1)).trans HC5.out.2
                have hl2 := hpas2.len
                rw [HL.out.2.2.1, HL.out.1] at hl2
                have q1 : (0 : Int) ≤ (q : Nat) := by omega
                have q2 : ((q : Nat) : Int) < (n : Nat) := by omega
                have g2 := hrow2.cell (j := q) (by rw [hl2]; exact hltq)
                by_cases hr5 : r < m5
                · have hr5' : ((r : Nat) : Int) < (m5 : Nat) := by omega
                  cases hm : nth L2 q with
                  | true =>
                    rw [hm] at g2
                    obtain ⟨b3, off3, rfl, _, hc⟩ := (HR.out.below (Nat.le_of_eq hps) hbel2).at' (by omega)
                    have g3 := hc r hr5
                    have hrl : r < (nth (toG Ps) q).length := by rw [HR.out.len]; exact hr5
                    have hyn := HL.out.2.2.2 q (by rw [HL.out.2.2.1, HL.out.1]; exact hltq) _ (nth_mem hrl)
                    rw [HL.out.2.2.1, HL.out.1] at hyn
                    have hmk := hpas2.mark HL.out.2.2.2 (by rw [HL.out.2.2.1, HL.out.1]; exact hltq) hrl hm
                    generalize nth (nth (toG Ps) q) r = y at *
                    have f4 := hrow2.frozen y
                    have g4 := hrow2.cell (j := y) (by rw [hl2]; exact hyn)
                    have hr2 := hrow2.set (j := y) (by rw [hl2]; exact hyn) true
                    have hb2 := hbel2.setCell (p := ⟨p, y, none⟩) (Nat.le_refl _) (eB true)
                    have H2 := Lib.hid (And.intro hr2 (And.intro hb2 hmk)); clear hr2 hb2 hmk hc hrow2 hpas2 hbel2 hm
                    go_wp2_with fail
                    exact ⟨⟨r + 1, L2.set y true, by go_num, by omega, H2.out.1, H2.out.2.1, H2.out.2.2⟩, by simp [intOf]; omega⟩
                  | false =>
                    rw [hm] at g2
                    have hnx := hpas2.next (.inr hm)
                    have H2 := Lib.hid (And.intro hrow2 (And.intro hbel2 hnx)); clear hnx hrow2 hpas2 hbel2 hm
                    go_wp2_with fail
                    exact ⟨⟨q + 1, L2, by go_num, by omega, H2.out.1, H2.out.2.1, H2.out.2.2⟩, by simp [intOf]; omega⟩
                · obtain rfl : r = m5 := by omega
                  have hnx := hpas2.next (.inl (by rw [HR.out.len]; exact Nat.le_refl _))
                  have H2 := Lib.hid (And.intro hrow2 (And.intro hbel2 hnx)); clear hnx hrow2 hpas2 hbel2 g2
                  go_wp2_with fail
                  exact ⟨⟨q + 1, L2, by go_num, by omega, H2.out.1, H2.out.2.1, H2.out.2.2⟩, by simp [intOf]; omega⟩
            · obtain rfl : q = n := by omega
              have hpn : PassesU (toG Ps) (· ∈ pts.map Int.toNat) L1 (i0 + 1) := by
                refine PassU.passes (L0 := L0) ?_ H0.out.2.2
                rw [HL.out.2.2.1, HL.out.1]; exact H1.out.2.2
              have HN := Lib.hid hpn; clear hpn
              go_wp2_with fail
              exact ⟨⟨i0 + 1, L1, by go_num, by omega, H1.out.1, H1.out.2.1, HN.out⟩, by simp [intOf]; omega⟩
        · obtain rfl : i0 = n := by omega
          have hdn := up_done H0.out.2.2 HL.out.2.2.2 (by rw [HL.out.2.2.1, HL.out.1]; exact Nat.le_refl _)
          have HN := Lib.hid hdn; clear hdn
          have hlen := H0.out.2.2.len
          rw [HL.out.2.2.1, HL.out.1] at hlen
          go_wp2_with fail
          go_loopw [11, 12] (fun l i wr => ∃ (k k' c' : Nat) (A' : Option Addr), i = .int .i64 (k : Nat) ∧ l = .slice A' k' c' ∧ k ≤ i0 ∧ RowAt eB wr p 4 L0 [] ∧ OwnR eN wr (p + 1) 3 A' k' c' ((List.range k).filter fun x => nth L0 x) ∧ Below p wa wr) (fun _ i _ => i0 - (intOf i).toNat)
          case atStart => exact ⟨0, 0, 0, none, rfl, rfl, Nat.zero_le _, H0.out.1, OwnR.nil _ _ _ _, H0.out.2.1⟩
          case round =>
            obtain ⟨k, k', c', A', rfl, rfl, hk, hrow2, hown2, hbel2⟩ := hrel
            obtain ⟨wd, hwd⟩ : ∃ wd : World, wd = wr := ⟨_, rfl⟩
            subst hwd
            by_cases hkn : k < i0
            · have g2 := hrow2.cell (j := k) (by rw [hlen]; exact hkn)
              have hpl := hrow2.lt
              have hfl : (List.range (k + 1)).filter (fun x => nth L0 x) = (List.range k).filter (fun x => nth L0 x) ++ (if nth L0 k = true then [k] else []) := by
                rw [List.range_succ, List.filter_append]
                simp [List.filter_cons]
              have hlk := hown2.length
              have hkl := List.length_filter_le (fun x => nth L0 x) (List.range k)
              rw [List.length_range] at hkl
              have hk8 : (k' + 1) * 8 ≤ 140737488355328 := by omega
              clear hlk hkl
              cases hm : nth L0 k with
              | true =>
                rw [hm] at g2 hfl
                rw [if_pos rfl] at hfl
                have hos := hown2.alloc (.cells #[.int .i64 (k : Int)] 3)
                have H2 := Lib.hid (And.intro hrow2 (And.intro hbel2 (And.intro hfl hown2))); clear hrow2 hbel2 hfl hown2 hm
                go_wp2_with (first
                  | (at_builtin; refine wpList_app _ eiInt eN one_eN rfl _ _ rfl (p + 1) _ _ _ _ rfl hos _ _ _ _ rfl (Sl.one (enc := eN) _ _ _) (by omega) (by simp; omega) ?_)
                  | fail)
                intro A9 c9 w9 ho9 hg9 hb9 hd9
                have hne : some p ≠ (Value.slice A' k' c').ownBlock := fun e => by
                  rcases H2.out.2.2.2.at_row with h1 | ⟨g', h1, h2, _⟩
                  · rw [h1] at e; cases e
                  · rw [h1] at e; injection e with e; have e' : p = g' := e; omega
                have hr9 := (H2.out.1.alloc (.cells #[.int .i64 (k : Int)] 3)).grown hg9 hne
                have hbl9 : Below p wa w9 := (H2.out.2.1.alloc (by omega) (.cells #[.int .i64 (k : Int)] 3)).trans (hb9.mono (Nat.le_succ _))
                rw [← H2.out.2.2.1] at ho9
                have H9 := Lib.hid (And.intro hr9 (And.intro ho9 hbl9)); clear hr9 ho9 hbl9 hg9 hb9 hd9 hos
                go_wp2_with fail
                exact ⟨⟨k + 1, k' + 1, c9, A9, by go_num, rfl, by omega, H9.out.1, H9.out.2.1, H9.out.2.2⟩, by simp [intOf]; omega⟩
              | false =>
                rw [hm] at g2 hfl
                rw [if_neg (by simp), List.append_nil] at hfl
                rw [← hfl] at hown2
                have H2 := Lib.hid (And.intro hrow2 (And.intro hbel2 hown2)); clear hrow2 hbel2 hfl hown2 hm
                go_wp2_with fail
                exact ⟨⟨k + 1, k', c', A', by go_num, rfl, by omega, H2.out.1, H2.out.2.2, H2.out.2.1⟩, by simp [intOf]; omega⟩
            · obtain rfl : k = i0 := by omega
              have hlk := hown2.length
              have hkl := List.length_filter_le (fun x => nth L0 x) (List.range k)
              rw [List.length_range] at hkl
              have hsl := hown2.sl (by omega)
              have hN := HN.out
              rw [HL.out.2.2.1, HL.out.1] at hN
              rw [hN] at hsl
              have H2 := Lib.hid (And.intro hsl hbel2); clear hsl hbel2 hown2 hrow2 hN hlk hkl
              go_wp2_with fail
              go_ret2
              exact ⟨by rw [hps]; exact H2.out.2, A', k', c', by rw [HI.out.1]; rfl, fun _ => H2.out.1, fun h => (by rw [HI.out.1] at h; cases h)⟩
/-- the reference's Above -/
theorem above_ref (A B : Option Addr) (n c m d : Nat) (Ps : List (List Int)) (pts : List Int) (w : World) (h : Rows (Value.int .i64) w A n Ps) (hp : Sl (Value.int .i64) w B m pts) (hn : n * 24 ≤ 140737488351232) (hc : checkP Ps = 0) :
    Calls Try.prog 74 #[.slice A n c, .slice B m d] w (ReachPost w (toG Ps) pts) := by
  obtain ⟨wa, hwa⟩ : ∃ wa : World, wa = w := ⟨_, rfl⟩
  subst hwa
  go_enter Try.func74, Try.ntmps74
  go_wp2_with fail
  refine (check_ref A n c Ps _ h hn).mono ?_
  rintro e w1 ⟨rfl, hb1⟩
  rw [hc]
  have h1 := h.below (Nat.le_refl _) hb1
  have hp1 := hp.below (Nat.le_refl _) hb1
  have hin := (checkP_ok hc).1
  have HB := Lib.hid hb1
  clear h hp hb1
  go_wp2_with fail
  refine (closed_ref A B n c m d Ps pts _ h1 hin hp1 hn).mono ?_
  rintro e w2 ⟨hb2, C, k, d9, rfl, hh⟩
  have H2 := Lib.hid (And.intro hb2 hh)
  clear hb2 hh
  by_cases hr : inRow (toG Ps).length pts = true
  · rw [if_pos hr]
    have HR := Lib.hid hr; clear hr
    go_wp2_with fail
    go_ret2
    exact ⟨HB.out.trans (H2.out.1.mono HB.out.size), C, k, d9, by rw [if_pos HR.out]; rfl, H2.out.2⟩
  · rw [if_neg hr]
    have HR := Lib.hid hr; clear hr
    go_wp2_with fail
    go_ret2
    exact ⟨HB.out.trans (H2.out.1.mono HB.out.size), C, k, d9, by rw [if_neg HR.out]; rfl, H2.out.2⟩
end Go.Proofs.Ytdlnglffimcopaa
