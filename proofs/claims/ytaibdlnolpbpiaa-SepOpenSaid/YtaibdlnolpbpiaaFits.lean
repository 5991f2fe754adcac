/- dag.fits, walked: are all parents points, does none stand twice. Condition: the parents read. -/
import Derived.Test.YtaibdlnolpbpiaaMap
import Derived.Test.YtaibdlnolpbpiaaLists
import Derived.IntWalk
namespace Go.Proofs.Ytaibdlnolpbpiaa
open Go.RowKit

theorem zeroI (w : World) : (zeroValue 3).run Try.prog w = .ok (.int .i64 0) w := by kernel_rfl
/-- what fits says -/
def fitsC (Ps : List (List Int)) : Int := if inR Ps = false then 3 else if Ps.any dup = true then 40 else 0
theorem fitsC_3 {Ps : List (List Int)} {k : Nat} (h : k < Ps.length) {q : Nat} (hq : q < (nth Ps k).length) (hb : ¬ (0 ≤ nth (nth Ps k) q ∧ nth (nth Ps k) q < (Ps.length : Int))) : fitsC Ps = 3 := by
  unfold fitsC; rw [if_pos]
  refine all_down _ h ?_
  refine all_down _ hq ?_
  simp only [Bool.and_eq_false_iff, decide_eq_false_iff_not]
  omega
theorem fitsC_40 {Ps : List (List Int)} (hr : inR Ps = true) {k : Nat} (h : k < Ps.length) {q : Nat} (hq : q < (nth Ps k).length) (hd : dupAt (nth Ps k) q = true) : fitsC Ps = 40 := by
  unfold fitsC; rw [if_neg (by rw [hr]; simp), if_pos (any_upp _ h (dup_up hq hd))]
theorem fitsC_0 {Ps : List (List Int)} (hr : inR Ps = true) (hd : Ps.any dup = false) : fitsC Ps = 0 := by
  unfold fitsC; rw [if_neg (by rw [hr]; simp), if_neg (by rw [hd]; simp)]
/-- what the map of what was seen reads as -/
def seenI (l : List Int) : Int → Option Int := fun x => if x ∈ l then some 1 else none
theorem seenI_snoc (l : List Int) (x y : Int) : putI (seenI l) x 1 y = seenI (l ++ [x]) y := by
  unfold putI seenI
  by_cases h : y = x
  · subst h; simp
  · simp [h]
theorem seenI_val (l : List Int) (x : Int) : (seenI l x).getD 0 = if l.contains x then 1 else 0 := by
  unfold seenI
  by_cases h : x ∈ l
  · rw [if_pos h, if_pos (by simpa using h)]; rfl
  · rw [if_neg h, if_neg (by simpa using h)]; rfl

set_option maxRecDepth 100000 in
set_option maxHeartbeats 1600000 in
theorem fits_any (A : Option Addr) (n c : Nat) (Ps : List (List Int)) (w : World) (h : Rows (Value.int .i64) w A n Ps) :
    Calls Try.prog 89 #[.slice A n c] w fun e w' => e = .returned (.int .i64 (fitsC Ps)) ∧ Below w.heap.size w w' := by
  have hbig := h.big
  have HI := Lib.hid h.len
  obtain ⟨wa, hwa⟩ : ∃ wa : World, wa = w := ⟨_, rfl⟩
  subst hwa
  have hmm := fun (n : Int) (w : World) => run_makeMap_some (P := Try.prog) Try.underlying91 n w
  go_enter Try.func89, Try.ntmps89
  go_wp2_with fail
  go_loopw [14] (fun i wr => ∃ k : Nat, i = .int .i64 (k : Nat) ∧ k ≤ n ∧ (Ps.take k).all (inRow n) = true ∧ wr = wa) (fun i _ => n - (intOf i).toNat)
  case atStart => exact ⟨0, rfl, Nat.zero_le _, by simp, rfl⟩
  case round =>
    obtain ⟨k, rfl, hk, hall, hwr⟩ := hrel
    have hwr := hwr.symm
    subst hwr
    by_cases hlt : k < n
    · obtain ⟨b, off, B, m, d, rfl, _, g1, hrow⟩ := h.row hlt
      have hbm := hrow.big
      have HL := Lib.hid (And.intro hrow.len hall); clear hall
      go_wp2_with fail
      go_loopw [20] (fun j wr => ∃ q : Nat, j = .int .i64 (q : Nat) ∧ q ≤ m ∧ inRow n ((nth Ps k).take q) = true ∧ wr = wa) (fun j _ => m - (intOf j).toNat)
      case atStart => exact ⟨0, rfl, Nat.zero_le _, by simp [inRow], rfl⟩
      case round =>
        obtain ⟨q, rfl, hq, hin, hwr⟩ := hrel
        have hwr := hwr.symm
        subst hwr
        by_cases hqm : q < m
        · obtain ⟨b2, off2, rfl, _, hc⟩ := hrow.at' (by omega)
          have g2 := hc q hqm
          have hbad : ¬ (0 ≤ nth (nth Ps k) q ∧ nth (nth Ps k) q < (Ps.length : Int)) → fitsC Ps = 3 := fitsC_3 (by rw [HI.out]; exact hlt) (by rw [HL.out.1]; exact hqm)
          have hsn : inRow n ((nth Ps k).take (q + 1)) = (inRow n ((nth Ps k).take q) && (decide (0 ≤ nth (nth Ps k) q) && decide (nth (nth Ps k) q < (n : Int)))) := all_take_succ _ (by rw [HL.out.1]; exact hqm)
          rw [hin, Bool.true_and] at hsn
          rw [HI.out] at hbad
          have HS := Lib.hid (And.intro hbad hsn); clear hbad hsn hc hin
          generalize hs : nth (nth Ps k) q = s at g2
          have HE := Lib.hid hs; clear hs
          by_cases hs0 : s < 0
          · have HC := Lib.hid (HS.out.1 (by rw [HE.out]; omega))
            go_wp2_with fail
            go_ret
            exact ⟨ret_int HC.out.symm, Below.refl _ _⟩
          · by_cases hs1 : (n : Int) ≤ s
            · have HC := Lib.hid (HS.out.1 (by rw [HE.out]; omega))
              go_wp2_with fail
              go_ret
              exact ⟨ret_int HC.out.symm, Below.refl _ _⟩
            · have HC := Lib.hid (show inRow n ((nth Ps k).take (q + 1)) = true by rw [HS.out.2, HE.out]; simp; omega)
              go_wp2_with fail
              exact ⟨⟨q + 1, by go_num, by omega, HC.out, trivial⟩, by simp [intOf]; omega⟩
        · obtain rfl : q = m := by omega
          have HC := Lib.hid (show (Ps.take (k + 1)).all (inRow n) = true by
            rw [all_take_succ _ (by rw [HI.out]; exact hlt), HL.out.2]
            rw [take_all (by rw [HL.out.1]; exact Nat.le_refl _)] at hin
            simpa using hin)
          clear hin
          go_wp2_with fail
          exact ⟨⟨k + 1, by go_num, by omega, HC.out, trivial⟩, by simp [intOf]; omega⟩
    · obtain rfl : k = n := by omega
      have hR : inR Ps = true := by
        unfold inR; rw [HI.out]; rw [take_all (by rw [HI.out]; exact Nat.le_refl _)] at hall; exact hall
      have HR := Lib.hid hR; clear hR hall
      go_wp2_with fail
      go_loopw [36] (fun i wr => ∃ j : Nat, i = .int .i64 (j : Nat) ∧ j ≤ k ∧ (Ps.take j).any dup = false ∧ Below wa.heap.size wa wr) (fun i _ => k - (intOf i).toNat)
      case atStart => exact ⟨0, rfl, Nat.zero_le _, by simp, Below.refl _ _⟩
      case round =>
        obtain ⟨j, rfl, hj, hany, hbl⟩ := hrel
        obtain ⟨wb, hwb⟩ : ∃ wb : World, wb = wr := ⟨_, rfl⟩
        subst hwb
        by_cases hlt : j < k
        · obtain ⟨b, off, B, m, d, rfl, hbs, g0, hrow⟩ := h.row hlt
          have g1 := ((keeps hbl).1 b (off + j) hbs).trans g0
          have hbm := hrow.big
          have hM := MapI.made wb Try.prog 3 3
          have hsz := hbl.size
          have HL := Lib.hid (And.intro hrow.len (And.intro hany (And.intro (hbl.alloc hbl.size (.map #[] 0)) hrow))); clear hany hbl hrow g0
          generalize hp : wb.heap.size = p at *
          go_wp2_with fail
          generalize hwm : wb.alloc (.map #[] 0) = wm at *
          clear g1 hwm hp
          go_loopw [45] (fun x wr => ∃ q : Nat, x = .int .i64 (q : Nat) ∧ q ≤ m ∧ dupTo (nth Ps j) q = false ∧ MapI Try.prog 3 3 wr p q (seenI ((nth Ps j).take q)) ∧ Below wa.heap.size wa wr) (fun x _ => m - (intOf x).toNat)
          case atStart => exact ⟨0, rfl, Nat.zero_le _, rfl, hM, HL.out.2.2.1⟩
          case round =>
            obtain ⟨q, rfl, hq, hdup, hmap, hbl⟩ := hrel
            obtain ⟨wc, hwc⟩ : ∃ wc : World, wc = wr := ⟨_, rfl⟩
            subst hwc
            by_cases hqm : q < m
            · obtain ⟨b2, off2, rfl, hb2, hc⟩ := (HL.out.2.2.2.below (Nat.le_refl _) hbl).at' (by omega)
              have g2 := hc q hqm
              have hin := inR_row HR.out (by rw [HI.out]; exact hlt) (nth (nth Ps j) q) (nth_mem (by rw [HL.out.1]; exact hqm))
              rw [HI.out] at hin
              have hwf : (Lit.int .i64 (nth (nth Ps j) q)).wf = true := WalkArith.wf_i64 (by omega)
              have hbad : dupAt (nth Ps j) q = true → fitsC Ps = 40 := fitsC_40 HR.out (by rw [HI.out]; exact hlt) (by rw [HL.out.1]; exact hqm)
              have hsn := dupTo_succ (nth Ps j) q
              rw [hdup, Bool.false_or] at hsn
              have htk := take_snoc (xs := nth Ps j) (k := q) (by rw [HL.out.1]; exact hqm)
              have hval := seenI_val ((nth Ps j).take q) (nth (nth Ps j) q)
              have hda : dupAt (nth Ps j) q = ((nth Ps j).take q).contains (nth (nth Ps j) q) := rfl
              have hsz2 := hbl.size
              have HS := Lib.hid (And.intro hbad (And.intro hsn (And.intro htk (And.intro hda hbl)))); clear hbad hsn htk hda hc hdup hbl hin
              generalize hs : nth (nth Ps j) q = s at *
              generalize hl : (nth Ps j).take q = l at *
              have HE := Lib.hid (And.intro hs hl); clear hs hl
              rcases hcb : l.contains s
              · rw [hcb] at hval
                have HV := Lib.hid (And.intro hval hcb); clear hval hcb
                go_wp2_with (first
                  | (at_lookup; refine wpList_look_I _ rfl _ _ 91 rfl 3 3 Try.underlying3 Try.underlying91 Try.underlying3 (zeroI _) p q _ rfl hmap _ rfl hwf ?_; rw [HV.out.1])
                  | (at_mapUpdate; refine wpList_store_I _ rfl _ _ _ 91 rfl 3 3 Try.underlying3 Try.underlying91 Try.underlying3 p q _ rfl hmap (by unfold maxLen; omega) _ rfl hwf 1 rfl (by decide) ?_)
                  | fail)
                intro w1 hm1 hg1
                have hm2 := hm1.congr (seenI_snoc l s)
                rw [← HS.out.2.2.1] at hm2
                have hb2 := HS.out.2.2.2.2.grown hg1 hsz2 (fun g e => by cases e; exact hsz)
                have H2 := Lib.hid (And.intro hm2 hb2); clear hm2 hb2 hm1 hg1 hmap
                go_wp2_with fail
                exact ⟨⟨q + 1, by go_num, by omega, by rw [HS.out.2.1, HS.out.2.2.2.1, HV.out.2], H2.out.1, H2.out.2⟩, by simp [intOf]; omega⟩
              · rw [hcb] at hval
                have HV := Lib.hid (And.intro hval hcb); clear hval hcb
                go_wp2_with (first
                  | (at_lookup; refine wpList_look_I _ rfl _ _ 91 rfl 3 3 Try.underlying3 Try.underlying91 Try.underlying3 (zeroI _) p q _ rfl hmap _ rfl hwf ?_; rw [HV.out.1])
                  | fail)
                go_ret
                exact ⟨ret_int (HS.out.1 (by rw [HS.out.2.2.2.1, HV.out.2])).symm, HS.out.2.2.2.2⟩
            · obtain rfl : q = m := by omega
              have hdd : (Ps.take (j + 1)).any dup = false := by
                rw [any_take_succ _ (by rw [HI.out]; exact hlt), HL.out.2.1, Bool.false_or]
                unfold dup; rw [HL.out.1]; exact hdup
              have HC := Lib.hid (And.intro hdd hbl); clear hdd hbl hmap hdup
              go_wp2_with fail
              exact ⟨⟨j + 1, by go_num, by omega, HC.out.1, HC.out.2⟩, by simp [intOf]; omega⟩
        · obtain rfl : j = k := by omega
          have hcc : fitsC Ps = 0 := fitsC_0 HR.out (by rw [take_all (by rw [HI.out]; exact Nat.le_refl _)] at hany; exact hany)
          have HC := Lib.hid (And.intro hcc hbl); clear hcc hany hbl
          go_wp2_with fail
          go_ret
          exact ⟨ret_int HC.out.1.symm, HC.out.2⟩
end Go.Proofs.Ytaibdlnolpbpiaa
