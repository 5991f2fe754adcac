/- sep's view.far, walked: how many steps lie between each state and a point. Conditions: the view and the point within Go's bound. -/
import Derived.Test.YtdlnglffimcopaaFarLaw
import Derived.Test.YtdlnglffimcopaaFlowAll
import Derived.Test.YtdlnglffimcopaaTrailClo
import Derived.Deep.LoopGhost
import Derived.Deep.CutRange
namespace Go.Proofs.Ytdlnglffimcopaa
open Go.RowKit

def FarPost (G : List (List Nat)) (Z : List Int) (n b : Nat) (w : World) (e : Ending) (w' : World) : Prop :=
  ∃ ob cnt O, e = .returned (.map (some ob)) ∧ w.heap.size ≤ ob ∧ MapS 66 3 w' ob cnt (intO O) ∧ FarOk G (Zp Z) (Ap G Z) b O ∧ (∀ s k, O s = some k → s.1 < n) ∧ Below w.heap.size w w'
/-- the first loop on its way -/
structure Fi (n vb sb mb cnt : Nat) (vc : List Value) (kx : Nat → Prop) (hd : St → Hd) (lst : St → List St) (wa wr : World) : Prop where
  bk : Back n (fun b => kx b ∨ b = vb ∨ b = sb) mb cnt hd lst wr
  view : RowC wr vb 60 vc
  sc : RowC wr sb 92 [.map (some mb)]
  bel : Below vb wa wr
theorem Fi.alloc {n vb sb mb cnt : Nat} {vc : List Value} {kx : Nat → Prop} {hd : St → Hd} {lst : St → List St} {wa wr : World} (h : Fi n vb sb mb cnt vc kx hd lst wa wr) (o : Obj) : Fi n vb sb mb cnt vc (fun b => kx b ∨ b = wr.heap.size) hd lst wa (wr.alloc o) := by
  have hb : Below wr.heap.size wr (wr.alloc o) := (Below.refl _ _).alloc (Nat.le_refl _) o
  have hl := h.view.lt
  refine ⟨(h.bk.step hb).weak fun b h => ?_, h.view.alloc o, h.sc.alloc o, h.bel.alloc (by omega) o⟩
  rcases h with (h | h) | h | h
  · exact .inl (.inl h)
  · refine .inr ⟨by omega, by simp; omega⟩
  · exact .inl (.inr (.inl h))
  · exact .inl (.inr (.inr h))

set_option maxRecDepth 100000 in
set_option maxHeartbeats 1600000 in
theorem far_any (G : List (List Nat)) (Z : List Int) (A B1 D E : Option Addr) (n k1 k2 c1 c2 c3 c4 b : Nat) (w : World) (hv : View w G Z A B1 D E n k1 k2) (hG : G.length = n) (hg : GoodG G) (hnd : ∀ p, p < n → (nth G p).Nodup) (hab : AbOk G (Zp Z) (Ap G Z)) (hb : b < n) (hn : n ≤ 1048576) :
    Calls Try.prog 52 #[.agg #[.slice A n c1, .slice B1 n c2, .slice D k1 c3, .slice E k2 c4], .int .i64 (b : Int)] w (FarPost G Z n b w) := by
  obtain ⟨wa, hwa⟩ : ∃ wa : World, wa = w := ⟨_, rfl⟩
  subst hwa
  have hn4 : n * (4 * n) ≤ 4611686018427387904 := Nat.le_trans (Nat.mul_le_mul hn (Nat.mul_le_mul_left 4 hn)) (by decide)
  have hmm := fun (w : World) => run_makeMap (P := Try.prog) 92 w
  have hF0 : Fi n wa.heap.size (wa.heap.size + 1 + 1) (wa.heap.size + 1) 0 [.slice A n c1, .slice B1 n c2, .slice D k1 c3, .slice E k2 c4] (fun _ => False) (fun _ => hd0) (backL G Z (fromsL 0)) wa
      (((wa.alloc (.cells #[.slice A n c1, .slice B1 n c2, .slice D k1 c3, .slice E k2 c4] 60)).alloc (.map #[] 0)).alloc (.cells #[.map (some (wa.heap.size + 1))] 92)) := by
    have hB0 : Below wa.heap.size wa (wa.alloc (.cells #[.slice A n c1, .slice B1 n c2, .slice D k1 c3, .slice E k2 c4] 60)) := (Below.refl _ _).alloc (Nat.le_refl _) _
    have hM := Back.made (wa.alloc (.cells #[.slice A n c1, .slice B1 n c2, .slice D k1 c3, .slice E k2 c4] 60)) n (kx := fun b => b = wa.heap.size) (fun b hb => by subst hb; simp)
    rw [show (wa.alloc (.cells #[.slice A n c1, .slice B1 n c2, .slice D k1 c3, .slice E k2 c4] 60)).heap.size = wa.heap.size + 1 from by simp] at hM
    have hM2 := hM.step ((Below.refl _ _).alloc (Nat.le_refl _) (.cells #[.map (some (wa.heap.size + 1))] 92))
    refine ⟨(hM2.weak fun b h => ?_).congr (fun s _ => by simp [backL, fromsL]), ((RowC.new wa _ _).alloc _).alloc _, ?_, (hB0.alloc (by simp) _).alloc (by simp; omega) _⟩
    · rcases h with h | h | h
      · exact h.elim
      · exact .inl h
      · exact .inr ⟨by simp; omega, by simp; omega⟩
    · have := RowC.new ((wa.alloc (.cells #[.slice A n c1, .slice B1 n c2, .slice D k1 c3, .slice E k2 c4] 60)).alloc (.map #[] 0)) 92 [.map (some (wa.heap.size + 1))]
      simpa using this
  have v0 := hF0.view.cell 0
  have v1 := hF0.view.cell 1
  have v2 := hF0.view.cell 2
  have v3 := hF0.view.cell 3
  simp only [List.getElem?_cons_zero, List.getElem?_cons_succ] at v0 v1 v2 v3
  have HF := Lib.hid hF0; clear hF0
  have HI := Lib.hid (And.intro hG (And.intro hg (And.intro hv hnd))); clear hG hg hv hnd
  have HAB := Lib.hid hab; clear hab
  go_enter Try.func52, Try.ntmps52
  go_wp2_with fail
  generalize ((wa.alloc (.cells #[.slice A n c1, .slice B1 n c2, .slice D k1 c3, .slice E k2 c4] 60)).alloc (.map #[] 0)).alloc (.cells #[.map (some (wa.heap.size + 1))] 92) = wx at *
  clear v0 v1 v2 v3
  generalize hps : wa.heap.size = p at *
  go_loopw [21] (fun i wr => ∃ (k cnt : Nat) (hd : St → Hd), i = .int .i64 (k : Nat) ∧ k ≤ n ∧ cnt ≤ k * (4 * n) ∧ Fi n p (p + 1 + 1) (p + 1) cnt [.slice A n c1, .slice B1 n c2, .slice D k1 c3, .slice E k2 c4] (fun _ => False) hd (backL G Z (fromsL k)) wa wr) (fun i _ => n - (intOf i).toNat)
  case atStart => exact ⟨0, 0, _, rfl, Nat.zero_le _, Nat.zero_le _, HF.out⟩
  case round =>
    obtain ⟨k, cnt, hd, rfl, hk, hcnt, hfi⟩ := hrel
    obtain ⟨wb, hwb⟩ : ∃ wb : World, wb = wr := ⟨_, rfl⟩
    subst hwb
    by_cases hlt : k < n
    · have hf1 := hfi.alloc (.cells #[.bool false, .bool true] 4)
      have hq1 := RowC.new wb 4 [.bool false, .bool true]
      have HA := Lib.hid (And.intro hf1 (And.intro hq1 hcnt)); clear hf1 hq1 hfi hcnt
      go_wp2_with fail
      generalize wb.alloc (.cells #[.bool false, .bool true] 4) = wy at *
      generalize hxb : wb.heap.size = xb at *
      go_loopw [26] (fun j wr => ∃ (q cnt : Nat) (hd : St → Hd), j = .int .i64 (q : Nat) ∧ q ≤ 2 ∧ cnt ≤ k * (4 * n) + q * (2 * n) ∧ Fi n p (p + 1 + 1) (p + 1) cnt [.slice A n c1, .slice B1 n c2, .slice D k1 c3, .slice E k2 c4] (fun b => b = xb) hd (backL G Z (fromsL k ++ ([false, true].map fun u => (k, u)).take q)) wa wr ∧ RowC wr xb 4 [.bool false, .bool true]) (fun j _ => 2 - (intOf j).toNat)
      case atStart =>
        obtain ⟨h1, h2, h3⟩ := HA.out
        exact ⟨0, cnt, hd, rfl, by omega, by omega, ⟨(by simpa using h1.bk), h1.view, h1.sc, h1.bel⟩, h2⟩
      case round => as_aux_lemma =>
        obtain ⟨q, cnt2, hd2, rfl, hq, hcnt2, hfi, hrow⟩ := hrel
        obtain ⟨wc, hwc⟩ : ∃ wc : World, wc = wr := ⟨_, rfl⟩
        subst hwc
        by_cases hq2 : q < 2
        · have g0 : wc.cell? ⟨xb, q, none⟩ = some (.bool (nth [false, true] q)) := by
            rw [hrow.cell q]
            rcases (show q = 0 ∨ q = 1 by omega) with rfl | rfl <;> rfl
          have hsn : fromsL k ++ ([false, true].map fun u => ((k, u) : St)).take (q + 1) = (fromsL k ++ ([false, true].map fun u => ((k, u) : St)).take q) ++ [(k, nth [false, true] q)] := by
            rw [take_snoc (by simpa using hq2), List.append_assoc, nth_map _ (by simpa using hq2)]
          have hFl : (fromsL k ++ ([false, true].map fun u => ((k, u) : St)).take q).length ≤ 2 * n := by
            rw [List.length_append, fromsL_length, List.length_take]; simp; omega
          generalize nth [false, true] q = u at *
          generalize fromsL k ++ ([false, true].map fun u => ((k, u) : St)).take q = F at *
          have hf1 := hfi.alloc (.cells #[.int .i64 (k : Int), .bool u] 66)
          have hfb := RowC.new wc 66 [.int .i64 (k : Int), .bool u]
          have hrow1 := hrow.alloc (.cells #[.int .i64 (k : Int), .bool u] 66)
          have hxlt := hrow.lt
          have v0 := hf1.view.cell 0
          have v1 := hf1.view.cell 1
          have v2 := hf1.view.cell 2
          have v3 := hf1.view.cell 3
          have t0 := hfb.cell 0
          have t1 := hfb.cell 1
          simp only [List.getElem?_cons_zero, List.getElem?_cons_succ] at v0 v1 v2 v3 t0 t1
          have hnx := nextL_nodup (Z := Z) (s := (k, u)) (by rw [HI.out.1]; exact hlt) (HI.out.2.2.2 k hlt)
          have hnl : (nextL G Z (k, u)).length ≤ 2 * n := by
            have := states_length hnx (n := G.length) (fun s hs => nextL_bnd HI.out.2.1 (s := (k, u)) (by rw [HI.out.1]; exact hlt) hs)
            rw [HI.out.1] at this; exact this
          have HN := Lib.hid (And.intro hnx hnl)
          clear hnx hnl
          have HX := Lib.hid (And.intro hf1 (And.intro hfb (And.intro hrow1 (And.intro hsn (And.intro hcnt2 (And.intro hFl hxlt))))))
          clear hf1 hfb hrow1 hsn hcnt2 hFl hfi hrow hxlt
          go_wp2_with fail
          obtain ⟨hin1, hin2⟩ := next_lt HI.out.2.1 (p := k) (by rw [HI.out.1]; exact hlt)
          refine (next_any (clo_far p n (p + 1) (p + 1 + 1) wc.heap.size cnt2 (backL G Z F) (k, u) (by omega) (Nat.le_succ p) (fun t => Nat.le_trans (backL_length _ _ _ _) HX.out.2.2.2.2.2.1) ?_) G Z A B1 D E k1 k2 c1 c2 c3 c4 (k, u) hlt (by rw [← HI.out.1]; exact hin1) (by rw [← HI.out.1]; exact hin2) (fun b => b = p ∨ b = xb) [] _ wa HI.out.2.2.1 (Nat.le_of_eq hps) ?_ HX.out.1.bel
            ⟨cnt2, hd2, ?_, HX.out.1.sc, HX.out.2.1, Nat.le_refl _⟩ ?_).mono ?_
          · have h1 := HX.out.2.2.2.2.1
            have h2 : k * (4 * n) ≤ n * (4 * n) := Nat.mul_le_mul_right _ hk
            have h3 : q * (2 * n) ≤ 2 * (2 * n) := Nat.mul_le_mul_right _ hq
            unfold maxLen; omega
          · have := HX.out.1.bel.size; omega
          · refine (HX.out.1.bk.weak fun b h => ?_).congr fun t _ => by simp
            rcases h with (h | h) | h | h
            · exact .inr (.inl h)
            · exact .inl (.inl h)
            · exact .inr (.inr h)
            · exact .inl (.inr h)
          · intro l hl
            rw [List.nil_append] at hl
            exact ⟨HN.out.1.sublist hl.sublist, Nat.le_trans hl.length_le HN.out.2⟩
          · rintro e w9 ⟨rfl, ⟨cnt9, hd9, hbk9, hsc9, hfb9, hc9⟩, hb9, hk9⟩
            have hf9 : Fi n p (p + 1 + 1) (p + 1) cnt9 [.slice A n c1, .slice B1 n c2, .slice D k1 c3, .slice E k2 c4] (fun b => b = xb) hd9 (backL G Z (F ++ [(k, u)])) wa w9 := by
              refine ⟨(hbk9.weak fun b h => ?_).congr fun t _ => ?_, (hk9 p (.inl rfl)).trans HX.out.1.view, hsc9, HX.out.1.bel.trans hb9⟩
              · rcases h with h | h | h
                · exact .inl (.inr h)
                · exact .inl (.inl h)
                · exact .inr (.inl h)
              · rw [backL_snoc, List.nil_append]
            have hr9 : RowC w9 xb 4 [.bool false, .bool true] := (hk9 xb (.inr rfl)).trans HX.out.2.2.1
            rw [← HX.out.2.2.2.1] at hf9
            have hcf : cnt9 ≤ k * (4 * n) + (q + 1) * (2 * n) := by
              have h1 := HX.out.2.2.2.2.1
              have h2 := HN.out.2
              rw [List.nil_append] at hc9
              rw [Nat.succ_mul q (2 * n)]
              have h3 : cnt9 ≤ cnt2 + (nextL G Z (k, u)).length := hc9
              exact Nat.le_trans h3 (Nat.le_trans (Nat.add_le_add h1 h2) (by rw [Nat.add_assoc]; exact Nat.le_refl _))
            have HZ := Lib.hid (And.intro hf9 (And.intro hr9 hcf))
            clear hf9 hr9 hcf hbk9 hsc9 hfb9 hc9 hb9 hk9 hin1 hin2 v0 v1 v2 v3 t0 t1 g0
            go_wp2_with fail
            exact ⟨⟨q + 1, cnt9, hd9, by go_num, by omega, HZ.out.2.2, HZ.out.1, HZ.out.2.1⟩, by simp [intOf]; omega⟩
        · obtain rfl : q = 2 := by omega
          have HX := Lib.hid (And.intro hfi hcnt2); clear hfi hcnt2 hrow
          go_wp2_with fail
          refine ⟨⟨k + 1, cnt2, hd2, by go_num, by omega, ?_, ⟨HX.out.1.bk.weak (fun b h => h.elim (fun h => h.elim) .inr) |>.congr (fun s _ => ?_), HX.out.1.view, HX.out.1.sc, HX.out.1.bel⟩⟩, by simp [intOf]; omega⟩
          · have := HX.out.2
            rw [Nat.add_mul]; omega
          · rw [fromsL_succ]; rfl
    · obtain rfl : k = n := by omega
      have HX := Lib.hid (And.intro hfi hcnt)
      have hbnat : (b : Int) = (b : Int) := rfl
      clear hfi hcnt hbnat
      have hmm2 := fun (w : World) => run_makeMap (P := Try.prog) 63 w
      have hins : ∀ (u v : Bool), ∃ w1 w2, (Instr.mapUpdate 63 (.map (some wb.heap.size)) (.agg #[.int .i64 (b : Int), .bool u]) (.int .i64 0)).run Try.prog (wb.alloc (.map #[] 0)).drew = .ok () w1 ∧
          (Instr.mapUpdate 63 (.map (some wb.heap.size)) (.agg #[.int .i64 (b : Int), .bool v]) (.int .i64 0)).run Try.prog w1 = .ok () w2 ∧ MapS 66 3 w2 wb.heap.size 2 (putS (putS (fun _ => none) (b, u) 0) (b, v) 0) ∧ Below wb.heap.size wb w2 := fun u v => by
        have h0 : MapS 66 3 (wb.alloc (.map #[] 0)).drew wb.heap.size 0 (fun _ => none) := (MapS.made wb 66 3).drewN 1
        obtain ⟨w1, h1, h2, h3⟩ := h0.ins (by unfold maxLen; omega) (s := (b, u)) (by unfold okS; simp; omega) 0 (by decide)
        obtain ⟨w2, g1, g2, g3⟩ := h2.ins (by unfold maxLen; omega) (s := (b, v)) (by unfold okS; simp; omega) 0 (by decide)
        exact ⟨w1, w2, h1, g1, g2, ((below_drewN ((Below.refl wb.heap.size wb).alloc (Nat.le_refl _) (.map #[] 0)) 1).grown h3 (by simp) (fun g e => by cases e; exact Nat.le_refl _)).grown g3 (by have := h3.size; simp at this; omega) (fun g e => by cases e; exact Nat.le_refl _)⟩
      obtain ⟨wf1, wf2, hf1, hf2, hf3, hf4⟩ := hins false true
      obtain ⟨wt1, wt2, ht1, ht2, ht3, ht4⟩ := hins true false
      have HQ := Lib.hid (And.intro hf3 (And.intro hf4 (And.intro ht3 ht4)))
      clear hins hf3 hf4 ht3 ht4
      go_upto_region 12 with fail
      go_cut [10] from 39 to 45 (fun m wx => m = .map (some wb.heap.size) ∧ ∃ O, MapS 66 3 wx wb.heap.size 2 (intO O) ∧ (∀ u, O (b, u) = some 0) ∧ (∀ s m, O s = some m → s.1 = b) ∧ Below wb.heap.size wb wx)
      case first =>
        go_wp2_with fail
        go_region
        · go_wp2_with fail
          go_meet
          case rel =>
            first
              | exact ⟨rfl, _, (HQ.out.1).congr (start_O b (by decide)).1, (start_O b (by decide)).2.1, (start_O b (by decide)).2.2, HQ.out.2.1⟩
              | exact ⟨rfl, _, (HQ.out.2.2.1).congr (start_O b (by decide)).1, (start_O b (by decide)).2.1, (start_O b (by decide)).2.2, HQ.out.2.2.2⟩
        · go_wp2_with fail
          go_meet
          case rel =>
            first
              | exact ⟨rfl, _, (HQ.out.1).congr (start_O b (by decide)).1, (start_O b (by decide)).2.1, (start_O b (by decide)).2.2, HQ.out.2.1⟩
              | exact ⟨rfl, _, (HQ.out.2.2.1).congr (start_O b (by decide)).1, (start_O b (by decide)).2.1, (start_O b (by decide)).2.2, HQ.out.2.2.2⟩
      case rest => as_aux_lemma =>
        obtain ⟨rfl, O0, hm0, hO1, hO2, hb0⟩ := hcut
        clear hmm hn4 hlt HF hk
        have hsz0 := hb0.size
        have hfq := Fq.start hb0 hm0 hO1 hO2 hb (Nat.le_refl _) hsz0
        have HB0 := Lib.hid (And.intro hfq (And.intro (Bf.begin (G := G) (Z := Zp Z) (Ab := Ap G Z) hO1 hO2) hsz0))
        clear hf1 hf2 ht1 ht2 HQ hm0 hO1 hO2 hb0 hfq hmm2 hsz0
        go_wp2_with fail
        generalize hwz : wc.alloc (.cells #[.int .i64 (b : Int), .bool false, .int .i64 (b : Int), .bool true] 66) = wz at *
        clear hwz
        generalize hob : wb.heap.size = ob at *
        go_loopg [11] (2 * k) (fun gg v wr => ∃ (pos k' c' d : Nat) (A' : Option Addr) (S q1 q2 : List St) (O : St → Option Nat), 2 * k ≤ gg + pos ∧ v = .slice A' k' c' ∧ Aside (Fq ob wb ob k A' k' c' S O pos wr ∧ Bf G (Zp Z) (Ap G Z) b O q1 q2 d ∧ S.drop pos = q1 ++ q2))
        case atStart => exact ⟨0, 2, 2, 0, _, _, _, _, _, by omega, rfl, HB0.out.1, HB0.out.2.1, rfl⟩
        case round => as_aux_lemma =>
          obtain ⟨pos, k', c', d, A', S, q1, q2, O, hgg, rfl, hA⟩ := hrel
          have hA := Lib.hid hA.out
          obtain ⟨wd, hwd⟩ : ∃ wd : World, wd = wr := ⟨_, rfl⟩
          subst hwd
          have hkq := hA.out.1.k_eq
          have hsz := hA.out.1.size_le
          have hple := hA.out.1.ple
          by_cases hpos : pos < S.length
          · have hk0 : 0 < k' := by omega
            have hk1 : (0 : Int) < (k' : Nat) := by omega
            obtain ⟨g, off, rfl, hgb, hgl, hkc, hcell, hfr⟩ := hA.out.1.oo.cells (by omega)
            have g0 := hcell 0 (by omega)
            have g1 := hcell 1 (by omega)
            rw [cellsS_at hpos] at g0 g1
            replace g0 : wd.cell? ⟨g, off, none⟩ = some (.int .i64 ((nth S pos).1 : Int)) := g0
            replace g1 : wd.cell? ⟨g, off + 1, none⟩ = some (.bool (nth S pos).2) := g1
            have hsn := hA.out.1.bnd _ (nth_mem hpos)
            have hdr : S.drop pos = nth S pos :: S.drop (pos + 1) := by rw [List.drop_eq_getElem_cons hpos, ← nth_eq hpos]
            have hqq := hA.out.2.2
            rw [hdr] at hqq
            obtain ⟨r1, r2, d1, hbi, hrr⟩ := hA.out.2.1.pop' hqq
            have hpop := hA.out.1.oo.pop hk0
            rw [cellsS_at hpos, show (∀ (a b : Value) (l : List Value), (a :: b :: l).drop 2 = l) from fun _ _ _ => rfl] at hpop
            generalize nth S pos = s at *
            have hok : okS s := by unfold okS; omega
            obtain ⟨A2, cq2, hq2, hdis⟩ : ∃ A2 cq2, OwnQ wd (ob + 1) 66 2 A2 (k' - 1) cq2 (cellsS (S.drop (pos + 1))) ∧ ((c' = 1 ∧ k' = 1 ∧ A2 = some ⟨g, off, none⟩ ∧ cq2 = 0) ∨ (¬ c' = 1 ∧ A2 = some ⟨g, off + 2, none⟩ ∧ cq2 = c' - 1)) := by
              by_cases hc1 : c' = 1
              · rw [if_pos hc1] at hpop
                exact ⟨_, _, hpop, .inl ⟨hc1, by omega, rfl, by omega⟩⟩
              · rw [if_neg hc1] at hpop
                exact ⟨_, _, hpop, .inr ⟨hc1, by simp [Addr.add_lit], rfl⟩⟩
            have hobd := hA.out.1.bel.size
            have hobt : ob < wd.heap.size := hA.out.1.map.lt
            have hF1 : Fq ob wb ob k A2 (k' - 1) cq2 S O (pos + 1) (wd.alloc (.cells #[.int .i64 (s.1 : Int), .bool s.2] 66)) := Fq.alloc ⟨hA.out.1.bel, hA.out.1.map, hq2, hA.out.1.nd, hA.out.1.mem, hA.out.1.bnd, hpos, hA.out.1.lt⟩ _
            have hT1 := RowC.new wd 66 [.int .i64 (s.1 : Int), .bool s.2]
            have hbw1 : Below ob wb (wd.alloc (.cells #[.int .i64 (s.1 : Int), .bool s.2] 66)) := hF1.bel
            have hsc1 := HX.out.1.sc.below (Nat.le_of_eq hob |> fun h => (show Below wb.heap.size wb (wd.alloc (.cells #[.int .i64 (s.1 : Int), .bool s.2] 66)) from by rw [hob]; exact hbw1)) HX.out.1.sc.lt
            have hmH : MapH (wd.alloc (.cells #[.int .i64 (s.1 : Int), .bool s.2] 66)) (p + 1) cnt hd := HX.out.1.bk.map.below (by rw [hob]; exact hbw1)
            have r0 := hsc1.cell 0
            have t0 := hT1.cell 0
            have t1 := hT1.cell 1
            simp only [List.getElem?_cons_zero, List.getElem?_cons_succ] at r0 t0 t1
            have hown := HX.out.1.bk.own s hsn
            have hlk := hown.len
            rw [cellsS_length] at hlk
            have hbl := backL_length G Z (fromsL k) s
            rw [fromsL_length] at hbl
            obtain ⟨⟨HA9, k9, c9⟩, hhd⟩ : ∃ h, hd s = h := ⟨_, rfl⟩
            rw [hhd] at hown hlk
            simp only at hown hlk
            have hk9 : k9 = (backL G Z (fromsL k) s).length := by omega
            have hk9b : k9 ≤ 2 * k := by omega
            have hgtb : g < wd.heap.size := hgl
            have HR := Lib.hid (And.intro hF1 (And.intro hT1 (And.intro hbi (And.intro hrr (And.intro hown (And.intro hk9 (And.intro hsn hgtb)))))))
            have HHD := Lib.hid hhd
            have HM := Lib.hid (And.intro hkq (And.intro hsz (And.intro hple hpos)))
            clear hF1 hT1 hbi hrr hown hk9 hhd hsn hgtb hbw1 hsc1 hlk hbl hpop hqq hdr hcell hfr hgb hq2 hkq hsz hple hobd hA
            go_upto_region 16 with fail
            go_cut [11] from 56 to 57 (fun v wx => v = .slice A2 (k' - 1) cq2 ∧ wx = wd.alloc (.cells #[.int .i64 (s.1 : Int), .bool s.2] 66))
            case first =>
              rcases hdis with ⟨rfl, rfl, rfl, rfl⟩ | ⟨hc1, rfl, rfl⟩
              · go_wp2_with fail
                go_meet
                case rel => exact ⟨rfl, rfl⟩
              · go_wp2_with fail
                go_meet
                case rel => exact ⟨rfl, rfl⟩
            case rest =>
            obtain ⟨rfl, rfl⟩ := hcut
            have hA2 : ∀ o, A2 ≠ some ⟨wd.heap.size, o, none⟩ := fun o e => by rcases hdis with ⟨_, _, h, _⟩ | ⟨_, h, _⟩ <;> (rw [h] at e; injection e with e; injection e with e; omega)
            have HA2 := Lib.hid hA2
            clear hA2 hdis
            go_wp2_with (first
              | (at_lookup; refine wpList_look_H _ rfl _ _ rfl (p + 1) cnt _ rfl hmH s rfl hok HHD.out ?_)
              | fail)
            clear r0 t0 t1 g0 g1 hmH
            generalize wd.alloc (.cells #[.int .i64 (s.1 : Int), .bool s.2] 66) = we at *
            generalize wd.heap.size = tb at *
            go_loopw [11, 62] (fun v j wr => ∃ (i kk cc : Nat) (AA : Option Addr) (S' : List St) (O' : St → Option Nat) (q2' : List St), j = .int .i64 (i : Nat) ∧ v = .slice AA kk cc ∧ i ≤ k9 ∧ Fq ob wb ob k AA kk cc S' O' (pos + 1) wr ∧ BfIn G (Zp Z) (Ap G Z) b O' r1 q2' d1 s ((backL G Z (fromsL k) s).take i) ∧ S'.drop (pos + 1) = r1 ++ q2' ∧ RowC wr tb 66 [.int .i64 (s.1 : Int), .bool s.2] ∧ ∀ o, AA ≠ some ⟨tb, o, none⟩) (fun _ j _ => k9 - (intOf j).toNat)
            case atStart => exact ⟨0, _, _, _, S, O, r2, rfl, rfl, Nat.zero_le _, HR.out.1, HR.out.2.2.1, HR.out.2.2.2.1, HR.out.2.1, HA2.out⟩
            case round => as_aux_lemma =>
              obtain ⟨i, kk, cc, AA, S', O', q2', rfl, rfl, hi, hfq, hbin, hdr', htr, hAA⟩ := hrel
              obtain ⟨wf, hwf⟩ : ∃ wf : World, wf = wr := ⟨_, rfl⟩
              subst hwf
              have HL9 := Lib.hid HR.out.2.2.2.2.2.1
              by_cases hi9 : i < k9
              · have HI9 := Lib.hid hi9
                have hli : i < (backL G Z (fromsL k) s).length := by rw [← HL9.out]; exact hi9
                obtain ⟨g9, off9, rfl, _, hgl9, hkc9, hcell9, hfr9⟩ := (HR.out.2.2.2.2.1.below (w' := wf) (by rw [hob]; exact hfq.bel)).cells (by omega)
                have a0 := hcell9 (2 * i) (by omega)
                have a1 := hcell9 (2 * i + 1) (by omega)
                obtain ⟨e0, e1⟩ := cellsS_get _ i hli
                rw [e0, Nat.mul_comm 2 i] at a0
                rw [e1, Nat.mul_comm 2 i, ← Nat.add_assoc] at a1
                have htb2 := mem_backL.1 (nth_mem hli)
                have htn := mem_fromsL.1 htb2.1
                have hnx := (back_all HI.out.1 HI.out.2.1).1 (nth_mem hli)
                have hsnc := take_snoc hli
                generalize nth (backL G Z (fromsL k) s) i = t at *
                have hokt : okS t := by unfold okS; omega
                have hf1 := hfq.alloc (.cells #[.int .i64 (t.1 : Int), .bool t.2] 66)
                have hub := RowC.new wf 66 [.int .i64 (t.1 : Int), .bool t.2]
                have htr1 := htr.alloc (.cells #[.int .i64 (t.1 : Int), .bool t.2] 66)
                have u0 := hub.cell 0
                have u1 := hub.cell 1
                have s0 := htr1.cell 0
                have s1 := htr1.cell 1
                simp only [List.getElem?_cons_zero, List.getElem?_cons_succ] at u0 u1 s0 s1
                have hmapO := hf1.map
                have htbl := htr.lt
                have HY := Lib.hid (And.intro hfq (And.intro hf1 (And.intro hbin (And.intro hdr' (And.intro htr (And.intro htr1 (And.intro hAA (And.intro hsnc (And.intro htn (And.intro hnx hub))))))))))
                clear hfq hf1 hbin hdr' htr htr1 hAA hsnc htb2 hnx hub hcell9 hfr9 e0 e1 hgl9 hkc9 hli
                cases hO : O' t with
                | some m =>
                  have hl := Lib.hid (intO_some hO)
                  have hnext := HY.out.2.2.1.old (t := t) (by rw [hO]; rfl)
                  rw [← HY.out.2.2.2.2.2.2.2.1] at hnext
                  have HN := Lib.hid hnext
                  clear hO hnext s0 s1
                  go_wp2_with (first
                    | (at_lookup; refine wpList_look_ok_S _ rfl _ _ 63 rfl 3 Try.underlying63 Try.underlying3 (zeroI _) ob _ _ rfl hmapO t rfl hokt ?_; rw [hl.out])
                    | fail)
                  exact ⟨⟨i + 1, kk, cc, AA, S', O', q2', by go_num, rfl, HI9.out, HY.out.2.1, HN.out, HY.out.2.2.2.1, HY.out.2.2.2.2.2.1, HY.out.2.2.2.2.2.2.1⟩, by have := HI9.out; simp [intOf]; omega⟩
                | none =>
                  have hl := Lib.hid (intO_none hO)
                  go_wp2_with (first
                    | (at_lookup; refine wpList_look_ok_S _ rfl _ _ 63 rfl 3 Try.underlying63 Try.underlying3 (zeroI _) ob _ _ rfl hmapO t rfl hokt ?_; rw [hl.out])
                    | fail)
                  have hcur := HY.out.2.2.1.cur
                  have hdk : d1 < k := by
                    have := (HY.out.2.2.1.far s d1 hcur).lt HAB.out HI.out.2.1 (by rw [HI.out.1]; exact HR.out.2.2.2.2.2.2.1)
                    rw [HI.out.1] at this; exact this
                  have hfd := HY.out.2.1.drew
                  have hszS := hfd.size_le
                  have hlk := hfd.map.look_run hok (intO_some hcur)
                  have hwrp : IntKind.i64.wrap ((d1 : Int) + 1) = ((d1 + 1 : Nat) : Int) := by rw [IntKind.wrap_i64]; omega
                  obtain ⟨w1, hup, hm1, hg1⟩ := hfd.map.ins (by unfold maxLen; omega) hokt ((d1 : Int) + 1) (WalkArith.wf_i64 (by omega))
                  have hm1 : MapS 66 3 w1 ob (S'.length + 1) (putS (intO O') t ((d1 + 1 : Nat) : Int)) := hm1
                  have hg1s := hg1.size
                  have htrd := HY.out.2.2.2.2.2.1.drewN 1
                  have hobl := hfd.map.lt
                  have hrowq := fun (b off : Nat) => hfd.row (b := b) (off := off)
                  have hub1 := (HY.out.2.2.2.2.2.2.2.2.2.2.drewN 1).grown hg1 (by intro e; injection e with e; have := hfd.map.lt; have := HY.out.1.map.lt; omega)
                  have htr1 := htrd.grown hg1 (by intro e; injection e with e; omega)
                  have hoq := (hfd.oo.turn (Turn.of_grown hg1) (fun g off e e2 => by injection e2 with e2; have := (hrowq g off e).1; omega)).alloc (.cells #[.int .i64 (t.1 : Int), .bool t.2] 66)
                  have hbase : ob + 1 ≤ (w1.alloc (.cells #[.int .i64 (t.1 : Int), .bool t.2] 66)).heap.size := by simp; omega
                  have hkk := hfd.k_eq
                  have hk16 : (kk + 1) * 16 ≤ 140737488355328 := by omega
                  have y0 := hub1.cell 0
                  have y1 := hub1.cell 1
                  simp only [List.getElem?_cons_zero, List.getElem?_cons_succ] at y0 y1
                  have HZ := Lib.hid (And.intro hm1 (And.intro hg1 (And.intro hfd (And.intro hrowq (And.intro htr1 hcur)))))
                  clear hmapO a0 a1 hm1 hg1 hfd hrowq hub1 htr1 htrd hcur hkk hszS hg1s hobl
                  go_region
                  clear hlk hup u0 u1 s0 s1
                  obtain ⟨ix, e1, e2, e3, e4, e5⟩ := infoState
                  go_wp2_with (first
                    | (at_builtin; refine wpList_app_q _ rfl _ _ 86 rfl 66 ix _ 2 16 e1 e2 e3 e4 e5 (by simp [Value.cells]) (by omega) (ob + 1) _ _ _ _ rfl hoq hbase ⟨w1.heap.size, 0, none⟩ 1 1 [.int .i64 (t.1 : Int), .bool t.2] rfl rfl (cells_new w1 _ 66) (by intro u hu; simp at hu; rcases hu with rfl | rfl <;> rfl) hk16 (by omega) ?_)
                    | fail)
                  intro A9 c9' w9 ho9 ht9 hd9
                  obtain ⟨hm1, hg1, hfd, hrowq, htr1, hcur⟩ := HZ.out
                  have hfin := hfd.found HY.out.2.2.2.2.2.2.2.2.1 hO hm1 hg1 ho9 ht9
                  have hnew := HY.out.2.2.1.new hO HY.out.2.2.2.2.2.2.2.2.2.1 (O' := putO O' t (d1 + 1)) (fun x => by unfold putO; by_cases h : x = t <;> simp [h])
                  rw [← HY.out.2.2.2.2.2.2.2.1] at hnew
                  have htr9 := (htr1.alloc (.cells #[.int .i64 (t.1 : Int), .bool t.2] 66)).turn ht9 (fun ⟨off, e⟩ => HY.out.2.2.2.2.2.2.1 off e)
                  have hA9 : ∀ o, A9 ≠ some ⟨tb, o, none⟩ := fun o e => by
                    rcases hd9 tb o e with ⟨off', h1⟩ | h1
                    · exact HY.out.2.2.2.2.2.2.1 off' h1
                    · have := htr1.lt; first | omega | (simp at h1; omega)
                  have hdr9 : (S' ++ [t]).drop (pos + 1) = r1 ++ (q2' ++ [t]) := by
                    rw [List.drop_append_of_le_length HY.out.1.ple, HY.out.2.2.2.1, List.append_assoc]
                  have HE := Lib.hid (And.intro hfin (And.intro hnew (And.intro htr9 (And.intro hA9 hdr9))))
                  clear hfin hnew htr9 hA9 hdr9 ho9 ht9 hd9 hm1 hg1 hfd hrowq htr1 hcur hoq y0 y1
                  go_wp2_with fail
                  exact ⟨⟨i + 1, kk + 1, c9', A9, S' ++ [t], _, q2' ++ [t], by go_num, rfl, HI9.out, HE.out.1, HE.out.2.1, HE.out.2.2.2.2, HE.out.2.2.1, HE.out.2.2.2.1⟩, by have := HI9.out; simp [intOf]; omega⟩
              · obtain rfl : i = k9 := by omega
                rw [HL9.out, List.take_length] at hbin
                have hdone := hbin.done (fun t ht => (back_all HI.out.1 HI.out.2.1).2 ht)
                have HY := Lib.hid (And.intro hfq (And.intro hdone hdr'))
                clear hfq hbin hdone hdr' htr hAA
                go_wp2_with fail
                go_roundg (2 * k - (pos + 1))
                case measure => have := HM.out.2.1; have := HM.out.2.2.2; omega
                case rel => exact ⟨pos + 1, kk, cc, _, AA, S', _, _, O', by omega, rfl, (show Aside _ from ⟨HY.out.1, HY.out.2.1, HY.out.2.2⟩)⟩
          · have hk0 : k' = 0 := by omega
            subst hk0
            have hq := hA.out.2.2
            rw [List.drop_eq_nil_of_le (by omega)] at hq
            obtain ⟨hq1, hq2⟩ := List.append_eq_nil_iff.1 hq.symm
            have hbf := hA.out.2.1
            rw [hq1, hq2] at hbf
            have HD := Lib.hid hbf.all
            clear hbf hq hq1 hq2 hkq hsz hple hpos
            go_wp2_with fail
            go_ret
            exact ⟨ob, S.length, O, rfl, by have := HX.out.1.bel.size; have := HX.out.1.view.lt; omega, hA.out.1.map, HD.out, fun s m e => hA.out.1.bnd s ((hA.out.1.mem s).2 (by rw [e]; rfl)), by
              rw [hps]
              exact HX.out.1.bel.trans (hA.out.1.bel.mono (by have := HX.out.1.view.lt; omega))⟩
end Go.Proofs.Ytdlnglffimcopaa
