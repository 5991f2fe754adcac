/- credencelaw13.mended, walked. Condition: the lists read. -/
import Derived.Test.YtgmchedfgdgenaaJ10
import Derived.Test.YtgmchedfgdgenaaJ4
import Derived.Test.YtgmchedfgdgenaaJ14
namespace Go.Proofs.Ytgmchedfgdgenaa
open Go.RowKit
attribute [local go_sem] Oper.semAt_some

theorem Boxed3.drewN {γ : Type} {ec : γ → Value} {w0 w : World} {g : Nat} {tb ti tc : TypeId} {A : Option Addr} {n c : Nat} {X : List Int} {B : Option Addr} {m d : Nat} {Y : List Int} {C : Option Addr} {k e : Nat} {Z : List γ} (h : Boxed3 ec w0 w g tb ti tc A n c X B m d Y C k e Z) (q : Nat) : Boxed3 ec w0 (w.drewN q) g tb ti tc A n c X B m d Y C k e Z := ⟨below_drewN h.bel q, h.row.drewN q, h.tr.below (below_refl_drewN _ _ _), h.lt⟩
def md8 (x : Int) : Nat := (x % 8).toNat
theorem md8_lt (x : Int) : md8 x < 8 := by unfold md8; omega
/-- which variables are in -/
def marks (S : List Int) (k : Nat) : List Bool := (List.range 8).map fun v => (S.take k).any fun x => md8 x == v
def inB (S : List Int) (v : Nat) : Bool := (S.take 4).any fun x => md8 x == v
theorem marks_length (S : List Int) (k : Nat) : (marks S k).length = 8 := by simp [marks]
theorem marks_step {S : List Int} {k v : Nat} (hk : k < S.length) (hv : md8 (nth S k) = v) : (marks S k).set v true = marks S (k + 1) := by
  apply List.ext_getElem
  · simp [marks]
  · intro i h1 h2
    have hi : i < 8 := by simpa [marks] using h2
    rw [List.getElem_set]
    simp only [marks, List.getElem_map, List.getElem_range]
    rw [any_take_snoc _ hk, hv]
    by_cases h : v = i
    · rw [if_pos h]; simp [h]
    · rw [if_neg h]; simp [h]
theorem marks_end {S : List Int} {k : Nat} (h : k = 4 ∨ k = S.length ∧ k ≤ 4) {v : Nat} (hv : v < 8) : ((marks S k).map Value.bool)[v]? = some (.bool (inB S v)) := by
  have he : S.take k = S.take 4 := by
    rcases h with h | ⟨h, h'⟩
    · rw [h]
    · rw [h, List.take_of_length_le (Nat.le_refl _), List.take_of_length_le (by omega)]
  unfold marks inB
  rw [he]
  simp [hv]
def mendS (S : List Int) (v : Nat) : List Int := ((List.range v).filter (inB S)).map fun v : Nat => (v : Int)
def mendZ (S : List Int) (v : Nat) : List Int := ((List.range v).filter (inB S)).map fun v : Nat => (v : Int) % 3 + 1
theorem mendS_succ (S : List Int) (v : Nat) : mendS S (v + 1) = if inB S v = true then mendS S v ++ [(v : Int)] else mendS S v := by
  unfold mendS; rw [List.range_succ, List.filter_append, List.map_append]
  by_cases h : inB S v = true <;> simp [h]
theorem mendZ_succ (S : List Int) (v : Nat) : mendZ S (v + 1) = if inB S v = true then mendZ S v ++ [(v : Int) % 3 + 1] else mendZ S v := by
  unfold mendZ; rw [List.range_succ, List.filter_append, List.map_append]
  by_cases h : inB S v = true <;> simp [h]
theorem mend_length (S : List Int) (v : Nat) : (mendS S v).length = (mendZ S v).length := by simp [mendS, mendZ]
theorem mendS_length_le (S : List Int) (v : Nat) : (mendS S v).length ≤ v := by
  unfold mendS; rw [List.length_map]; exact Nat.le_trans (List.length_filter_le _ _) (by simp)
theorem mendZ_one (S : List Int) (v : Nat) : ∀ z, z ∈ mendZ S v → 1 ≤ z := by
  intro z hz
  obtain ⟨u, _, rfl⟩ := List.mem_map.1 hz
  omega
theorem mendN_le (S : List Int) : ∀ v, sufP (mendZ S v) 0 ≤ (3 : Int) ^ v
  | 0 => by simp [mendZ, sufP]
  | v + 1 => by
    have h1 := mendN_le S v
    have h2 := sufP_pos (mendZ_one S v) 0
    rw [mendZ_succ, Int.pow_succ]
    split
    · rw [sufP_snoc]
      have h3 : (v : Int) % 3 + 1 ≤ 3 := by omega
      have := Int.mul_le_mul h1 h3 (by omega) (by omega)
      exact this
    · omega
def mendL (L : List Int) (n : Nat) : List Int := (List.range n).map fun i => if L.length = 0 then ((i + 1 : Nat) : Int) else nth L (i % L.length)
theorem mendL_succ (L : List Int) (n : Nat) : mendL L (n + 1) = mendL L n ++ [if L.length = 0 then ((n + 1 : Nat) : Int) else nth L (n % L.length)] := by
  unfold mendL; rw [List.range_succ, List.map_append]; rfl
theorem mendL_length (L : List Int) (n : Nat) : (mendL L n).length = n := by simp [mendL]
def MendPost (S L : List Int) (w : World) (e : Ending) (w' : World) : Prop :=
  ∃ A c B d C k, ∃ N : Nat, (N : Int) = sufP (mendZ S 8) 0 ∧ e = .returned (.agg #[.slice A (mendS S 8).length c, .slice B (mendS S 8).length d, .slice C N k]) ∧
    Trio (Value.int .i64) (Value.int .i64) (Value.int .i64) w' w.heap.size 3 3 3 A (mendS S 8).length c (mendS S 8) B (mendS S 8).length d (mendZ S 8) C N k (mendL L N) ∧ Below w.heap.size w w'
set_option maxRecDepth 100000 in
set_option maxHeartbeats 4000000 in
theorem mended_any (A1 A2 A3 : Option Addr) (n1 c1 n2 c2 n3 c3 : Nat) (S L : List Int) (w : World) (h1 : Sl (Value.int .i64) w A1 n1 S) (h3 : Sl (Value.int .i64) w A3 n3 L) :
    Calls Try.prog 22 #[.agg #[.slice A1 n1 c1, .slice A2 n2 c2, .slice A3 n3 c3]] w (MendPost S L w) := by
  have HL := Lib.hid (And.intro h1.len h3.len)
  have HI := Lib.hid (And.intro h1 h3)
  have big1 := h1.big
  have big3 := h3.big
  have H0 := ((((Held.init w).sl h1).sl h3).new 24 [.slice A1 n1 c1, .slice A2 n2 c2, .slice A3 n3 c3]).new 24 [.slice none 0 0, .slice none 0 0, .slice none 0 0] |>.new 96 ((marks S 0).map Value.bool)
  simp only [World.size_alloc] at H0
  have e0 : ((marks S 0).map Value.bool).toArray = #[.bool false, .bool false, .bool false, .bool false, .bool false, .bool false, .bool false, .bool false] := by simp [marks, List.range, List.range.loop]
  rw [e0] at H0
  have HH := Lib.hid H0
  clear h1 h3 H0 e0
  go_enter Try.func22, Try.ntmps22
  go_upto_block 0 with fail
  go_cut [4, 5] from 11 to 33 (fun _ _ wx => (∀ v, v < 8 → wx.cell? ⟨w.heap.size + 1 + 1, v, none⟩ = some (.bool (inB S v))) ∧ w.heap.size + 1 + 1 < wx.heap.size ∧ RowC wx (w.heap.size + 1) 24 [.slice none 0 0, .slice none 0 0, .slice none 0 0] ∧ RowC wx w.heap.size 24 [.slice A1 n1 c1, .slice A2 n2 c2, .slice A3 n3 c3] ∧ Below w.heap.size w wx)
  case first =>
    go_wp2_with fail
    go_loopw [4] (fun i wr => ∃ k : Nat, k ≤ 4 ∧ k ≤ n1 ∧ i = .int .i64 (k : Nat) ∧ RowC wr (w.heap.size + 1 + 1) 96 ((marks S k).map Value.bool) ∧ RowC wr (w.heap.size + 1) 24 [.slice none 0 0, .slice none 0 0, .slice none 0 0] ∧ RowC wr w.heap.size 24 [.slice A1 n1 c1, .slice A2 n2 c2, .slice A3 n3 c3] ∧ Below w.heap.size w wr) (fun i _ => 4 - (intOf i).toNat)
    case atStart => exact ⟨0, by omega, by omega, rfl, HH.out.has.1, HH.out.has.2.1, HH.out.has.2.2.1, HH.out.bel⟩
    case round =>
      obtain ⟨k, hk4, hkn, rfl, hin, hres, hbox, hbel⟩ := hrel
      obtain ⟨wo, hwo⟩ : ∃ wo : World, wo = wr := ⟨_, rfl⟩
      subst hwo
      by_cases hlt : k < 4 ∧ k < n1
      · obtain ⟨h4, hn⟩ := hlt
        obtain ⟨b, off, rfl, _, hc⟩ := (HI.out.1.below (Nat.le_refl _) hbel).at' (by omega)
        have g1 := hc k hn
        clear hc
        have q0 := hbox.cell 0
        obtain ⟨x, hx⟩ : ∃ x, x = nth S k := ⟨_, rfl⟩
        rw [← hx] at g1
        have hm8 := md8_lt x
        obtain ⟨v, hv⟩ : ∃ v, v = md8 x := ⟨_, rfl⟩
        rw [← hv] at hm8
        have hvx : (v : Int) = x % 8 := by rw [hv]; unfold md8; omega
        have hput := hin.put v (.bool true)
        have hset : ((marks S k).map Value.bool).set v (.bool true) = (marks S (k + 1)).map Value.bool := by
          rw [← marks_step (v := v) (by rw [HL.out.1]; exact hn) (by rw [← hx, hv]), List.map_set]
        rw [hset] at hput
        have x0 := hin.cell v
        have hx8 : ((marks S k).map Value.bool)[v]? = some (.bool ((marks S k)[v]'(by rw [marks_length]; exact hm8))) := by simp [marks_length, hm8]
        rw [hx8] at x0
        have f0 := hin.frozen v
        have d4 : decide ((k : Int) < 4) = true := by simp; omega
        have HE := Lib.hid (And.intro hput (And.intro (hres.far (p := ⟨w.heap.size + 1 + 1, v, none⟩) (by show w.heap.size + 1 ≠ w.heap.size + 1 + 1; omega) (.bool true)) (And.intro (hbox.far (p := ⟨w.heap.size + 1 + 1, v, none⟩) (by show w.heap.size ≠ w.heap.size + 1 + 1; omega) (.bool true)) (hbel.setCell (p := ⟨w.heap.size + 1 + 1, v, none⟩) (by show w.heap.size ≤ w.heap.size + 1 + 1; omega) (.bool true)))))
        clear hin hres hbox hbel hput hset hx8
        by_cases hneg : Int.tmod x 8 < 0
        · have ht : Int.tmod x 8 = (v : Int) - 8 := by
            have h1 := Int.emod_emod_of_dvd x (show (8 : Int) ∣ 8 from ⟨1, by decide⟩)
            have h2 : Int.tmod x 8 = x - 8 * Int.tdiv x 8 := by have := Int.tmod_add_mul_tdiv x 8; omega
            have h3 : -8 < Int.tmod x 8 := by
              have h5 : x < 0 := by
                by_cases h : x < 0
                · exact h
                · have := Int.tmod_nonneg 8 (show 0 ≤ x by omega); omega
              have h4 := Int.tmod_lt_of_pos (-x) (show (0 : Int) < 8 by decide)
              rw [Int.neg_tmod] at h4; omega
            omega
          rw [ht] at hneg
          clear hvx hv hx
          have s8 : (v : Int) - 8 + 8 = (v : Int) := by omega
          have d1 : decide ((v : Int) - 8 < 0) = true := by simpa using hneg
          go_wp2_with fail
          exact ⟨⟨k + 1, by omega, by omega, by go_num, HE.out.1, HE.out.2.1, HE.out.2.2.1, HE.out.2.2.2⟩, by simp [intOf]; omega⟩
        · have ht : Int.tmod x 8 = (v : Int) := by
            have h2 : Int.tmod x 8 = x - 8 * Int.tdiv x 8 := by have := Int.tmod_add_mul_tdiv x 8; omega
            have h4 := Int.tmod_lt_of_pos x (show (0 : Int) < 8 by decide)
            omega
          clear hvx hv hneg hx
          go_wp2_with fail
          exact ⟨⟨k + 1, by omega, by omega, by go_num, HE.out.1, HE.out.2.1, HE.out.2.2.1, HE.out.2.2.2⟩, by simp [intOf]; omega⟩
      · have hend : k = 4 ∨ k = S.length ∧ k ≤ 4 := by rw [HL.out.1]; omega
        have hme := fun (v : Nat) (hv : v < 8) => (hin.cell v).trans (marks_end (S := S) hend hv)
        have q0 := hbox.cell 0
        have HE := Lib.hid (And.intro hme (And.intro hin.lt (And.intro hres (And.intro hbox hbel))))
        clear hme hin hres hbox hbel
        by_cases hkn2 : k < n1
        · obtain rfl : k = 4 := by omega
          have d4 : decide (((4 : Nat) : Int) < 4) = false := by decide
          clear hlt
          go_wp2_with fail
          go_meet
          case rel => exact HE.out
        · clear hlt
          go_wp2_with fail
          go_meet
          case rel => exact HE.out
  case rest =>
    obtain ⟨hme, hlt2, hres, hbox, hbel⟩ := hcut
    have H2 : Held w (fun w' => RowC w' (w.heap.size + 1) 24 [.slice none 0 0, .slice none 0 0, .slice none 0 0] ∧ RowC w' w.heap.size 24 [.slice A1 n1 c1, .slice A2 n2 c2, .slice A3 n3 c3]) wc := ⟨hbel, hres, hbox⟩
    have HM := Lib.hid (And.intro hme (And.intro hlt2 H2))
    clear hme hres hbox hbel H2
    obtain ⟨g, hg⟩ : ∃ g, g = wc.heap.size := ⟨_, rfl⟩
    have L0 : Boxed3 (Value.int .i64) wc (wc.alloc (.cells #[.slice none 0 0, .slice none 0 0, .slice none 0 0] 24)) g 24 3 3 none (mendS S 0).length 0 (mendS S 0) none (mendS S 0).length 0 (mendZ S 0) none 0 0 [] := by
      subst hg
      exact ⟨(Below.refl _ _).alloc (Nat.le_refl _) _, RowC.new wc 24 [.slice none 0 0, .slice none 0 0, .slice none 0 0], Trio.nil _ _ _ _ _ _ _ _, Nat.le_refl _⟩
    have HX := Lib.hid L0
    clear L0
    go_wp2_with fail
    rw [← hg]
    have hgc : w.heap.size + 1 + 1 < g := by have := HM.out.2.1; omega
    have HG := Lib.hid hg
    clear hg
    go_loopw [7, 8] (fun nn i wr => ∃ (v : Nat) (A : Option Addr) (c : Nat) (B : Option Addr) (d : Nat), v ≤ 8 ∧ i = .int .i64 (v : Nat) ∧ nn = .int .i64 (sufP (mendZ S v) 0) ∧ Boxed3 (Value.int .i64) wc wr g 24 3 3 A (mendS S v).length c (mendS S v) B (mendS S v).length d (mendZ S v) none 0 0 ([] : List Int)) (fun _ i _ => 8 - (intOf i).toNat)
    case atStart => exact ⟨0, none, 0, none, 0, by omega, rfl, by simp [mendZ, sufP], HX.out⟩
    case round =>
      clear HX
      obtain ⟨v, A, c, B, d, hv, rfl, rfl, X0⟩ := hrel
      obtain ⟨wo, hwo⟩ : ∃ wo : World, wo = wr := ⟨_, rfl⟩
      subst hwo
      by_cases hlt : v < 8
      · have k0 : wo.cell? ⟨w.heap.size + 1 + 1, v, none⟩ = some (.bool (inB S v)) := (X0.bel.cell (p := ⟨w.heap.size + 1 + 1, v, none⟩) (by show _ < wc.heap.size; have := HG.out; omega)).trans (HM.out.1 v hlt)
        have d8 : decide ((v : Int) < 8) = true := by simp; omega
        have hsl := mendS_length_le S v
        have hN := mendN_le S v
        have hN1 := sufP_pos (mendZ_one S v) 0
        have h38 : (3 : Int) ^ v ≤ 6561 := by
          have : v = 0 ∨ v = 1 ∨ v = 2 ∨ v = 3 ∨ v = 4 ∨ v = 5 ∨ v = 6 ∨ v = 7 := by omega
          rcases this with rfl | rfl | rfl | rfl | rfl | rfl | rfl | rfl <;> decide
        have hs1 := mendS_succ S v
        have hs2 := mendZ_succ S v
        obtain ⟨p, hp⟩ : ∃ p, p = sufP (mendZ S v) 0 := ⟨_, rfl⟩
        rw [← hp] at hN hN1 ⊢
        have hNN : p ≤ 6561 := by omega
        clear hN h38
        obtain ⟨ln, hln⟩ : ∃ ln, ln = (mendS S v).length := ⟨_, rfl⟩
        rw [← hln] at hsl X0
        rcases hin : inB S v with _ | _
        · rw [hin] at hs1 hs2 k0
          have HX := Lib.hid (And.intro X0 (And.intro hs1 (And.intro hs2 (And.intro hp hln))))
          clear X0 hs1 hs2 hp hln
          go_wp2_with fail
          refine ⟨⟨v + 1, A, c, B, d, by omega, by go_num, by rw [HX.out.2.2.1, HX.out.2.2.2.1]; rfl, ?_⟩, by simp [intOf]; omega⟩
          rw [HX.out.2.1, HX.out.2.2.1]
          have := HX.out.1
          rw [HX.out.2.2.2.2] at this
          exact this
        · rw [hin] at hs1 hs2 k0
          have hpz : sufP (mendZ S (v + 1)) 0 = p * ((v : Int) % 3 + 1) := by rw [hs2]; simp only [if_true]; rw [sufP_snoc, hp]
          have g0 := X0.row.cell 0
          have hq : (ln + 1) * 8 ≤ 140737488355328 := by omega
          have X1 := X0.alloc (.cells #[.int .i64 (v : Int)] 3)
          have e1 : g + 1 ≤ (wo.alloc (.cells #[.int .i64 (v : Int)] 3)).heap.size := X1.row.lt
          have HX := Lib.hid (And.intro X1 (And.intro hs1 (And.intro hs2 (And.intro hp (And.intro hln hpz)))))
          clear X0 X1 hs1 hs2 hp hln hpz
          go_wp2_with (first
            | (at_builtin; refine wpList_app _ eiI (Value.int .i64) (fun _ => rfl) rfl _ _ rfl (g + 1) _ _ _ _ rfl HX.out.1.tr.o1 _ _ _ _ rfl (Sl.one (enc := Value.int .i64) _ _ _) hq e1 ?_)
            | fail)
          intro A' c' w4 ho hgr hb hd
          clear e1 g0 k0
          have f0 := (HX.out.1.row.below (HX.out.1.low hgr) (Nat.lt_succ_self g)).frozen 0
          have g0 := (HX.out.1.row.below (HX.out.1.low hgr) (Nat.lt_succ_self g)).cell 0
          have X0 := HX.out.1.app1 ho hgr (by rw [World.size_alloc]; exact hd)
          have HF := Lib.hid HX.out.2
          clear HX ho hgr hb hd
          go_upto_region 16 with fail
          clear f0 g0
          generalize w4.setCell ⟨g, 0, none⟩ (.slice A' (ln + 1) c') = w5 at *
          have g0 := X0.row.cell 1
          have X1 := X0.alloc (.cells #[.int .i64 ((v : Int) % 3 + 1)] 3)
          have e1 : g + 1 ≤ (w5.alloc (.cells #[.int .i64 ((v : Int) % 3 + 1)] 3)).heap.size := X1.row.lt
          have HX := Lib.hid X1
          clear X0 X1
          go_wp2_with (first
            | (at_builtin; refine wpList_app _ eiI (Value.int .i64) (fun _ => rfl) rfl _ _ rfl (g + 1) _ _ _ _ rfl HX.out.tr.o2 _ _ _ _ rfl (Sl.one (enc := Value.int .i64) _ _ _) hq e1 ?_)
            | fail)
          intro B' d' w6 ho hgr hb hd
          clear e1 g0
          have f0 := (HX.out.row.below (HX.out.low2 hgr) (Nat.lt_succ_self g)).frozen 1
          have g0 := (HX.out.row.below (HX.out.low2 hgr) (Nat.lt_succ_self g)).cell 1
          have X0 := HX.out.app2 ho hgr (by rw [World.size_alloc]; exact hd)
          clear HX ho hgr hb hd
          go_upto_region 17 with fail
          clear f0 g0
          generalize w6.setCell ⟨g, 1, none⟩ (.slice B' (ln + 1) d') = w7 at *
          have HX := Lib.hid X0
          clear X0
          have hm3 : (v : Int) % 3 + 1 ≤ 3 := by omega
          have hm1 : 1 ≤ (v : Int) % 3 + 1 := by omega
          have hb1 := Int.mul_le_mul hNN hm3 (by omega) (by omega)
          have hb2 := Int.mul_le_mul hN1 hm1 (by omega) (by omega)
          obtain ⟨pz, hpz⟩ : ∃ pz, pz = p * ((v : Int) % 3 + 1) := ⟨_, rfl⟩
          rw [← hpz] at hb1 hb2
          have hpw : IntKind.i64.wrap (p * ((v : Int) % 3 + 1)) = pz := by
            rw [← hpz]
            simp [IntKind.wrap, IntKind.bits, IntKind.signed]; omega
          have HP := Lib.hid hpz
          clear hpz hm3 hm1 hb1 hb2
          go_wp2_with fail
          refine ⟨⟨v + 1, A', c', B', d', by omega, by go_num, by rw [HF.out.2.2.2.2, HP.out], ?_⟩, by simp [intOf]; omega⟩
          have l9 : ln + 1 = (mendS S (v + 1)).length := by rw [HF.out.1]; simp [HF.out.2.2.2.1]
          have h9 := HX.out
          rw [← l9, HF.out.1, HF.out.2.1]
          exact h9
      · obtain rfl : v = 8 := by omega
        have hN := mendN_le S 8
        have hN1 := sufP_pos (mendZ_one S 8) 0
        obtain ⟨N, hNe⟩ : ∃ N : Nat, sufP (mendZ S 8) 0 = (N : Int) := ⟨(sufP (mendZ S 8) 0).toNat, by omega⟩
        have e8 : ((8 : Nat) : Int) = 8 := rfl
        rw [hNe, e8]
        clear e8
        have hNb : N ≤ 6561 := by rw [hNe] at hN; have : (3 : Int) ^ 8 = 6561 := by decide
                                  omega
        have HN := Lib.hid hNe
        have HX := Lib.hid X0
        clear hN hN1 hNe X0 hlt
        go_wp2_with fail
        go_loopw [9] (fun j wr => ∃ (i : Nat) (C : Option Addr) (k : Nat), i ≤ N ∧ j = .int .i64 (i : Nat) ∧ Boxed3 (Value.int .i64) wc wr g 24 3 3 A (mendS S 8).length c (mendS S 8) B (mendS S 8).length d (mendZ S 8) C i k (mendL L i)) (fun j _ => N - (intOf j).toNat)
        case atStart => exact ⟨0, none, 0, Nat.zero_le _, rfl, HX.out⟩
        case round =>
          clear HX
          obtain ⟨i, C, k, hi, rfl, X0⟩ := hrel
          obtain ⟨wq, hwq⟩ : ∃ wq : World, wq = wr := ⟨_, rfl⟩
          subst hwq
          have hbx := HM.out.2.2.has.2.below' X0.bel
          by_cases hlt : i < N
          · have hml := mendL_succ L i
            rw [HL.out.2] at hml
            have q2 := hbx.cell 2
            by_cases hn3 : n3 = 0
            · rw [if_pos hn3] at hml
              have HML := Lib.hid (show mendL L (i + 1) = mendL L i ++ [(i : Int) + 1] by rw [hml]; simp)
              have d0 : decide ((0 : Int) < (n3 : Int)) = false := by simp; omega
              have d1 : ¬ 0 < n3 := by omega
              clear hml hbx hn3
              go_upto_region 24 with fail
              clear q2
              have g0 := X0.row.cell 2
              have hq : (i + 1) * 8 ≤ 140737488355328 := by omega
              have X1 := X0.alloc (.cells #[.int .i64 ((i : Int) + 1)] 3)
              have e1 : g + 1 ≤ (wq.alloc (.cells #[.int .i64 ((i : Int) + 1)] 3)).heap.size := X1.row.lt
              have HX := Lib.hid X1
              clear X0 X1
              go_wp2_with (first
                | (at_builtin; refine wpList_app _ eiI (Value.int .i64) (fun _ => rfl) rfl _ _ rfl (g + 1) _ _ _ _ rfl HX.out.tr.o3 _ _ _ _ rfl (Sl.one (enc := Value.int .i64) _ _ _) hq e1 ?_)
                | fail)
              intro C' k' w8 ho hgr hb hd
              clear e1 g0
              have f0 := (HX.out.row.below (HX.out.low3 hgr) (Nat.lt_succ_self g)).frozen 2
              have g0 := (HX.out.row.below (HX.out.low3 hgr) (Nat.lt_succ_self g)).cell 2
              have X0 := HX.out.app3 ho hgr (by rw [World.size_alloc]; exact hd)
              rw [← HML.out] at X0
              clear HX ho hgr hb hd
              go_upto_region 21 with fail
              clear f0 g0
              generalize w8.setCell ⟨g, 2, none⟩ (.slice C' (i + 1) k') = w9 at *
              have HX := Lib.hid X0
              clear X0
              go_wp2_with fail
              exact ⟨⟨i + 1, C', k', by omega, by go_num, HX.out⟩, by simp [intOf]; omega⟩
            · rw [if_neg hn3] at hml
              obtain ⟨q, hq⟩ : ∃ q, q = i % n3 := ⟨_, rfl⟩
              have hqn : q < n3 := by rw [hq]; exact Nat.mod_lt _ (by omega)
              rw [← hq] at hml
              have HML := Lib.hid hml
              obtain ⟨lb, lo, rfl, _, hlc⟩ := (HI.out.2.below (Nat.le_refl _) (HM.out.2.2.bel.trans (X0.bel.mono HM.out.2.2.bel.size))).at' (by omega)
              have g1 := hlc q hqn
              have ht1 : Int.tmod (i : Int) (n3 : Int) = (q : Int) := by rw [hq, Int.tmod_eq_emod_of_nonneg (by omega)]; simp
              have ht2 : (i : Int) % (n3 : Int) = (q : Int) := by rw [hq]; simp
              have d0 : decide ((0 : Int) < (n3 : Int)) = true := by simp; omega
              have d1 : 0 < n3 := by omega
              have hne : ((n3 : Int) == 0) = false := by simp; omega
              have hne2 : ¬ ((n3 : Int) = 0) := by omega
              have HX := Lib.hid X0
              clear hml hbx hlc hq hn3 X0
              go_wp2_with fail
              go_quiet (fail)
              obtain ⟨w7, hw7⟩ : ∃ w7, w7 = wq.drewN nq := ⟨_, rfl⟩
              have X0 := HX.out.drewN nq
              rw [← hw7] at X0 ⊢
              clear hw7 HX g1 ht1 ht2 hne hne2 q2
              have g0 := X0.row.cell 2
              have hq : (i + 1) * 8 ≤ 140737488355328 := by omega
              have X1 := X0.alloc (.cells #[.int .i64 (nth L q)] 3)
              have e1 : g + 1 ≤ (w7.alloc (.cells #[.int .i64 (nth L q)] 3)).heap.size := X1.row.lt
              have HX := Lib.hid X1
              clear X0 X1
              go_wp2_with (first
                | (at_builtin; refine wpList_app _ eiI (Value.int .i64) (fun _ => rfl) rfl _ _ rfl (g + 1) _ _ _ _ rfl HX.out.tr.o3 _ _ _ _ rfl (Sl.one (enc := Value.int .i64) _ _ _) hq e1 ?_)
                | fail)
              intro C' k' w8 ho hgr hb hd
              clear e1 g0
              have f0 := (HX.out.row.below (HX.out.low3 hgr) (Nat.lt_succ_self g)).frozen 2
              have g0 := (HX.out.row.below (HX.out.low3 hgr) (Nat.lt_succ_self g)).cell 2
              have X0 := HX.out.app3 ho hgr (by rw [World.size_alloc]; exact hd)
              rw [← HML.out] at X0
              clear HX ho hgr hb hd
              go_upto_region 21 with fail
              clear f0 g0
              generalize w8.setCell ⟨g, 2, none⟩ (.slice C' (i + 1) k') = w9 at *
              have HX := Lib.hid X0
              clear X0
              go_wp2_with fail
              exact ⟨⟨i + 1, C', k', by omega, by go_num, HX.out⟩, by simp [intOf]; omega⟩
          · obtain rfl : i = N := by omega
            have hres := HM.out.2.2.has.1.below' X0.bel
            have hbw := HM.out.2.2.bel.trans (X0.bel.mono HM.out.2.2.bel.size)
            have p0 := X0.row.cell 0
            have p1 := X0.row.cell 1
            have p2 := X0.row.cell 2
            have x0 := hres.cell 0
            have x1 := hres.cell 1
            have x2 := hres.cell 2
            have f0 := hres.frozen 0
            have f1 := hres.frozen 1
            have f2 := hres.frozen 2
            have HE := Lib.hid (And.intro hres (And.intro hbw X0))
            clear hres hbw X0 hbx
            go_wp2_with fail
            obtain ⟨wz, hwz⟩ : ∃ wz, wz = (((wq.setCell ⟨w.heap.size + 1, 0, none⟩ (.slice A (mendS S 8).length c)).setCell ⟨w.heap.size + 1, 1, none⟩ (.slice B (mendS S 8).length d)).setCell ⟨w.heap.size + 1, 2, none⟩ (.slice C i k)) := ⟨_, rfl⟩
            obtain ⟨y0, y1, y2, hbz, htz⟩ := set3 HE.out.2.1 HE.out.1 (by omega) hwz
            rw [← hwz]
            refine bodyPost_ret (v := .agg #[.slice A (mendS S 8).length c, .slice B (mendS S 8).length d, .slice C i k]) (by simp [results, Try.results22, go_sem, y0, y1, y2]) rfl ⟨A, c, B, d, C, k, i, HN.out.symm, rfl, ?_, hbz⟩
            have T := HE.out.2.2.tr
            exact ⟨(T.o1.turn htz (fun q e e2 => by have := T.o1.geT e; omega)).mono (by omega), (T.o2.turn htz (fun q e e2 => by have := T.o2.geT e; omega)).mono (by omega), (T.o3.turn htz (fun q e e2 => by have := T.o3.geT e; omega)).mono (by omega), T.d12, T.d13, T.d23⟩
end Go.Proofs.Ytgmchedfgdgenaa
