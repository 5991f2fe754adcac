/- radix.digits over ints, walked. Conditions: sizes of 1 or more; a place not below 0; within Go's bound. -/
import Derived.Test.YtgmchedfgdgenaaJ2
import Derived.Test.YtgmchedfgdgenaaJ3
namespace Go.Proofs.Ytgmchedfgdgenaa
open Go.RowKit Go.Shelf
attribute [local go_sem] Oper.semAt_some

/-- what is left of a place when k sizes have been taken from behind -/
def qF (Z : List Int) (a : Nat) : Nat → Nat
  | 0 => a
  | k + 1 => qF Z a k / (nth Z (Z.length - 1 - k)).toNat
/-- the digit at a place -/
def dgAt (Z : List Int) (a i : Nat) : Int := ((qF Z a (Z.length - 1 - i) % (nth Z i).toNat : Nat) : Int)
/-- the digits, those from place m on -/
def dgFrom (Z : List Int) (a m : Nat) : List Int := (List.range Z.length).map fun i => if m ≤ i then dgAt Z a i else 0
def dgL (Z : List Int) (a : Nat) : List Int := (List.range Z.length).map (dgAt Z a)
theorem dgFrom_length (Z : List Int) (a m : Nat) : (dgFrom Z a m).length = Z.length := by simp [dgFrom]
theorem dgL_length (Z : List Int) (a : Nat) : (dgL Z a).length = Z.length := by simp [dgL]
theorem dgFrom_zero (Z : List Int) (a : Nat) : dgFrom Z a 0 = dgL Z a := by simp [dgFrom, dgL]
theorem dgFrom_all (Z : List Int) (a : Nat) : dgFrom Z a Z.length = List.replicate Z.length 0 := by
  apply List.ext_getElem
  · simp [dgFrom]
  · intro i h1 h2
    simp [dgFrom] at h1
    simp [dgFrom, show ¬ Z.length ≤ i by omega]
theorem dgFrom_step (Z : List Int) (a m : Nat) : (dgFrom Z a (m + 1)).set m (dgAt Z a m) = dgFrom Z a m := by
  apply List.ext_getElem
  · simp [dgFrom]
  · intro i h1 h2
    simp [dgFrom] at h2
    rw [List.getElem_set]
    by_cases hi : m = i
    · subst hi; simp [dgFrom]
    · rw [if_neg hi]
      simp only [dgFrom, List.getElem_map, List.getElem_range]
      by_cases h3 : m ≤ i
      · rw [if_pos h3, if_pos (by omega)]
      · rw [if_neg h3, if_neg (by omega)]
/-- between two rounds -/
structure DigSt (w W : World) (pa po g n : Nat) (L : List Int) (q : Nat) : Prop where
  at' : RowC W pa 3 [.int .i64 (q : Int)]
  out : RowC W po 22 [.slice (some ⟨g, 0, none⟩) n n]
  row : RowAt (Value.int .i64) W g 3 L []
  bel : Below w.heap.size w W
  len : L.length = n
  lt : q < 9223372036854775808
set_option maxRecDepth 100000 in
set_option maxHeartbeats 1600000 in
theorem dig_any (A : Option Addr) (n c : Nat) (Z : List Int) (a : Nat) (w : World) (h : Sl (Value.int .i64) w A n Z) (hb : n * 8 ≤ 140737488351232) (ha : a < 9223372036854775808) (hz : ∀ z, z ∈ Z → 1 ≤ z) :
    Calls Try.prog 69 #[.slice A n c, .int .i64 (a : Int)] w fun e w' => ∃ B d, e = .returned (.slice B n d) ∧ OwnR (Value.int .i64) w' w.heap.size 3 B n d (dgL Z a) ∧ Below w.heap.size w w' := by
  refine (callsIn_wide (n := 3)).1 ?_
  refine callsIn_of_wp_marks Try.func69 rfl trivial ?_ rfl
  simp only [Try.ntmps69, List.size_toArray, List.length_cons, List.length_nil, Nat.reduceAdd, Nat.reduceSub, Array.replicate_succ, Array.replicate_zero, List.push_toArray, List.append_toArray, List.nil_append, List.cons_append]
  refine wpIn_wide.2 ?_
  by_cases h0 : n = 0
  · subst h0
    obtain rfl : Z = [] := List.eq_nil_of_length_eq_zero h.len
    go_wp2_with fail
    exact ⟨_, results_tmp rfl _ _ _, none, 0, rfl, OwnR.nil _ _ _ _, (Below.refl _ _).alloc (Nat.le_refl _) _⟩
  · have hn0 : (n : Int) ≠ 0 := by omega
    have HL := Lib.hid h.len
    have hq : 8 * n ≤ 281474976710656 := by omega
    go_wp2_with (first
      | (at_make; refine wpList_mk _ eiI (Value.int .i64) 0 rfl rfl _ _ rfl n rfl rfl hq ?_)
      | fail)
    intro w4 hr hb4
    go_wp2_with fail
    refine (back_any A n c _).mono ?_
    rintro e w6 ⟨rfl, rfl⟩
    go_wp2_with fail
    refine (wpIn_wide (n := 3)).1 ?_
    have hA : ∀ b off, 0 < Z.length → A = some ⟨b, off, none⟩ → b < w.heap.size := fun b off hp e => by
      obtain ⟨b', off', e', hlt, _⟩ := h.at' (by rw [← h.len]; exact hp)
      rw [e] at e'
      injection e' with e'
      injection e' with e1 _
      omega
    have hlen := h.len
    have hw4 := hb4.size
    rw [World.size_alloc] at hw4
    have hb0 : Below w.heap.size w w4 := ((Below.refl _ w).alloc (Nat.le_refl _) _).trans (hb4.mono (Nat.le_succ _))
    have hbL : Below w.heap.size w ((w4.alloc (.cells #[.slice (some ⟨w.heap.size + 1, 0, none⟩) n n] 22)).alloc (.cells #[.slice A n c] 22)) := (hb0.alloc (by omega) _).alloc (by simp; omega) _
    have hpa : RowC w4 w.heap.size 3 [.int .i64 (a : Int)] := (RowC.new w 3 [.int .i64 (a : Int)]).below hb4 (Nat.lt_succ_self _)
    have st : DigSt w ((w4.alloc (.cells #[.slice (some ⟨w.heap.size + 1, 0, none⟩) n n] 22)).alloc (.cells #[.slice A n c] 22)) w.heap.size w4.heap.size (w.heap.size + 1) n (List.replicate n 0) a :=
      ⟨(hpa.alloc _).alloc _, (RowC.new w4 22 [.slice (some ⟨w.heap.size + 1, 0, none⟩) n n]).alloc _, (hr.alloc _).alloc _, hbL, by simp, ha⟩
    have hsl := (h.below (Nat.le_refl _) hbL)
    have hpb : RowC ((w4.alloc (.cells #[.slice (some ⟨w.heap.size + 1, 0, none⟩) n n] 22)).alloc (.cells #[.slice A n c] 22)) (w4.heap.size + 1) 22 [.slice A Z.length c] := by
      have := RowC.new (w4.alloc (.cells #[.slice (some ⟨w.heap.size + 1, 0, none⟩) n n] 22)) 22 [.slice A n c]
      rw [World.size_alloc] at this
      rw [hlen]; exact this
    have hzsz : ((w4.alloc (.cells #[.slice (some ⟨w.heap.size + 1, 0, none⟩) n n] 22)).alloc (.cells #[.slice A n c] 22)).heap.size = w4.heap.size + 2 := by simp
    refine wpIn_rangeFunc_ownF (F := Fence.wide) rfl (by omega) (gf := 97) (lb := #[.pointer (some ⟨w4.heap.size + 1, 0, none⟩)]) rfl trivial (enters_of Try.func97 (by kernel_rfl) rfl)
      (back_stops Fence.wide _ trivial rfl (by omega) (w4.heap.size + 1) w.heap.size A c Z _ (by simp; omega) hpb hA (by rw [hlen]; exact hsl)) keepB_t (keepB_b (by simp; omega) (by simp)) (Below.refl _ _) (fun _ => rfl)
      (fun pre W => ∃ (L : List Int) (q : Nat), DigSt w W w.heap.size w4.heap.size (w.heap.size + 1) n L q ∧ (Came Z.length pre.length pre → L = dgFrom Z a (n - pre.length) ∧ q = qF Z a pre.length))
      (fun _ _ _ => False) ?hI (fun _ _ _ _ _ hs _ _ => hs) ⟨_, _, st, fun _ => ⟨by rw [List.length_nil, Nat.sub_zero, ← hlen, dgFrom_all], rfl⟩⟩
      (fun x => { tmps := #[.slice A n c, .int .i64 (a : Int), undef, .pointer (some ⟨w.heap.size, 0, none⟩), .slice none 0 0, .pointer (some ⟨w4.heap.size, 0, none⟩), .int .i64 ((Z.length - 1 - x.1 : Nat) : Int), .int .i64 (nth Z (Z.length - 1 - x.1)),
        .slice A n c, .int .i64 (n : Int), .bool false, .slice A n c, .int .i64 (n : Int), .slice (some ⟨w.heap.size + 1, 0, none⟩) n n, .slice A n c, .func (.func 97) #[] #[.pointer (some ⟨w4.heap.size + 1, 0, none⟩)], .int .i64 ((Z.length - 1 - x.1 : Nat) : Int), .int .i64 (nth Z (Z.length - 1 - x.1)),
        undef, undef, undef, undef, undef, undef, undef, undef, undef, undef], defers := [] }) ?assign ?body ?done ?stop
    case hI =>
      rintro s W W' row ⟨L, q, st, hv⟩ hg hr
      have hne : ∀ {b : Nat}, b < w4.heap.size + 2 → some b ≠ row := fun hb e => by have := (hr _ e.symm).1; omega
      exact ⟨L, q, ⟨st.at'.grown hg (hne (by omega)), st.out.grown hg (hne (by omega)), st.row.grown hg (hne (by omega)), st.bel.grown hg st.bel.size (fun k e => by have := (hr _ e).1; omega), st.len, st.lt⟩, hv⟩
    case assign =>
      intro l x W K hK
      dsimp only [backE]
      clear hlen
      gi_wp2
      exact hK
    case body =>
      rintro l pre x W ⟨L, q, st, hv⟩ _
      obtain ⟨m, hm⟩ : ∃ m, m = Z.length - 1 - x.1 := ⟨_, rfl⟩
      have hx := x.2
      have hmn : m < n := by omega
      have hz1 := hz (nth Z m) (nth_mem (by omega))
      obtain ⟨s, hs⟩ : ∃ s : Nat, nth Z m = (s : Int) := ⟨(nth Z m).toNat, by omega⟩
      rw [← hm, hs]
      have hs1 : 1 ≤ s := by omega
      have HS := Lib.hid (And.intro hs hv)
      have hml : m < L.length := by rw [st.len]; exact hmn
      have u0 := st.out.cell 0
      have u1 := st.at'.cell 0
      have u2 := st.row.cell hml
      have u3 := st.row.frozen m
      have u4 := st.at'.frozen 0
      have hne : (s : Int) ≠ 0 := by omega
      have hne3 : ¬ s = 0 := by omega
      have hne2 : ((s : Int) == 0) = false := by simpa using hne
      have e1 : Int.tmod (q : Int) (s : Int) = ((q % s : Nat) : Int) := by rw [Int.ofNat_tmod]
      have e2 : Int.tdiv (q : Int) (s : Int) = ((q / s : Nat) : Int) := by rw [Int.ofNat_tdiv]
      have e3 : (q : Int) % (s : Int) = ((q % s : Nat) : Int) := by simp
      have e4 : (q : Int) / (s : Int) = ((q / s : Nat) : Int) := by simp
      have hdl : q / s ≤ q := Nat.div_le_self _ _
      have hlt := st.lt
      have i1 : (0 : Int) ≤ (m : Int) := by omega
      have i2 : (m : Int) < (n : Int) := by omega
      have HX := Lib.hid (And.intro hm hx)
      clear hm hs hv
      generalize hr1 : q % s = rr at *
      generalize hd1 : q / s = dd at *
      have e5 : IntKind.i64.wrap (dd : Int) = (dd : Int) := by simp [IntKind.wrap, IntKind.bits, IntKind.signed]; omega
      have HR := Lib.hid (And.intro hr1 hd1)
      clear hr1 hd1
      refine wpIn_block ?_
      refine wpIn_seq ?_
      refine wpIn_region_lastL (S := fun w' => w'.cell? ⟨w4.heap.size, 0, none⟩ = some (.slice (some ⟨w.heap.size + 1, 0, none⟩) n n) ∧ w'.cell? ⟨w.heap.size, 0, none⟩ = some (.int .i64 (q : Int))) 6 6 (by kernel_rfl) rfl rfl rfl (by kernel_rfl) (by kernel_rfl) (by rintro ⟨_, _, h⟩; exact h) ?hS1 (fun hHeld => ?rest1)
      case hS1 => (first | assumption | exact ⟨u0, u1⟩ | go_keep)
      refine wpAnyH_takeL (i := 0) (v := ?v2) rfl (by kernel_rfl) (by kernel_rfl) (by kernel_rfl) (fun _ _ _ h => h) (by rfl) ?hy2 (by assumption) ?rest2
      case hy2 => (intro w hSw; (try dsimp only at hSw); go_simp; try with_reducible rfl)
      try simp only [Act.put, List.setIfInBounds_toArray, List.set_cons_zero, List.set_cons_succ]
      refine wpAnyH_takeL (i := 1) (v := ?v3) rfl (by kernel_rfl) (by kernel_rfl) (by kernel_rfl) (fun _ _ _ h => h) (by rfl) ?hy3 (by assumption) ?rest3
      case hy3 => (intro w hSw; (try dsimp only at hSw); go_simp; try with_reducible rfl)
      try simp only [Act.put, List.setIfInBounds_toArray, List.set_cons_zero, List.set_cons_succ]
      refine wpAnyH_takeL (i := 2) (v := ?v4) rfl (by kernel_rfl) (by kernel_rfl) (by kernel_rfl) (fun _ _ _ h => h) (by rfl) ?hy4 (by assumption) ?rest4
      case hy4 => (intro w hSw; (try dsimp only at hSw); go_simp; try with_reducible rfl)
      try simp only [Act.put, List.setIfInBounds_toArray, List.set_cons_zero, List.set_cons_succ]
      refine wpAnyH_takeL (i := 3) (v := ?v5) rfl (by kernel_rfl) (by kernel_rfl) (by kernel_rfl) (fun _ _ _ h => h) (by rfl) ?hy5 (by assumption) ?rest5
      case hy5 => (intro w hSw; (try dsimp only at hSw); go_simp; try with_reducible rfl)
      try simp only [Act.put, List.setIfInBounds_toArray, List.set_cons_zero, List.set_cons_succ]
      refine wpAnyH_takeL (i := 4) (v := ?v6) rfl (by kernel_rfl) (by kernel_rfl) (by kernel_rfl) (fun _ _ _ h => h) (by rfl) ?hy6 (by assumption) ?rest6
      case hy6 => (intro w hSw; (try dsimp only at hSw); go_simp; try with_reducible rfl)
      try simp only [Act.put, List.setIfInBounds_toArray, List.set_cons_zero, List.set_cons_succ]
      refine wpAnyH_takeL (i := 5) (v := ?v7) rfl (by kernel_rfl) (by kernel_rfl) (by kernel_rfl) (fun _ _ _ h => h) (by rfl) ?hy7 (by assumption) ?rest7
      case hy7 => (intro w hSw; (try dsimp only at hSw); go_simp; try with_reducible rfl)
      try simp only [Act.put, List.setIfInBounds_toArray, List.set_cons_zero, List.set_cons_succ]
      refine wpAnyH_done (by kernel_rfl) ?_ _
      unfold AheadOf
      go_simp
      have hgw : w.heap.size + 1 < w4.heap.size := hr.lt
      have ha2 : RowC (W.setCell ⟨w.heap.size + 1, m, none⟩ (.int .i64 (rr : Int))).drew w.heap.size 3 [.int .i64 (q : Int)] := st.at'.far (p := ⟨w.heap.size + 1, m, none⟩) (by simp) _
      have v1 := ha2.cell 0
      have v2 := ha2.frozen 0
      gi_wp2
      have hrow : RowAt (Value.int .i64) ((W.setCell ⟨w.heap.size + 1, m, none⟩ (.int .i64 (rr : Int))).drew.setCell ⟨w.heap.size, 0, none⟩ (.int .i64 (dd : Int))) (w.heap.size + 1) 3 (L.set m (rr : Int)) [] :=
        RowAt.far (RowAt.drew (st.row.set hml (rr : Int))) (by simp) _
      have hout : RowC ((W.setCell ⟨w.heap.size + 1, m, none⟩ (.int .i64 (rr : Int))).drew.setCell ⟨w.heap.size, 0, none⟩ (.int .i64 (dd : Int))) w4.heap.size 22 [.slice (some ⟨w.heap.size + 1, 0, none⟩) n n] :=
        RowC.far (RowC.drew (st.out.far (p := ⟨w.heap.size + 1, m, none⟩) (by simp; omega) _)) (by simp; omega) _
      have hkk : KeepB w.heap.size (w4.heap.size + 1) W ((W.setCell ⟨w.heap.size + 1, m, none⟩ (.int .i64 (rr : Int))).drew.setCell ⟨w.heap.size, 0, none⟩ (.int .i64 (dd : Int))) :=
KeepB.setCell (p := ⟨w.heap.size, 0, none⟩) (B := (W.setCell ⟨w.heap.size + 1, m, none⟩ (.int .i64 (rr : Int))).drew) (show KeepB w.heap.size (w4.heap.size + 1) W (W.setCell ⟨w.heap.size + 1, m, none⟩ (.int .i64 (rr : Int))).drew from
          KeepB.drew (KeepB.setCell (p := ⟨w.heap.size + 1, m, none⟩) (KeepB.refl w.heap.size (w4.heap.size + 1) W) (by simp) (by simp; omega) (.int .i64 (rr : Int)))) (by simp) (by simp; omega) _
      refine ⟨((KeepsOthers.setCell _ _ _).trans (KeepsOthers.drew _)).trans (KeepsOthers.setCell _ _ _), hkk, L.set m (rr : Int), dd, ⟨ha2.put 0 _, hout, hrow, st.bel.trans hkk.1, by rw [List.length_set]; exact st.len, by omega⟩, fun hc => ?_⟩
      obtain ⟨hk, hc1, hx1⟩ := hc.back
      obtain ⟨h1, h2⟩ := HS.out.2 hc1
      have hpl : pre.length < n := by have := HX.out.2; omega
      have hmp : m = n - (pre.length + 1) := by have := HX.out.1; omega
      have hmp2 : n - pre.length = m + 1 := by omega
      have hqn : Z.length - 1 - pre.length = m := by omega
      have hnat : (nth Z m).toNat = s := by rw [HS.out.1]; rfl
      rw [List.length_append, List.length_singleton]
      refine ⟨?_, ?_⟩
      · rw [h1, hmp2, ← hmp]
        have hd : (rr : Int) = dgAt Z a m := by
          unfold dgAt
          rw [show Z.length - 1 - m = pre.length by omega, hnat, ← h2, HR.out.1]
        rw [hd, dgFrom_step]
      · show dd = qF Z a (pre.length + 1)
        unfold qF
        rw [hqn, hnat, ← h2]
        exact HR.out.2.symm
    case done =>
      rintro D ys W hD hS ⟨L, q, st, hv⟩ hK
      have hl := hS.length
      obtain ⟨h1, h2⟩ := hv (by rw [hl]; exact hS)
      have u0 := st.out.cell 0
      have hB := st.bel
      have hrow := st.row
      go_wp2_with fail
      refine ⟨by simp, .inl ⟨_, _, rfl, run_takeDeferred hK, ?_⟩⟩
      have hgD : w.heap.size + 1 ≠ D := by omega
      have hr2 := hrow.grown (grownBy_putObj' W D (.deferred none)) (by simpa using hgD)
      have hb2 : Below w.heap.size w (W.putObj D (.deferred none)) := hB.trans (belowK_b (w := w) (Nat.le_refl _) W D _ _ (by omega) hK rfl rfl)
      have hL2 : L = dgL Z a := by rw [h1, hl, hlen, Nat.sub_self, dgFrom_zero]
      rw [hL2] at hr2
      exact ⟨_, results_tmp rfl _ _ _, _, _, rfl, OwnR.of_row' hr2 (Nat.le_succ _) (by rw [dgL_length]; simpa using hlen) (by unfold maxLen; omega) (by rw [dgL_length]; exact hlen), hb2⟩
    case stop =>
      rintro D c pre W _ _ h _
      exact h.elim
end Go.Proofs.Ytgmchedfgdgenaa
