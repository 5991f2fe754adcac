/- credencelaw11.long, spoilt and credenceref11's Join over ints, walked. Conditions: lengths within Go's bound; what is spoilt is the call's own. -/
import Derived.Test.YtpacnpiiahchiaaApp2
import Derived.Test.YtpacnpiiahchiaaHeld
import Derived.Test.YtpacnpiiahchiaaRef2
import Derived.Deep.DeepCutAuto
import Derived.Deep.CutBlock
namespace Go.Proofs.Ytpacnpiiahchiaa
open Go.RowKit

/-- the marks behind a list -/
def marks : Nat → List Int
  | 0 => []
  | k + 1 => marks k ++ [90000 + (k : Int)]
theorem marks_length : ∀ k, (marks k).length = k
  | 0 => rfl
  | k + 1 => by simp [marks, marks_length k]
set_option maxRecDepth 100000 in
set_option maxHeartbeats 1600000 in
theorem long_any (A : Option Addr) (n c : Nat) (xs : List Int) (w : World) (hx : Sl (Value.int .i64) w A n xs) (hb : n ≤ 100000) :
    Calls Try.prog 36 #[.slice A n c] w fun e w' => ∃ A' c', e = .returned (.slice A' (n + 20) c') ∧ OwnR (Value.int .i64) w' w.heap.size 3 A' (n + 20) c' (xs ++ marks 20) ∧ Below w.heap.size w w' := by
  obtain ⟨i0, hi0, hz0, hz1, hz2⟩ := info_parts SoI.info
  have HI := Lib.hid hi0; clear hi0
  have hown0 := OwnR.nil (Value.int .i64) w w.heap.size 3
  have hq : 0 + n ≤ maxLen ∧ (0 + n) * 8 ≤ 140737488355328 := by unfold maxLen; omega
  have HQ := Lib.hid hq; clear hq
  obtain ⟨wa, hwa⟩ : ∃ wa : World, wa = w := ⟨_, rfl⟩
  subst hwa
  go_enter Try.func36, Try.ntmps36
  go_upto_region 3 with (first
    | (at_builtin; refine wpList_append_sl _ (Value.int .i64) SoI.one rfl _ _ 22 rfl wa.heap.size 3 i0 (.int .i64 0) 8 Try.underlying22 HI.out hz0 hz1 hz2 rfl _ _ _ _ rfl hown0 _ _ _ _ rfl hx HQ.out.1 HQ.out.2 (Nat.le_refl _) ?_)
    | fail)
  intro A5 c5 w5 ho5 _ hb5 _
  go_wp2_with fail
  go_loopw [3, 4] (fun v i wr => ∃ (k : Nat) (B : Option Addr) (d : Nat), v = .slice B (n + k) d ∧ i = .int .i64 (k : Nat) ∧ k ≤ 20 ∧ OwnR (Value.int .i64) wr wa.heap.size 3 B (n + k) d (xs ++ marks k) ∧ Below wa.heap.size wa wr) (fun _ i _ => 20 - (intOf i).toNat)
  case atStart => exact ⟨0, A5, c5, by simp, rfl, by omega, by simpa [marks] using ho5, hb5⟩
  case round =>
    obtain ⟨k, B, d, rfl, rfl, hk, ho, hbl⟩ := hrel
    obtain ⟨wb, hwb⟩ : ∃ wb : World, wb = wr := ⟨_, rfl⟩
    subst hwb
    by_cases hlt : k < 20
    · have hz := hbl.size
      have ho1 := ho.alloc (.cells #[.int .i64 (90000 + (k : Int))] 3)
      have hb1 := hbl.alloc hz (.cells #[.int .i64 (90000 + (k : Int))] 3)
      have hz1' := hb1.size
      have hc : n + k + 1 ≤ maxLen ∧ (n + k + 1) * 8 ≤ 140737488355328 := by unfold maxLen; omega
      have HC := Lib.hid (And.intro hc hb1); clear hc hb1 ho hbl
      go_wp2_with (first
        | (at_builtin; refine wpList_append_sl _ (Value.int .i64) SoI.one rfl _ _ 22 rfl wa.heap.size 3 i0 (.int .i64 0) 8 Try.underlying22 HI.out hz0 hz1 hz2 rfl _ _ _ _ rfl ho1 _ _ _ _ rfl (Sl.one _ _ _) HC.out.1.1 HC.out.1.2 hz1' ?_)
        | fail)
      intro A9 c9 w9 ho9 _ hb9 _
      have hb10 := HC.out.2.trans hb9
      have H9 := Lib.hid (And.intro ho9 hb10); clear ho9 hb9 hb10 ho1
      go_wp2_with fail
      exact ⟨⟨k + 1, A9, c9, rfl, by go_num, by omega, H9.out.1, H9.out.2⟩, by simp [intOf]; omega⟩
    · obtain rfl : k = 20 := by omega
      have H9 := Lib.hid (And.intro ho hbl); clear ho hbl
      go_wp2_with fail
      go_ret
      exact ⟨B, d, rfl, H9.out.1, H9.out.2⟩

/-- put in, one by one -/
def puts (L M : List Int) (k : Nat) : List Int := (M.take k).foldl (fun acc x => ins cmpI x acc) L
theorem puts_zero (L M : List Int) : puts L M 0 = L := by simp [puts]
theorem puts_succ {L M : List Int} {k : Nat} (h : k < M.length) : puts L M (k + 1) = ins cmpI (nth M k) (puts L M k) := by
  unfold puts; rw [take_snoc h, List.foldl_append]; rfl
theorem puts_ok {L M : List Int} (hL : Asc cmpI L) : ∀ k, k ≤ M.length → Asc cmpI (puts L M k) ∧ (puts L M k).length ≤ L.length + k ∧ ∀ z, z ∈ puts L M k ↔ z ∈ L ∨ z ∈ M.take k
  | 0, _ => by rw [puts_zero]; exact ⟨hL, by omega, by simp⟩
  | k + 1, h => by
    obtain ⟨h1, h2, h3⟩ := puts_ok (M := M) hL k (by omega)
    have hl := ins_length_le (c := cmpI) (nth M k) (puts L M k)
    rw [puts_succ (show k < M.length by omega)]
    refine ⟨asc_ins cmpokI h1, by omega, fun z => ?_⟩
    rw [mem_ins cmpokI h1, h3, take_snoc (show k < M.length by omega)]
    simp only [List.mem_append, List.mem_singleton]
    constructor
    · rintro (h4 | ⟨h4, _⟩)
      · rcases h4 with h4 | h4
        · exact .inl h4
        · exact .inr (.inl h4)
      · exact .inr (.inr h4)
    · rintro (h4 | h4 | h4)
      · exact .inl (.inl h4)
      · exact .inl (.inr h4)
      · subst h4
        rcases hq : isIn cmpI (nth M k) (puts L M k)
        · exact .inr ⟨rfl, rfl⟩
        · obtain ⟨y, hy, h0⟩ := isIn_iff.1 hq
          rw [cmpI_zero] at h0
          subst h0
          exact .inl ((h3 _).1 hy)
set_option maxRecDepth 100000 in
set_option maxHeartbeats 1600000 in
theorem rjoin_any (A A' : Option Addr) (n c n' c' : Nat) (L M : List Int) (w : World) (hx : Sl (Value.int .i64) w A n L) (hy : Sl (Value.int .i64) w A' n' M) (hL : Asc cmpI L) (hb : n + n' ≤ 10000) :
    Calls Try.prog 39 #[.slice A n c, .slice A' n' c'] w fun e w' => ∃ B k d, e = .returned (.slice B k d) ∧ Sl (Value.int .i64) w' B k (puts L M n') ∧ Below w.heap.size w w' := by
  have HI := Lib.hid (And.intro hx.len hy.len)
  obtain ⟨wa, hwa⟩ : ∃ wa : World, wa = w := ⟨_, rfl⟩
  subst hwa
  go_enter Try.func39, Try.ntmps39
  go_wp2_with fail
  go_loopw [5, 6] (fun v i wr => ∃ (k m : Nat) (B : Option Addr) (d : Nat), v = .slice B m d ∧ i = .int .i64 (k : Nat) ∧ k ≤ n' ∧ Sl (Value.int .i64) wr B m (puts L M k) ∧ Below wa.heap.size wa wr) (fun _ i _ => n' - (intOf i).toNat)
  case atStart => exact ⟨0, n, A, c, rfl, rfl, Nat.zero_le _, by rw [puts_zero]; exact hx, Below.refl _ _⟩
  case round =>
    obtain ⟨k, m, B, d, rfl, rfl, hk, hs, hbl⟩ := hrel
    obtain ⟨wb, hwb⟩ : ∃ wb : World, wb = wr := ⟨_, rfl⟩
    subst hwb
    have hy1 := hy.below (Nat.le_refl _) hbl
    by_cases hlt : k < n'
    · obtain ⟨ba, oa, hAe, _, hca⟩ := hy1.at' (by omega)
      have g1 := hca k hlt
      subst hAe
      have hm : m ≤ 10000 := by have h1 := hs.len; have h2 := (puts_ok (M := M) hL k (by rw [HI.out.2]; exact hk)).2.1; have h3 := HI.out.1; omega
      have HS := Lib.hid (And.intro hs hbl); clear hs hbl hca hy1
      go_wp2_with fail
      refine (rwith_any B m d (puts L M k) (nth M k) _ HS.out.1 (by omega)).mono ?_
      rintro e w4 ⟨B4, d4, rfl, how, hb4⟩
      have hl := ins_length_le (c := cmpI) (nth M k) (puts L M k)
      have hml := HS.out.1.len
      have hs4 := how.sl (by omega)
      rw [← puts_succ (by rw [HI.out.2]; exact hlt)] at hs4 ⊢
      have hb5 := HS.out.2.trans (hb4.mono HS.out.2.size)
      have H5 := Lib.hid (And.intro hs4 hb5); clear hs4 hb5 how hb4 hl hml HS g1
      generalize (puts L M (k + 1)).length = m4 at *
      go_wp2_with fail
      exact ⟨⟨k + 1, m4, B4, d4, rfl, by go_num, by omega, H5.out.1, H5.out.2⟩, by simp [intOf]; omega⟩
    · obtain rfl : k = n' := by omega
      have H5 := Lib.hid (And.intro hs hbl); clear hs hbl hy1
      go_wp2_with fail
      go_ret
      exact ⟨B, m, d, rfl, H5.out.1, H5.out.2⟩

/-- what is left of what the call owns, at a length that is shorter -/
theorem OwnR.pre {α : Type} [Inhabited α] {enc : α → Value} {w : World} {base : Nat} {e : TypeId} {A : Option Addr} {n m c : Nat} {xs ys : List α} (h : OwnR enc w base e A m c (xs ++ ys)) (hn : xs.length = n) (hb : m ≤ 140737488351232) : Sl enc w A n xs := by
  have h1 := h.sl hb
  have h2 := h.length
  rw [List.length_append] at h2
  refine ⟨hn, by omega, fun hp => ?_⟩
  obtain ⟨b, off, e1, hlt, hc⟩ := h1.at' (by omega)
  refine ⟨b, off, e1, hlt, fun j hj => ?_⟩
  rw [hc j (by omega), nth_append_left (by omega)]
/-- the call's own row, all of it written over -/
theorem OwnR.over {α : Type} {enc : α → Value} {w w' : World} {base : Nat} {e : TypeId} {g n c : Nat} {xs ys : List α} {rest : List Value} (h : OwnR enc w base e (some ⟨g, 0, none⟩) n c xs) (hr : RowAt enc w' g e ys rest) (hl : ys.length = n) (hc : n + rest.length = c) : OwnR enc w' base e (some ⟨g, 0, none⟩) n c ys := by
  have hb : base ≤ g := by
    rcases h.2 with ⟨h1, _⟩ | ⟨g', _, _, h1, h2, _⟩
    · injection h1 with h1; cases h1
    · injection h1 with h1; injection h1 with h1; injection h1 with h1; omega
  exact OwnR.of_row' hr hb (by rw [hl]; exact hc) h.capmax hl
theorem Sl.grown {α : Type} [Inhabited α] {enc : α → Value} {w w' : World} {A : Option Addr} {n : Nat} {xs : List α} {row : Option Nat} (h : Sl enc w A n xs) (hg : w.grownBy w' row) (hne : ∀ b off, 0 < n → A = some ⟨b, off, none⟩ → row ≠ some b) : Sl enc w' A n xs :=
  ⟨h.len, h.big, fun hn => by
    obtain ⟨b, off, e, hlt, hc⟩ := h.at' hn
    exact ⟨b, off, e, Nat.lt_of_lt_of_le hlt hg.size, fun j hj => World.grownBy.cell hg (hc j hj) (fun e' => hne b off hn e e'.symm)⟩⟩
theorem ownBlock_len (A : Option Addr) (n m c d : Nat) : (Value.slice A n c).ownBlock = (Value.slice A m d).ownBlock := by cases A <;> rfl
theorem repl_step (mark : Int) (xs : List Int) (k : Nat) (h : k < xs.length) : (List.replicate k mark ++ xs.drop k).set k mark = List.replicate (k + 1) mark ++ xs.drop (k + 1) := by
  rw [List.drop_eq_getElem_cons h, List.set_append_right _ _ (by simp)]
  simp only [List.length_replicate, Nat.sub_self, List.set_cons_zero, List.replicate_succ', List.append_assoc, List.cons_append, List.nil_append]
theorem nth_repl (n k : Nat) (mark : Int) (h : k < n) : nth (List.replicate n mark) k = mark := by
  rw [nth_eq (by simpa using h)]; simp

set_option maxRecDepth 100000 in
set_option maxHeartbeats 4000000 in
theorem spoilt_any (base : Nat) (A : Option Addr) (n c : Nat) (xs : List Int) (mark : Int) (w : World) (h : OwnR (Value.int .i64) w base 3 A n c xs) (hb : n ≤ 1000) (hB : base ≤ w.heap.size) :
    Calls Try.prog 37 #[.slice A n c, .int .i64 mark] w fun e w' => e = .returned (.bool true) ∧ w.grownBy w' (Value.slice A n c).ownBlock := by
  obtain ⟨i0, hi0, hz0, hz1, hz2⟩ := info_parts SoI.info
  have HI := Lib.hid (And.intro hi0 h.length); clear hi0
  obtain ⟨wa, hwa⟩ : ∃ wa : World, wa = w := ⟨_, rfl⟩
  subst hwa
  go_enter Try.func37, Try.ntmps37
  go_wp2_with fail
  go_loopw [5] (fun i wr => ∃ k : Nat, i = .int .i64 (k : Nat) ∧ k ≤ n ∧ OwnR (Value.int .i64) wr base 3 A n c (List.replicate k mark ++ xs.drop k) ∧ wa.grownBy wr (Value.slice A n c).ownBlock) (fun i _ => n - (intOf i).toNat)
  case atStart => exact ⟨0, rfl, Nat.zero_le _, by simpa using h, grown_refl _ _⟩
  case round =>
    obtain ⟨k, rfl, hk, ho, hg⟩ := hrel
    obtain ⟨wb, hwb⟩ : ∃ wb : World, wb = wr := ⟨_, rfl⟩
    subst hwb
    by_cases hlt : k < n
    · obtain ⟨g, rest, rfl, hbg, hr, hc⟩ := ho.row (by omega)
      have hkl : k < (List.replicate k mark ++ xs.drop k).length := by rw [ho.length]; exact hlt
      have g1 := hr.cell hkl
      have f1 := hr.frozen k
      have hset := hr.set hkl mark
      rw [repl_step mark xs k (by rw [HI.out.2]; exact hlt)] at hset
      have ho2 := ho.over hset (by have := HI.out.2; simp; omega) hc
      have hg2 : wa.grownBy (wb.setCell ⟨g, k, none⟩ (.int .i64 mark)) (some g) := grown_setCell hg k _
      have HH := Lib.hid (And.intro ho2 hg2); clear ho2 hg2 hset ho hg hr h hkl
      go_wp2_with fail
      exact ⟨⟨k + 1, by go_num, by omega, HH.out.1, HH.out.2⟩, by simp [intOf]; omega⟩
    · obtain rfl : k = n := by omega
      obtain ⟨M, hM⟩ : ∃ M, M = List.replicate k mark := ⟨_, rfl⟩
      have hd : xs.drop k = [] := List.drop_of_length_le (by rw [HI.out.2]; omega)
      rw [hd, List.append_nil, ← hM] at ho
      have hMl : M.length = k := by rw [hM]; simp
      have hl := OwnR.pre (ys := []) (by rw [List.append_nil]; exact ho) hMl (by omega)
      have hA : ∀ b off, 0 < k → A = some ⟨b, off, none⟩ → b < wb.heap.size := by
        intro b off hp e
        obtain ⟨b', off', e', hlt', _⟩ := hl.at' hp
        rw [e] at e'
        injection e' with e'
        injection e' with e1 _
        omega
      have hsz := hg.size
      have HH := Lib.hid (And.intro ho (And.intro hg (And.intro hl (And.intro hA hM)))); clear ho hg hl hA hM hd h
      go_wp2_with fail
      go_loopw [6, 7] (fun v i wr => ∃ (j : Nat) (B : Option Addr) (d : Nat), v = .slice B (k + j) d ∧ i = .int .i64 (j : Nat) ∧ j ≤ 40 ∧ Sl (Value.int .i64) wr A k M ∧ OwnR (Value.int .i64) wr base 3 B (k + j) d (M ++ List.replicate j 7) ∧ wa.grownBy wr (Value.slice A k c).ownBlock ∧
          ((B = A ∧ d = c) ∨ ∀ g, (Value.slice B (k + j) d).ownBlock = some g → wb.heap.size ≤ g) ∧ wb.heap.size ≤ wr.heap.size) (fun _ i _ => 40 - (intOf i).toNat)
      case atStart => exact ⟨0, A, c, rfl, rfl, by omega, HH.out.2.2.1, by simpa using HH.out.1, HH.out.2.1, .inl ⟨rfl, rfl⟩, Nat.le_refl _⟩
      case round =>
        obtain ⟨j, B, d, rfl, rfl, hj, hl, ho, hg, hph, hs2⟩ := hrel
        obtain ⟨wc, hwc⟩ : ∃ wc : World, wc = wr := ⟨_, rfl⟩
        subst hwc
        by_cases hlt2 : j < 40
        · have ho1 := ho.alloc (.cells #[.int .i64 7] 3)
          have hl1 := hl.alloc (.cells #[.int .i64 7] 3)
          have hc : k + j + 1 ≤ maxLen ∧ (k + j + 1) * 8 ≤ 140737488355328 := by unfold maxLen; omega
          have hbase : base ≤ (wc.alloc (.cells #[.int .i64 7] 3)).heap.size := by have := hg.size; simp; omega
          have hg1 : wa.grownBy (wc.alloc (.cells #[.int .i64 7] 3)) (Value.slice A k c).ownBlock := grown_alloc hg _
          have hsz1 : wb.heap.size ≤ (wc.alloc (.cells #[.int .i64 7] 3)).heap.size := by simp; omega
          have HC := Lib.hid (And.intro hc (And.intro hl1 (And.intro hg1 (And.intro hph hsz1)))); clear hc hl1 hg1 hph ho hl hg hsz1
          go_wp2_with (first
            | (at_builtin; refine wpList_append_two _ (Value.int .i64) SoI.one rfl _ _ 22 rfl base 3 i0 (.int .i64 0) 8 Try.underlying22 HI.out.1 hz0 hz1 hz2 rfl _ _ _ _ rfl ho1 _ _ _ _ rfl (Sl.one _ _ _) HC.out.1.1 HC.out.1.2 hbase ?_)
            | fail)
          intro B9 d9 w9 ho9 hg9 hb9 hd9
          have hres : Sl (Value.int .i64) w9 A k M ∧ wa.grownBy w9 (Value.slice A k c).ownBlock ∧ ((B9 = A ∧ d9 = c) ∨ ∀ g, (Value.slice B9 (k + (j + 1)) d9).ownBlock = some g → wb.heap.size ≤ g) ∧ wb.heap.size ≤ w9.heap.size := by
            have hs9 := hg9.size
            have hz9 : wb.heap.size ≤ w9.heap.size := Nat.le_trans HC.out.2.2.2.2 hs9
            have hgg : wa.grownBy w9 (Value.slice A k c).ownBlock := by
              refine ⟨hg9.os.trans HC.out.2.2.1.os, hg9.tape.trans HC.out.2.2.1.tape, hg9.output.trans HC.out.2.2.1.output, Nat.le_trans HC.out.2.2.1.size hs9, fun b hb hne => ?_⟩
              refine (hg9.block b (Nat.lt_of_lt_of_le hb HC.out.2.2.1.size) ?_).trans (HC.out.2.2.1.block b hb hne)
              intro e
              rcases HC.out.2.2.2.1 with ⟨rfl, rfl⟩ | hfar
              · exact hne (e.trans (ownBlock_len _ _ _ _ _))
              · have := hfar b e.symm
                have := HH.out.2.1.size
                omega
            rcases hd9 with ⟨rfl, rfl⟩ | ⟨hbel, hfr⟩
            · rcases HC.out.2.2.2.1 with ⟨rfl, rfl⟩ | hfar
              · refine ⟨?_, hgg, .inl ⟨rfl, rfl⟩, hz9⟩
                exact OwnR.pre (ys := List.replicate j 7 ++ [7]) ho9 hMl (by omega)
              · refine ⟨Sl.grown HC.out.2.1 hg9 ?_, hgg, .inr fun g hq => hfar g (by rw [← hq]; exact ownBlock_len _ _ _ _ _), hz9⟩
                intro b off hp e hq
                have h1 := hfar b hq
                have h2 := HH.out.2.2.2.1 b off hp e
                omega
            · refine ⟨HC.out.2.1.below (by simp) hbel, hgg, .inr fun g hq => ?_, hz9⟩
              have hq' : (Value.slice B9 (k + j + 1) d9).ownBlock = some g := hq
              rcases hfr with hfr | hfr
              · rw [hfr] at hq'; cases hq'
              · rw [hfr] at hq'
                injection hq' with hq'
                have h5 := HC.out.2.2.2.2
                simp only [World.size_alloc] at h5
                omega
          have ho10 : OwnR (Value.int .i64) w9 base 3 B9 (k + (j + 1)) d9 (M ++ List.replicate (j + 1) 7) := by
            rw [List.replicate_succ']; exact ho9
          have HR := Lib.hid (And.intro hres ho10); clear hres ho10 ho9 hg9 hb9 hd9 ho1
          go_wp2_with fail
          exact ⟨⟨j + 1, B9, d9, rfl, by go_num, by omega, HR.out.1.1, HR.out.2, HR.out.1.2.1, HR.out.1.2.2.1, HR.out.1.2.2.2⟩, by simp [intOf]; omega⟩
        · obtain rfl : j = 40 := by omega
          have hm := ho.sl (by omega)
          have HC := Lib.hid (And.intro hl (And.intro hm hg)); clear hl hm hg ho hph
          go_wp2_with fail
          go_loopw [8] (fun i wr => ∃ t : Nat, i = .int .i64 (t : Nat) ∧ t ≤ k ∧ wr = wc) (fun i _ => k - (intOf i).toNat)
          case atStart => exact ⟨0, rfl, Nat.zero_le _, rfl⟩
          case round =>
            obtain ⟨t, rfl, ht, rfl⟩ := hrel
            by_cases hlt3 : t < k
            · obtain ⟨b1, o1, hA1, _, hc1⟩ := HC.out.1.at' (by omega)
              obtain ⟨b2, o2, hB2, _, hc2⟩ := HC.out.2.1.at' (by omega)
              have g1 := hc1 t hlt3
              have g2 := hc2 t (by omega)
              rw [nth_append_left (by omega)] at g2
              have hnm : nth M t = mark := by rw [HH.out.2.2.2.2]; exact nth_repl k t mark hlt3
              rw [hnm] at g1 g2
              subst hA1 hB2
              clear hc1 hc2 hnm
              go_wp2_with fail
              exact ⟨⟨t + 1, by go_num, by omega, trivial⟩, by simp [intOf]; omega⟩
            · go_wp2_with fail
              go_ret
              exact ⟨rfl, HC.out.2.2⟩
end Go.Proofs.Ytpacnpiiahchiaa
