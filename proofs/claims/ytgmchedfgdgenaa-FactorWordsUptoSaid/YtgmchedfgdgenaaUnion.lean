/- The reference's Union, walked. Conditions: both tables may be; within Go's bound. -/
import Derived.Test.YtgmchedfgdgenaaPut13
import Derived.Test.YtgmchedfgdgenaaJ12
import Derived.Test.YtgmchedfgdgenaaJ3
namespace Go.Proofs.Ytgmchedfgdgenaa
open Go.RowKit
attribute [local go_sem] Oper.semAt_some

/-- what is wrong with a union, or 0 -/
def unionErr (S1 Z1 S2 Z2 : List Int) : Int := if (uniL S1 S2).any (clash S1 Z1 S2 Z2) = true then 61 else if 2147483647 < sufP (uniZ S1 Z1 S2 Z2) 0 then 4 else 0
theorem timesErr_union {S1 Z1 : List Int} {m1 : Nat} {S2 Z2 : List Int} {m2 : Nat} (h1 : checkC S1 Z1 m1 = 0) (h2 : checkC S2 Z2 m2 = 0) : timesErr S1 Z1 m1 S2 Z2 m2 = unionErr S1 Z1 S2 Z2 := by
  unfold timesErr unionErr uniZ; rw [h1, h2]; simp
theorem mem_put {L : List Int} {v x : Int} {p : Nat} : x ∈ L.take p ++ v :: L.drop p ↔ x = v ∨ x ∈ L := by
  conv => rhs; rw [← List.take_append_drop p L]
  simp only [List.mem_append, List.mem_cons]
  constructor
  · rintro (h | h | h)
    · exact .inr (.inl h)
    · exact .inl h
    · exact .inr (.inr h)
  · rintro (h | h | h)
    · exact .inr (.inl h)
    · exact .inl h
    · exact .inr (.inr h)
theorem asc_lt {L : List Int} (h : Asc cmpI L) {i j : Nat} (hij : i < j) (hj : j < L.length) : nth L i < nth L j := by
  have := nth_asc h hij hj
  rwa [cmpI_neg] at this
theorem asc_put {L : List Int} {v : Int} (h : Asc cmpI L) (hv : v ∉ L) : Asc cmpI (L.take (gapAt L v) ++ v :: L.drop (gapAt L v)) := by
  have hlo : ∀ x, x ∈ L.take (gapAt L v) → x < v := fun x hx => by
    obtain ⟨j, hj, rfl⟩ := mem_nth hx
    rw [List.length_take] at hj
    rw [nth_take (by omega)]
    have h1 := gapAt_lo (S := L) (v := v) (i := j) (by omega)
    have h2 : nth L j ≠ v := fun e => hv (e ▸ nth_mem (by omega))
    omega
  have hhi : ∀ x, x ∈ L.drop (gapAt L v) → v < x := fun x hx => by
    obtain ⟨j, hj, rfl⟩ := mem_nth hx
    rw [List.length_drop] at hj
    rw [nth_drop]
    have h1 := gapAt_hi (S := L) (v := v) (by omega)
    rcases Nat.eq_zero_or_pos j with h0 | h0
    · subst h0; exact h1
    · have := asc_lt h (show gapAt L v < gapAt L v + j by omega) (by omega)
      omega
  unfold Asc at h ⊢
  rw [List.pairwise_append]
  refine ⟨List.Pairwise.sublist (List.take_sublist _ _) h, ?_, fun a ha b hb => ?_⟩
  · rw [List.pairwise_cons]
    exact ⟨fun x hx => by rw [cmpI_neg]; exact hhi x hx, List.Pairwise.sublist (List.drop_sublist _ _) h⟩
  · rw [cmpI_neg]
    have h1 := hlo a ha
    rcases List.mem_cons.1 hb with rfl | hb
    · exact h1
    · have := hhi b hb; omega
theorem uni_nil (S : List Int) (h : Asc cmpI S) : uniL S [] = S := by unfold uniL; rw [List.append_nil]; exact setOf_asc h
theorem uni_in {S1 S2 : List Int} {j : Nat} (hj : j < S2.length) (h : nth S2 j ∈ S1) : uniL S1 (S2.take (j + 1)) = uniL S1 (S2.take j) := by
  refine Asc.ext cmpokI (asc_uni _ _) (asc_uni _ _) fun x => ?_
  rw [mem_uni, mem_uni, take_snoc hj, List.mem_append, List.mem_singleton]
  constructor
  · rintro (h1 | h1 | h1)
    · exact .inl h1
    · exact .inr h1
    · exact .inl (h1 ▸ h)
  · rintro (h1 | h1)
    · exact .inl h1
    · exact .inr (.inl h1)
theorem uni_new {S1 S2 : List Int} {j : Nat} (hj : j < S2.length) (h : nth S2 j ∉ uniL S1 (S2.take j)) : uniL S1 (S2.take (j + 1)) = (uniL S1 (S2.take j)).take (gapAt (uniL S1 (S2.take j)) (nth S2 j)) ++ nth S2 j :: (uniL S1 (S2.take j)).drop (gapAt (uniL S1 (S2.take j)) (nth S2 j)) := by
  refine Asc.ext cmpokI (asc_uni _ _) (asc_put (asc_uni _ _) h) fun x => ?_
  rw [mem_put, mem_uni, mem_uni, take_snoc hj, List.mem_append, List.mem_singleton]
  constructor
  · rintro (h1 | h1 | h1)
    · exact .inr (.inl h1)
    · exact .inr (.inr h1)
    · exact .inl h1
  · rintro (h1 | h1 | h1)
    · exact .inr (.inr h1)
    · exact .inl h1
    · exact .inr (.inl h1)
theorem map_put {α β : Type} (F : α → β) (L : List α) (v : α) (p : Nat) : (L.map F).take p ++ F v :: (L.map F).drop p = (L.take p ++ v :: L.drop p).map F := by simp [List.map_take, List.map_drop]
theorem map_size1 {S1 Z1 S2 Z2 : List Int} (h : TabOk S1 Z1) : S1.map (sizeF S1 Z1 S2 Z2) = Z1 := by
  apply nth_ext
  · rw [List.length_map, h.len]
  · intro j hj
    have hj' : j < S1.length := by simpa using hj
    rw [nth_map _ hj', sizeF_1 h hj']
theorem size_new {S1 Z1 S2 Z2 : List Int} (h2 : TabOk S2 Z2) {j : Nat} (hj : j < S2.length) (h : nth S2 j ∉ S1) : sizeF S1 Z1 S2 Z2 (nth S2 j) = nth Z2 j := by
  unfold sizeF
  rw [idxOf_none.2 h, idxOf_nth (asc_nodup h2.asc) hj]
theorem clash_at {S1 Z1 S2 Z2 : List Int} (h1 : TabOk S1 Z1) (h2 : TabOk S2 Z2) {p j : Nat} (hp : p < S1.length) (hj : j < S2.length) (he : nth S1 p = nth S2 j) : clash S1 Z1 S2 Z2 (nth S2 j) = (nth Z1 p != nth Z2 j) := by
  unfold clash
  rw [← he, idxOf_nth (asc_nodup h1.asc) hp, he, idxOf_nth (asc_nodup h2.asc) hj]
theorem clash_out {S1 Z1 S2 Z2 : List Int} {v : Int} (h : v ∉ S1) : clash S1 Z1 S2 Z2 v = false := by
  unfold clash; rw [idxOf_none.2 h]
theorem clash_out2 {S1 Z1 S2 Z2 : List Int} {v : Int} (h : v ∉ S2) : clash S1 Z1 S2 Z2 v = false := by
  unfold clash
  rcases S1.idxOf? v with _ | _
  · rfl
  · rw [idxOf_none.2 h]
theorem union_noclash {S1 Z1 S2 Z2 : List Int} (h : ∀ j, j < S2.length → clash S1 Z1 S2 Z2 (nth S2 j) = false) : (uniL S1 S2).any (clash S1 Z1 S2 Z2) = false := by
  rw [List.any_eq_false]
  intro x _
  by_cases hx : x ∈ S2
  · obtain ⟨j, hj, rfl⟩ := mem_nth hx
    rw [h j hj]; simp
  · rw [clash_out2 hx]; simp
theorem union_clash {S1 Z1 S2 Z2 : List Int} {j : Nat} (hj : j < S2.length) (h : clash S1 Z1 S2 Z2 (nth S2 j) = true) : (uniL S1 S2).any (clash S1 Z1 S2 Z2) = true := by
  rw [List.any_eq_true]
  exact ⟨_, mem_uni.2 (.inr (nth_mem hj)), h⟩
/-- between two rounds -/
structure UnLp (OA OB : Option Addr) (on : Nat) (w wr : World) (ab bb : List Value) (A : Option Addr) (n c : Nat) (B : Option Addr) (d : Nat) (U Z : List Int) : Prop where
  bel : Below w.heap.size w wr
  ra : RowC wr w.heap.size 29 ab
  rb : RowC wr (w.heap.size + 1) 29 bb
  rr : RowC wr (w.heap.size + 1 + 1) 29 [.slice none 0 0, .slice none 0 0, .int .i64 0]
  ru : RowC wr (w.heap.size + 1 + 1 + 1) 29 [.slice A n c, .slice B n d, .int .i64 0]
  sA : Sl (Value.int .i64) wr A n U
  sB : Sl (Value.int .i64) wr B n Z
  nA : 0 < n → ∀ g o, A = some ⟨g, o, none⟩ → g < w.heap.size ∨ w.heap.size + 1 + 1 + 1 < g
  nB : 0 < n → ∀ g o, B = some ⟨g, o, none⟩ → g < w.heap.size ∨ w.heap.size + 1 + 1 + 1 < g
  oA : (A = OA ∧ n = on) ∨ ∀ g o, A = some ⟨g, o, none⟩ → w.heap.size ≤ g
  oB : (B = OB ∧ n = on) ∨ ∀ g o, B = some ⟨g, o, none⟩ → w.heap.size ≤ g
theorem Sl.turnC {α : Type} [Inhabited α] {enc : α → Value} {a b : World} {S : Nat → Prop} {A : Option Addr} {n : Nat} {xs : List α} (h : Sl enc a A n xs) (ht : Turn a b S) (hS : 0 < n → ∀ g o, A = some ⟨g, o, none⟩ → ¬ S g) : Sl enc b A n xs :=
  ⟨h.len, h.big, fun hn => by
    obtain ⟨g, off, e, hlt, hc⟩ := h.at' hn
    exact ⟨g, off, e, Nat.lt_of_lt_of_le hlt ht.size, fun j hj => (ht.cellT hlt (hS hn g off e)).trans (hc j hj)⟩⟩
theorem OwnR.slAt {w : World} {base : Nat} {A : Option Addr} {n c : Nat} {xs : List Int} (h : OwnR (Value.int .i64) w base 3 A n c xs) {B : Nat} (hB : B ≤ base) : ∀ g o, A = some ⟨g, o, none⟩ → B ≤ g := fun g o e => by
  rcases h.at_row with h1 | ⟨g', h1, h2, _⟩
  · rw [e] at h1; cases h1
  · rw [e] at h1; injection h1 with h1; injection h1 with h1; omega
section
variable {OA OB : Option Addr} {on : Nat} {w wo w5 : World} {ab bb : List Value} {A A' : Option Addr} {n n' c c' : Nat} {B B' : Option Addr} {d d' : Nat} {U Z X Y : List Int}
theorem UnLp.next (h : UnLp OA OB on w wo ab bb A n c B d U Z) (hb : Below wo.heap.size wo w5) (hA : OwnR (Value.int .i64) w5 wo.heap.size 3 A' n' c' X) (hB : OwnR (Value.int .i64) w5 wo.heap.size 3 B' n' d' Y) (hn : n' ≤ 140737488351232) :
    UnLp OA OB on w (((w5.setCell ⟨w.heap.size + 1 + 1 + 1, 0, none⟩ (.slice A' n' c')).setCell ⟨w.heap.size + 1 + 1 + 1, 1, none⟩ (.slice B' n' d')).setCell ⟨w.heap.size + 1 + 1 + 1, 2, none⟩ (.int .i64 0)) ab bb A' n' c' B' d' X Y := by
  obtain ⟨q, hq⟩ : ∃ q, q = w.heap.size + 1 + 1 + 1 := ⟨_, rfl⟩
  have hlt := h.ru.lt
  have hu := h.ru.below' hb
  have h1 := h.ra.below' hb
  have h2 := h.rb.below' hb
  have h3 := h.rr.below' hb
  have gA := hA.slAt (Nat.le_refl _)
  have gB := hB.slAt (Nat.le_refl _)
  rw [← hq] at hlt hu ⊢
  have T : Turn w5 (((w5.setCell ⟨q, 0, none⟩ (.slice A' n' c')).setCell ⟨q, 1, none⟩ (.slice B' n' d')).setCell ⟨q, 2, none⟩ (.int .i64 0)) (fun x => x = q) :=
    (((Turn.refl w5 (fun x => x = q)).setCell ⟨q, 0, none⟩ (fun _ => rfl) _).setCell ⟨q, 1, none⟩ (fun _ => rfl) _).setCell ⟨q, 2, none⟩ (fun _ => rfl) _
  refine ⟨?_, h1.turn T (by omega), h2.turn T (by omega), h3.turn T (by omega), ?_, (hA.sl hn).turn T (fun g o e e2 => by have := gA g o e; omega), (hB.sl hn).turn T (fun g o e e2 => by have := gB g o e; omega), fun _ g o e => by have := gA g o e; omega, fun _ g o e => by have := gB g o e; omega, .inr fun g o e => by have := gA g o e; omega, .inr fun g o e => by have := gB g o e; omega⟩
  · exact ((((h.bel.trans (hb.mono h.bel.size)).setCell (p := ⟨q, 0, none⟩) (by show w.heap.size ≤ q; omega) _).setCell (p := ⟨q, 1, none⟩) (by show w.heap.size ≤ q; omega) _).setCell (p := ⟨q, 2, none⟩) (by show w.heap.size ≤ q; omega) _)
  · rw [← hq]
    exact ((hu.put 0 _).put 1 _).put 2 _
theorem UnLp.drewN (h : UnLp OA OB on w wo ab bb A n c B d U Z) (k : Nat) : UnLp OA OB on w (wo.drewN k) ab bb A n c B d U Z :=
  ⟨below_drewN h.bel k, h.ra.drewN k, h.rb.drewN k, h.rr.drewN k, h.ru.drewN k, h.sA.drewN k, h.sB.drewN k, h.nA, h.nB, h.oA, h.oB⟩
end
def UnionPost (A1 A2 : Option Addr) (n1 : Nat) (S1 Z1 S2 Z2 : List Int) (w : World) (e : Ending) (w' : World) : Prop :=
  (unionErr S1 Z1 S2 Z2 ≠ 0 ∧ e = .returned (.tuple #[.agg #[.slice none 0 0, .slice none 0 0, .int .i64 0], .int .i64 (unionErr S1 Z1 S2 Z2)]) ∧ Below w.heap.size w w') ∨
  (unionErr S1 Z1 S2 Z2 = 0 ∧ ∃ A c B d, e = .returned (.tuple #[.agg #[.slice A (uniL S1 S2).length c, .slice B (uniL S1 S2).length d, .int .i64 (sufP (uniZ S1 Z1 S2 Z2) 0)], .int .i64 0]) ∧
    Sl (Value.int .i64) w' A (uniL S1 S2).length (uniL S1 S2) ∧ Sl (Value.int .i64) w' B (uniL S1 S2).length (uniZ S1 Z1 S2 Z2) ∧ ((A = A1 ∧ (uniL S1 S2).length = n1) ∨ ∀ g o, A = some ⟨g, o, none⟩ → w.heap.size ≤ g) ∧ ((B = A2 ∧ (uniL S1 S2).length = n1) ∨ ∀ g o, B = some ⟨g, o, none⟩ → w.heap.size ≤ g) ∧ Below w.heap.size w w')
set_option maxRecDepth 100000 in
set_option maxHeartbeats 4000000 in
theorem union_any (A1 A2 B1 B2 : Option Addr) (n1 c1 c2 m2 d1 d2 : Nat) (x1 x2 : Int) (S1 Z1 S2 Z2 : List Int) (w : World) (h1 : Sl (Value.int .i64) w A1 n1 S1) (h2 : Sl (Value.int .i64) w A2 n1 Z1) (k1 : Sl (Value.int .i64) w B1 m2 S2) (k2 : Sl (Value.int .i64) w B2 m2 Z2)
    (hb : (n1 + m2 + 1) * 8 ≤ 140737488351232) (T1 : TabOk S1 Z1) (T2 : TabOk S2 Z2) :
    Calls Try.prog 48 #[.agg #[.slice A1 n1 c1, .slice A2 n1 c2, .int .i64 x1], .agg #[.slice B1 m2 d1, .slice B2 m2 d2, .int .i64 x2]] w (UnionPost A1 A2 n1 S1 Z1 S2 Z2 w) := by
  have HL := Lib.hid (And.intro h1.len (And.intro k1.len (And.intro T1 T2)))
  have HI := Lib.hid (And.intro h1 (And.intro h2 (And.intro k1 k2)))
  have big1 := h1.big
  have big2 := k1.big
  have H0 := ((((((((Held.init w).sl h1).sl h2).sl k1).sl k2).new 29 [.slice A1 n1 c1, .slice A2 n1 c2, .int .i64 x1]).new 29 [.slice B1 m2 d1, .slice B2 m2 d2, .int .i64 x2]).new 29 [.slice none 0 0, .slice none 0 0, .int .i64 0]).new 29 [.slice A1 n1 c1, .slice A2 n1 c2, .int .i64 0]
  simp only [World.size_alloc] at H0
  obtain ⟨F, hF⟩ : ∃ F, F = sizeF S1 Z1 S2 Z2 := ⟨_, rfl⟩
  have lo : ∀ {A : Option Addr} {n : Nat} {xs : List Int}, Sl (Value.int .i64) w A n xs → 0 < n → ∀ g o, A = some ⟨g, o, none⟩ → g < w.heap.size ∨ w.heap.size + 1 + 1 + 1 < g := fun h hn g o e => by
    obtain ⟨b, off, e2, hlt, _⟩ := h.at' hn
    rw [e] at e2
    injection e2 with e2
    injection e2 with e2
    omega
  have HF := Lib.hid hF
  have HH := Lib.hid H0
  clear h1 h2 k1 k2 H0 T1 T2 hF
  go_enter Try.func48, Try.ntmps48
  go_wp2_with fail
  have e0 : uniL S1 (S2.take 0) = S1 := by rw [List.take_zero]; exact uni_nil S1 HL.out.2.2.1.asc
  have l0 : UnLp A1 A2 n1 w _ _ _ A1 n1 c1 A2 c2 S1 Z1 := ⟨HH.out.bel, HH.out.has.2.2.2.1, HH.out.has.2.2.1, HH.out.has.2.1, HH.out.has.1, HH.out.has.2.2.2.2.2.2.2.1, HH.out.has.2.2.2.2.2.2.1, fun hn => lo HI.out.1 hn, fun hn => lo HI.out.2.1 hn, .inl ⟨rfl, rfl⟩, .inl ⟨rfl, rfl⟩⟩
  have HE0 := Lib.hid (And.intro e0 l0)
  clear e0 l0 lo
  go_loopw [7] (fun i wr => ∃ (j : Nat) (A : Option Addr) (n c : Nat) (B : Option Addr) (d : Nat), j ≤ m2 ∧ i = .int .i64 (j : Nat) ∧ n = (uniL S1 (S2.take j)).length ∧
    UnLp A1 A2 n1 w wr [.slice A1 n1 c1, .slice A2 n1 c2, .int .i64 x1] [.slice B1 m2 d1, .slice B2 m2 d2, .int .i64 x2] A n c B d (uniL S1 (S2.take j)) ((uniL S1 (S2.take j)).map F) ∧ ∀ i, i < j → clash S1 Z1 S2 Z2 (nth S2 i) = false) (fun i _ => m2 - (intOf i).toNat)
  case atStart =>
    refine ⟨0, A1, n1, c1, A2, c2, Nat.zero_le _, rfl, ?_, ?_, fun i hi => by omega⟩
    · rw [HE0.out.1, HL.out.1]
    · rw [HE0.out.1, HF.out, map_size1 HL.out.2.2.1]; exact HE0.out.2
  case round =>
    obtain ⟨j, A, n, c, B, d, hj, rfl, hn, lp, hcl⟩ := hrel
    obtain ⟨wo, hwo⟩ : ∃ wo : World, wo = wr := ⟨_, rfl⟩
    subst hwo
    have LP := Lib.hid lp
    have HC := Lib.hid hcl
    have HN := Lib.hid hn
    have hnb : (n + 1) * 8 ≤ 140737488351232 := by
      have h1 := uni_length_le S1 (S2.take j)
      rw [← hn, HL.out.1, List.length_take] at h1
      omega
    clear hn hcl
    by_cases hlt : j < m2
    · obtain ⟨bs, os, rfl, hbsw, hc1⟩ := HI.out.2.2.1.at' (by omega)
      obtain ⟨bz, oz, rfl, hbzw, hc2⟩ := HI.out.2.2.2.at' (by omega)
      have hsz := lp.bel.size
      have g1 := (lp.bel.cell (p := ⟨bs, os + j, none⟩) hbsw).trans (hc1 j hlt)
      have g2 := (lp.bel.cell (p := ⟨bz, oz + j, none⟩) hbzw).trans (hc2 j hlt)
      have hbs : bs < wo.heap.size := by omega
      have hbz : bz < wo.heap.size := by omega
      obtain ⟨v, hv⟩ : ∃ v, v = nth S2 j := ⟨_, rfl⟩
      obtain ⟨z, hz⟩ : ∃ z, z = nth Z2 j := ⟨_, rfl⟩
      rw [← hv] at g1
      rw [← hz] at g2
      have HV := Lib.hid (And.intro hv hz)
      have hS1w := HI.out.1.below (Nat.le_refl _) lp.bel
      have HSW := Lib.hid hS1w
      have a0 := lp.ra.cell 0
      have a1 := lp.ra.cell 1
      have b0 := lp.rb.cell 0
      have b1 := lp.rb.cell 1
      clear hc1 hc2 hv hz hS1w lp
      by_cases hin : v ∈ S1
      · obtain ⟨p, hp, he⟩ := mem_nth hin
        have hf := findF_at (asc_nodup HL.out.2.2.1.asc) hp he
        have hpn : p < n1 := by rw [← HL.out.1]; exact hp
        have dlt : decide ((p : Int) < 0) = false := by simp
        have HP := Lib.hid (And.intro hp (And.intro he hin))
        clear hp he hin
        go_wp2_with fail
        go_quiet ((go_at_call 75; exact Calls.quiet_of_same ((find_any A1 n1 c1 S1 v _ (HSW.out.drewN _)).mono fun _ _ ⟨h1, h2⟩ => ⟨h1, h2.symm⟩)))
        try rw [hf]
        obtain ⟨wq, hwq⟩ : ∃ wq, wq = wo.drewN nq := ⟨_, rfl⟩
        have lp := LP.out.drewN nq
        rw [← hwq] at lp ⊢
        obtain ⟨y, hy⟩ : ∃ y, y = nth Z1 p := ⟨_, rfl⟩
        obtain ⟨zb1, zo1, rfl, hzw, hc3⟩ := HI.out.2.1.at' (by omega)
        have g3 : wq.cell? ⟨zb1, zo1 + p, none⟩ = some (.int .i64 y) := by rw [hy]; exact (lp.bel.cell (p := ⟨zb1, zo1 + p, none⟩) hzw).trans (hc3 p hpn)
        have g2 : wq.cell? ⟨bz, oz + j, none⟩ = some (.int .i64 z) := by rw [hwq]; exact g2
        have a1 := lp.ra.cell 1
        have b1 := lp.rb.cell 1
        have hcl := clash_at HL.out.2.2.1 HL.out.2.2.2 HP.out.1 (show j < S2.length by rw [HL.out.2.1]; exact hlt) (by rw [HP.out.2.1, HV.out.1])
        rw [← hy, ← HV.out.2] at hcl
        have HQ := Lib.hid (And.intro lp (And.intro hcl hwq))
        clear hy hc3 lp hcl hwq hf a0 b0 g1
        by_cases hyz : y = z
        · have hne : (y != z) = false := by simpa using hyz
          have hj2 := uni_in (S1 := S1) (S2 := S2) (j := j) (by rw [HL.out.2.1]; exact hlt) (by rw [← HV.out.1]; exact HP.out.2.2)
          have HJ := Lib.hid (And.intro hne hj2)
          clear hyz hj2
          go_wp2_with fail
          go_quiet (fail)
          go_wp2_with fail
          refine ⟨⟨j + 1, A, n, c, B, d, by omega, by go_num, by rw [HJ.out.2, ← HN.out], ?_, fun i hi => ?_⟩, by simp [intOf]; omega⟩
          · rw [HJ.out.2]
            exact HQ.out.1.drewN _
          · by_cases h : i < j
            · exact HC.out i h
            · obtain rfl : i = j := by omega
              rw [HQ.out.2.1]; exact HJ.out.1
        · have hne : (y != z) = true := by simpa using hyz
          have he : unionErr S1 Z1 S2 Z2 = 61 := by
            unfold unionErr
            rw [if_pos (union_clash (j := j) (by rw [HL.out.2.1]; exact hlt) (by rw [HQ.out.2.1]; exact hne))]
          have HE := Lib.hid he
          clear hyz he
          go_wp2_with fail
          go_quiet (fail)
          obtain ⟨wr, hwr⟩ : ∃ wr, wr = wq.drewN nq := ⟨_, rfl⟩
          have lp := HQ.out.1.drewN nq
          rw [← hwr] at lp ⊢
          have x0 := lp.rr.cell 0
          have x1 := lp.rr.cell 1
          have x2 := lp.rr.cell 2
          have f0 := lp.rr.frozen 0
          have f1 := lp.rr.frozen 1
          have f2 := lp.rr.frozen 2
          have HZ := Lib.hid lp
          clear lp hwr g2 g3 a1 b1
          go_wp2_with fail
          obtain ⟨wz, hwz⟩ : ∃ wz, wz = (((wr.setCell ⟨w.heap.size + 1 + 1, 0, none⟩ (.slice none 0 0)).setCell ⟨w.heap.size + 1 + 1, 1, none⟩ (.slice none 0 0)).setCell ⟨w.heap.size + 1 + 1, 2, none⟩ (.int .i64 0)) := ⟨_, rfl⟩
          obtain ⟨y0, y1, y2, hbz', htz⟩ := set3 HZ.out.bel HZ.out.rr (by omega) hwz
          rw [← hwz]
          exact bodyPost_ret (v := .tuple #[.agg #[.slice none 0 0, .slice none 0 0, .int .i64 0], .int .i64 61]) (by simp [results, Try.results48, go_sem, y0, y1, y2]) rfl (.inl ⟨by rw [HE.out]; decide, by rw [HE.out], hbz'⟩)
      · have hf := findF_none hin
        have HIN := Lib.hid hin
        clear hin
        go_wp2_with fail
        go_quiet ((go_at_call 75; exact Calls.quiet_of_same ((find_any A1 n1 c1 S1 v _ (HSW.out.drewN _)).mono fun _ _ ⟨h1, h2⟩ => ⟨h1, h2.symm⟩)))
        try rw [hf]
        obtain ⟨wq, hwq⟩ : ∃ wq, wq = wo.drewN nq := ⟨_, rfl⟩
        have lp := LP.out.drewN nq
        have g1 : wq.cell? ⟨bs, os + j, none⟩ = some (.int .i64 v) := by rw [hwq]; exact g1
        have g2 : wq.cell? ⟨bz, oz + j, none⟩ = some (.int .i64 z) := by rw [hwq]; exact g2
        have hbs : bs < wq.heap.size := by rw [hwq]; exact hbs
        have hbz : bz < wq.heap.size := by rw [hwq]; exact hbz
        rw [← hwq] at lp ⊢
        have b0 := lp.rb.cell 0
        have b1 := lp.rb.cell 1
        have u0 := lp.ru.cell 0
        have u1 := lp.ru.cell 1
        have u2 := lp.ru.cell 2
        have hult : w.heap.size + 1 + 1 + 1 < wq.heap.size := lp.ru.lt
        have HLQ := Lib.hid lp
        have HD := Lib.hid (show Sl (Value.int .i64) wq.drew A n (uniL S1 (S2.take j)) ∧ Sl (Value.int .i64) wq.drew B n ((uniL S1 (S2.take j)).map F) from ⟨lp.sA.drewN 1, lp.sB.drewN 1⟩)
        clear lp hwq hf a0 a1
        go_wp2_with fail
--R7
        refine wp_region_lastL (S := fun w' => w'.cell? ⟨w.heap.size + 1 + 1 + 1, 0, none⟩ = some (.slice A n c) ∧ w'.cell? ⟨w.heap.size + 1 + 1 + 1, 1, none⟩ = some (.slice B n d) ∧ w'.cell? ⟨w.heap.size + 1 + 1 + 1, 2, none⟩ = some (.int .i64 0) ∧ w'.cell? ⟨w.heap.size + 1, 0, none⟩ = some (.slice (some ⟨bs, os, none⟩) m2 d1) ∧ w'.cell? ⟨w.heap.size + 1, 1, none⟩ = some (.slice (some ⟨bz, oz, none⟩) m2 d2) ∧ w'.cell? ⟨bs, os + j, none⟩ = some (.int .i64 v) ∧ w'.cell? ⟨bz, oz + j, none⟩ = some (.int .i64 z)) 12 12 (by kernel_rfl) rfl rfl rfl (by kernel_rfl) ?hS1 (fun hHeld => ?rest1)
        case hS1 => (first | assumption | exact ⟨u0, u1, u2, b0, b1, g1, g2⟩ | go_keep)
        refine wpAnyH_takeL (i := 0) (v := ?v2) rfl (by kernel_rfl) (by kernel_rfl) (by kernel_rfl) (fun _ _ _ h => h) (by rfl) ?hy2 (by assumption) ?rest2
        case hy2 => (intro w hSw; (try dsimp only at hSw); go_simp; try with_reducible rfl)
        try simp only [Act.put, List.setIfInBounds_toArray, List.set_cons_zero, List.set_cons_succ]
        refine wpAnyH_takeL (i := 1) (v := ?v3) rfl (by kernel_rfl) (by kernel_rfl) (by kernel_rfl) (fun _ _ _ h => h) (by rfl) ?hy3 (by assumption) ?rest3
        case hy3 => (intro w hSw; (try dsimp only at hSw); go_simp; try with_reducible rfl)
        try simp only [Act.put, List.setIfInBounds_toArray, List.set_cons_zero, List.set_cons_succ]
        refine wpAnyH_takeL (i := 2) (v := ?v4) rfl (by kernel_rfl) (by kernel_rfl) (by kernel_rfl) (fun _ _ _ h => h) (by rfl) ?hy4 (by assumption) ?rest4
        case hy4 => (intro w hSw; (try dsimp only at hSw); go_simp; try with_reducible rfl)
        try simp only [Act.put, List.setIfInBounds_toArray, List.set_cons_zero, List.set_cons_succ]
        refine wpAnyH_takeL (i := 3) (v := ?v5) rfl (by kernel_rfl) (by kernel_rfl) (by kernel_rfl) (fun _ _ _ h => h) (by rfl) ?hy5 (by assumption) ?rest5
        case hy5 => (intro w hSw; (try dsimp only at hSw); go_simp; try with_reducible rfl)
        try simp only [Act.put, List.setIfInBounds_toArray, List.set_cons_zero, List.set_cons_succ]
        refine wpAnyH_takeL (i := 4) (v := ?v6) rfl (by kernel_rfl) (by kernel_rfl) (by kernel_rfl) (fun _ _ _ h => h) (by rfl) ?hy6 (by assumption) ?rest6
        case hy6 => (intro w hSw; (try dsimp only at hSw); go_simp; try with_reducible rfl)
        try simp only [Act.put, List.setIfInBounds_toArray, List.set_cons_zero, List.set_cons_succ]
        refine wpAnyH_takeL (i := 5) (v := ?v7) rfl (by kernel_rfl) (by kernel_rfl) (by kernel_rfl) (fun _ _ _ h => h) (by rfl) ?hy7 (by assumption) ?rest7
        case hy7 => (intro w hSw; (try dsimp only at hSw); go_simp; try with_reducible rfl)
        try simp only [Act.put, List.setIfInBounds_toArray, List.set_cons_zero, List.set_cons_succ]
        refine wpAnyH_takeL (i := 6) (v := ?v8) rfl (by kernel_rfl) (by kernel_rfl) (by kernel_rfl) (fun _ _ _ h => h) (by rfl) ?hy8 (by assumption) ?rest8
        case hy8 => (intro w hSw; (try dsimp only at hSw); go_simp; try with_reducible rfl)
        try simp only [Act.put, List.setIfInBounds_toArray, List.set_cons_zero, List.set_cons_succ]
        refine wpAnyH_takeL (i := 7) (v := ?v9) rfl (by kernel_rfl) (by kernel_rfl) (by kernel_rfl) (fun _ _ _ h => h) (by rfl) ?hy9 (by assumption) ?rest9
        case hy9 => (intro w hSw; (try dsimp only at hSw); go_simp; try with_reducible rfl)
        try simp only [Act.put, List.setIfInBounds_toArray, List.set_cons_zero, List.set_cons_succ]
        refine wpAnyH_takeL (i := 8) (v := ?v10) rfl (by kernel_rfl) (by kernel_rfl) (by kernel_rfl) (fun _ _ _ h => h) (by rfl) ?hy10 (by assumption) ?rest10
        case hy10 => (intro w hSw; (try dsimp only at hSw); go_simp; try with_reducible rfl)
        try simp only [Act.put, List.setIfInBounds_toArray, List.set_cons_zero, List.set_cons_succ]
        refine wpAnyH_takeL (i := 9) (v := ?v11) rfl (by kernel_rfl) (by kernel_rfl) (by kernel_rfl) (fun _ _ _ h => h) (by rfl) ?hy11 (by assumption) ?rest11
        case hy11 => (intro w hSw; (try dsimp only at hSw); go_simp; try with_reducible rfl)
        try simp only [Act.put, List.setIfInBounds_toArray, List.set_cons_zero, List.set_cons_succ]
        refine wpAnyH_takeL (i := 10) (v := ?v12) rfl (by kernel_rfl) (by kernel_rfl) (by kernel_rfl) (fun _ _ _ h => h) (by rfl) ?hy12 (by assumption) ?rest12
        case hy12 => (intro w hSw; (try dsimp only at hSw); go_simp; try with_reducible rfl)
        try simp only [Act.put, List.setIfInBounds_toArray, List.set_cons_zero, List.set_cons_succ]
        refine wpAnyH_ready (rs := [11]) (by kernel_rfl) (by simp) (consL rfl (fun K hK => ?step13))
        (go_simp; (refine (put_any A B n c d 0 v z (uniL S1 (S2.take j)) ((uniL S1 (S2.take j)).map F) _ HD.out.1 HD.out.2 hnb).mono ?_); (rintro e w5 ⟨A', c', B', d', rfl, hoA, hoB, hb5⟩); (have hq5 : Below wq.heap.size wq w5 := (below_refl_drewN _ wq 1).trans hb5); (have u0 := (hq5.cell (p := ⟨w.heap.size + 1 + 1 + 1, 0, none⟩) hult).trans u0); (have u1 := (hq5.cell (p := ⟨w.heap.size + 1 + 1 + 1, 1, none⟩) hult).trans u1); (have u2 := (hq5.cell (p := ⟨w.heap.size + 1 + 1 + 1, 2, none⟩) hult).trans u2); (have b0 := (hq5.cell (p := ⟨w.heap.size + 1, 0, none⟩) (by show w.heap.size + 1 < _; omega)).trans b0); (have b1 := (hq5.cell (p := ⟨w.heap.size + 1, 1, none⟩) (by show w.heap.size + 1 < _; omega)).trans b1); (have g1 := (hq5.cell (p := ⟨bs, os + j, none⟩) hbs).trans g1); (have g2 := (hq5.cell (p := ⟨bz, oz + j, none⟩) hbz).trans g2); (have f0 := (HLQ.out.ru.below' hq5).frozen 0); (have f1 := (HLQ.out.ru.below' hq5).frozen 1); (have f2 := (HLQ.out.ru.below' hq5).frozen 2))
        refine hK.out _ _ ?hS13 (fun hHeld => ?rest13)
        case hS13 => (first | assumption | exact ⟨u0, u1, u2, b0, b1, g1, g2⟩ | go_keep)
        clear hK K
        try simp only [Act.put, List.setIfInBounds_toArray, List.set_cons_zero, List.set_cons_succ]
        refine wpAnyH_done (by kernel_rfl) ?_ _
        unfold AheadOf
        go_simp
--RE
        have hnj : v ∉ uniL S1 (S2.take j) := fun h => by
          rcases mem_uni.1 h with h1 | h1
          · exact HIN.out h1
          · obtain ⟨q, hq, he⟩ := mem_nth h1
            rw [List.length_take] at hq
            rw [nth_take (by omega), HV.out.1] at he
            have hn2 := asc_nodup HL.out.2.2.2.asc
            have hjS : j < S2.length := by rw [HL.out.2.1]; exact hlt
            rw [nth_eq (show q < S2.length by omega), nth_eq hjS] at he
            have := (List.getElem_inj hn2).1 he
            omega
        have hjl : j < S2.length := by rw [HL.out.2.1]; exact hlt
        have hun := uni_new (S1 := S1) hjl (by rw [← HV.out.1]; exact hnj)
        rw [← HV.out.1] at hun
        have hFv : F v = z := by rw [HF.out, HV.out.1, HV.out.2]; exact size_new HL.out.2.2.2 hjl (by rw [← HV.out.1]; exact HIN.out)
        rw [← hFv, map_put, ← hun] at hoB
        rw [← hun] at hoA
        have hnx := HLQ.out.next hq5 hoA hoB (by omega)
        have hnl : n + 1 = (uniL S1 (S2.take (j + 1))).length := by have := hoA.length; omega
        have HR := Lib.hid (And.intro hnx hnl)
        clear hnx hnl hoA hoB hq5 hb5 hun hFv hjl hnj u0 u1 u2 b0 b1 g1 g2 f0 f1 f2
        go_wp2_with fail
        refine ⟨⟨j + 1, A', n + 1, c', B', d', by omega, by go_num, HR.out.2, HR.out.1, fun i hi => ?_⟩, by simp [intOf]; omega⟩
        by_cases h : i < j
        · exact HC.out i h
        · obtain rfl : i = j := by omega
          rw [← HV.out.1]; exact clash_out HIN.out
    · obtain rfl : j = m2 := by omega
      have htk : S2.take j = S2 := List.take_of_length_le (by rw [HL.out.2.1]; exact Nat.le_refl _)
      have hno := union_noclash (S1 := S1) (Z1 := Z1) (Z2 := Z2) (fun i hi => HC.out i (by rw [← HL.out.2.1]; exact hi))
      have hone := uniZ_one HL.out.2.2.1 HL.out.2.2.2
      have huz : (uniL S1 S2).map F = uniZ S1 Z1 S2 Z2 := by rw [HF.out]; rfl
      have lp := LP.out
      rw [htk, huz] at lp
      obtain ⟨U, hU⟩ : ∃ U, U = uniL S1 S2 := ⟨_, rfl⟩
      obtain ⟨UZ, hUZ⟩ : ∃ UZ, UZ = uniZ S1 Z1 S2 Z2 := ⟨_, rfl⟩
      have hnn := HN.out
      rw [htk, ← hU] at hnn
      rw [← hU, ← hUZ] at lp
      rw [← hUZ] at hone
      have HU := Lib.hid (And.intro hU (And.intro hUZ (And.intro hno (And.intro hnn lp))))
      have b0 := lp.rb.cell 0
      have u1 := lp.ru.cell 1
      have hcn := cntC_eq hone
      have HCN := Lib.hid hcn
      have hsp := sufP_pos hone 0
      clear htk hno hone huz hU hUZ hnn lp hcn
      go_wp2_with fail
      refine (rcount_any B n d UZ _ HU.out.2.2.2.2.sB).mono ?_
      rintro e w5 ⟨rfl, rfl⟩
      rw [HCN.out]
      have lp := HU.out.2.2.2.2
      have x0 := lp.rr.cell 0
      have x1 := lp.rr.cell 1
      have x2 := lp.rr.cell 2
      have f0 := lp.rr.frozen 0
      have f1 := lp.rr.frozen 1
      have f2 := lp.rr.frozen 2
      have HZ := Lib.hid lp
      by_cases hbig : 2147483647 < sufP UZ 0
      · rw [if_pos hbig]
        have he : unionErr S1 Z1 S2 Z2 = 4 := by
          unfold unionErr
          rw [HU.out.2.2.1, ← HU.out.2.1, if_pos hbig]; rfl
        have HE := Lib.hid he
        clear he lp b0 u1
        go_wp2_with fail
        obtain ⟨wz, hwz⟩ : ∃ wz, wz = (((wo.setCell ⟨w.heap.size + 1 + 1, 0, none⟩ (.slice none 0 0)).setCell ⟨w.heap.size + 1 + 1, 1, none⟩ (.slice none 0 0)).setCell ⟨w.heap.size + 1 + 1, 2, none⟩ (.int .i64 0)) := ⟨_, rfl⟩
        obtain ⟨y0, y1, y2, hbz', htz⟩ := set3 HZ.out.bel HZ.out.rr (by omega) hwz
        rw [← hwz]
        exact bodyPost_ret (v := .tuple #[.agg #[.slice none 0 0, .slice none 0 0, .int .i64 0], .int .i64 4]) (by simp [results, Try.results48, go_sem, y0, y1, y2]) rfl (.inl ⟨by rw [HE.out]; decide, by rw [HE.out], hbz'⟩)
      · rw [if_neg hbig]
        have he : unionErr S1 Z1 S2 Z2 = 0 := by
          unfold unionErr
          rw [HU.out.2.2.1, ← HU.out.2.1, if_neg hbig]; rfl
        have HE := Lib.hid he
        have u0 := lp.ru.cell 0
        have u2 := lp.ru.cell 2
        have v2 := lp.ru.frozen 2
        obtain ⟨sp, hspe⟩ : ∃ sp, sp = sufP UZ 0 := ⟨_, rfl⟩
        rw [← hspe] at hbig ⊢
        have HSP := Lib.hid hspe
        have T : Turn wo (wo.setCell ⟨w.heap.size + 1 + 1 + 1, 2, none⟩ (.int .i64 sp)) (fun x => x = w.heap.size + 1 + 1 + 1) := (Turn.refl wo (fun x => x = w.heap.size + 1 + 1 + 1)).setCell ⟨w.heap.size + 1 + 1 + 1, 2, none⟩ (fun _ => rfl) _
        have ru := lp.ru.put 2 (.int .i64 sp)
        have rr := lp.rr.turn T (by omega)
        have bl := lp.bel.setCell (p := ⟨w.heap.size + 1 + 1 + 1, 2, none⟩) (by show w.heap.size ≤ w.heap.size + 1 + 1 + 1; omega) (.int .i64 sp)
        have p0 := ru.cell 0
        have p1 := ru.cell 1
        have p2 := ru.cell 2
        have x0 := rr.cell 0
        have x1 := rr.cell 1
        have x2 := rr.cell 2
        have f0 := rr.frozen 0
        have f1 := rr.frozen 1
        have f2 := rr.frozen 2
        have HT := Lib.hid (And.intro T (And.intro rr bl))
        clear he lp b0 u1 hspe T ru rr bl
        go_wp2_with fail
        obtain ⟨wd, hwd⟩ : ∃ wd, wd = wo.setCell ⟨w.heap.size + 1 + 1 + 1, 2, none⟩ (.int .i64 sp) := ⟨_, rfl⟩
        have HT2 := HT.out
        rw [← hwd] at HT2 ⊢
        obtain ⟨wz, hwz⟩ : ∃ wz, wz = (((wd.setCell ⟨w.heap.size + 1 + 1, 0, none⟩ (.slice A n c)).setCell ⟨w.heap.size + 1 + 1, 1, none⟩ (.slice B n d)).setCell ⟨w.heap.size + 1 + 1, 2, none⟩ (.int .i64 sp)) := ⟨_, rfl⟩
        obtain ⟨y0, y1, y2, hbz', htz⟩ := set3 HT2.2.2 HT2.2.1 (by omega) hwz
        rw [← hwz]
        have hnn := HU.out.2.2.2.1
        rw [HU.out.1] at hnn
        have lpf := HU.out.2.2.2.2
        refine bodyPost_ret (v := .tuple #[.agg #[.slice A n c, .slice B n d, .int .i64 sp], .int .i64 0]) (by simp [results, Try.results48, go_sem, y0, y1, y2]) rfl (.inr ⟨HE.out, A, c, B, d, ?_, ?_, ?_, by rw [← hnn]; exact lpf.oA, by rw [← hnn]; exact lpf.oB, hbz'⟩)
        · rw [hnn, HSP.out, HU.out.2.1]
        · rw [← hnn, ← HU.out.1]
          exact (lpf.sA.turnC HT2.1 (fun hn g o e e2 => by have := lpf.nA hn g o e; omega)).turnC htz (fun hn g o e e2 => by have := lpf.nA hn g o e; omega)
        · rw [← hnn, ← HU.out.2.1]
          exact (lpf.sB.turnC HT2.1 (fun hn g o e e2 => by have := lpf.nB hn g o e; omega)).turnC htz (fun hn g o e e2 => by have := lpf.nB hn g o e; omega)
end Go.Proofs.Ytgmchedfgdgenaa
