/- Joined by program out of: Mat, MorFn, FloodLaw, MoralLaw, FloodFn. What each says stands at its own head. -/
import Derived.Test.YtdlnglffimcopaaHuntAll
import Derived.Test.YtdlnglffimcopaaLawS3
import Derived.StillTailTactics
import Derived.Test.YtdlnglffimcopaaEvenLaw
import Derived.Test.YtdlnglffimcopaaAlive
/- A square of yes and no in rows of the call's own: reading, a yes more, a new row. Conditions: lengths within Go's bound. -/
namespace Go.Proofs.Ytdlnglffimcopaa
open Go.RowKit

theorem eiSq : EI Try.prog 50 48 (.slice none 0 0) 24 := .mk' Try.underlying50 (by kernel_rfl) rfl (by omega)
theorem grown_of_below {w w' : World} (h : Below w.heap.size w w') : w.grownBy w' none := ⟨h.os, h.tape, h.output, h.size, fun i hi _ => h.block i hi⟩
open Classical in
/-- a row of yes and no -/
noncomputable def rowJ (n : Nat) (P : Nat → Prop) : List Bool := (List.range n).map fun y => decide (P y)
theorem rowJ_length (n : Nat) (P : Nat → Prop) : (rowJ n P).length = n := by unfold rowJ; simp
open Classical in
theorem nth_rowJ {n : Nat} {P : Nat → Prop} {y : Nat} (h : y < n) : nth (rowJ n P) y = decide (P y) := by
  unfold rowJ
  rw [nth_map _ (by simpa using h), nth_eq (by simpa using h)]
  simp
theorem rowJ_congr {n : Nat} {P Q : Nat → Prop} (h : ∀ y, y < n → (P y ↔ Q y)) : rowJ n P = rowJ n Q := by
  refine nth_ext (by rw [rowJ_length, rowJ_length]) fun j hj => ?_
  rw [rowJ_length] at hj
  rw [nth_rowJ hj, nth_rowJ hj]
  exact decide_eq_decide.2 (h j hj)
theorem rowJ_false (n : Nat) : rowJ n (fun _ => False) = List.replicate n false := by
  refine nth_ext (by rw [rowJ_length, List.length_replicate]) fun j hj => ?_
  rw [rowJ_length] at hj
  rw [nth_rowJ hj, nth_eq (by simpa using hj)]
  simp
theorem rowJ_set {n : Nat} {P : Nat → Prop} {q : Nat} : (rowJ n P).set q true = rowJ n (fun y => P y ∨ y = q) := by
  refine nth_ext (by rw [List.length_set, rowJ_length, rowJ_length]) fun j hj => ?_
  rw [List.length_set, rowJ_length] at hj
  rw [nth_rowJ hj]
  by_cases e : q = j
  · subst e; rw [nth_set_same (by rw [rowJ_length]; exact hj)]; simp
  · rw [nth_set_other e, nth_rowJ hj]
    have e2 : ¬ j = q := fun h => e h.symm
    simp [e2]
open Classical in
theorem rowJ_true {n : Nat} {P : Nat → Prop} {y : Nat} (h : y < n) : nth (rowJ n P) y = true ↔ P y := by
  rw [nth_rowJ h]; exact decide_eq_true_iff

/-- a square of yes and no -/
def Mat (w : World) (g n : Nat) (vs : List (Option Addr × Nat × Nat)) (J : Nat → Nat → Prop) : Prop := Owns eB w g 48 4 n vs (fun x => rowJ n (J x))
section
variable {w w' : World} {g n : Nat} {vs : List (Option Addr × Nat × Nat)} {J J' : Nat → Nat → Prop}
theorem Mat.below (h : Mat w g n vs J) (hb : Below w.heap.size w w') : Mat w' g n vs J := Owns.below h hb
instance : Stable (fun w => Mat w g n vs J) := ⟨fun hb h => h.below hb⟩
theorem Mat.congr (h : Mat w g n vs J) (e : ∀ x y, J x y ↔ J' x y) : Mat w g n vs J' := by
  have : J = J' := funext fun x => funext fun y => propext (e x y)
  rw [← this]; exact h
theorem Mat.lt (h : Mat w g n vs J) : g < w.heap.size := h.row.lt
/-- a row of the square: where it lies and what is there -/
theorem Mat.at (h : Mat w g n vs J) {p : Nat} (hp : p < n) : ∃ b c, nth vs p = (some ⟨b, 0, none⟩, n, c) ∧ g < b ∧ b < w.heap.size ∧ w.cell? ⟨g, p, none⟩ = some (.slice (some ⟨b, 0, none⟩) n c) ∧ (∀ q, q < n → w.cell? ⟨b, q, none⟩ = some (.bool (nth (rowJ n (J p)) q))) ∧ ∀ q, w.frozen? ⟨b, q, none⟩ = false := by
  have ho := h.own p hp
  have hl := ho.length
  rw [rowJ_length] at hl
  have hc := h.cell hp
  obtain ⟨b, rest, e, hb, hr, _⟩ := ho.row (by omega)
  generalize hv : nth vs p = v at *
  obtain ⟨A, m, c⟩ := v
  simp only at hl e hc hr
  subst hl e
  refine ⟨b, c, rfl, by omega, hr.lt, hc, fun q hq => hr.cell (by rw [rowJ_length]; exact hq), fun q => hr.frozen q⟩
/-- a yes more -/
theorem Mat.put (h : Mat w g n vs J) {p q b c : Nat} (hp : p < n) (hq : q < n) (hv : nth vs p = (some ⟨b, 0, none⟩, n, c)) : Mat (w.setCell ⟨b, q, none⟩ (.bool true)) g n vs (fun x y => J x y ∨ (x = p ∧ y = q)) := by
  have hgb : g < b := by
    rcases (h.own p hp).at_row with h1 | ⟨g', h1, h2, _⟩
    · rw [hv] at h1; cases h1
    · rw [hv] at h1; injection h1 with h1; injection h1 with h1; omega
  refine ⟨h.row.far (by show g ≠ b; omega) _, h.len, fun x hx => ?_, h.far⟩
  by_cases e : x = p
  · subst e
    have ho := h.own x hx
    rw [hv] at ho ⊢
    have := OwnR.put (show OwnR eB w (g + 1) 4 (some ⟨b, 0, none⟩) n c (rowJ n (J x)) from ho) hq true
    rw [rowJ_set] at this
    rw [show rowJ n (fun y => J x y ∨ x = x ∧ y = q) = rowJ n (fun y => J x y ∨ y = q) from rowJ_congr fun y _ => by simp]
    exact this
  · have := (h.own x hx).setFar (p := ⟨b, q, none⟩) (fun g' e' => fun e2 => h.far x p hx hp e b (by rw [e']; rw [show g' = b from e2]) (by rw [hv])) (.bool true)
    rw [show rowJ n (fun y => J x y ∨ x = p ∧ y = q) = rowJ n (J x) from rowJ_congr fun y _ => by simp [e]]
    exact this
end
/-- rows made so far -/
def Half (w : World) (g n i : Nat) (vs : List (Option Addr × Nat × Nat)) : Prop := Owns eB w g 48 4 n vs (fun x => if x < i then List.replicate n false else [])
theorem Half.start {w : World} {g n : Nat} (h : RowAt eS w g 48 (List.replicate n (none, 0, 0)) []) : Half w g n 0 (List.replicate n (none, 0, 0)) := by
  have := Owns.start (enc := eB) (e := 4) h
  unfold Half
  simpa using this
theorem Half.cell {w : World} {g n i : Nat} {vs : List (Option Addr × Nat × Nat)} (h : Half w g n i vs) (hi : i < n) : w.cell? ⟨g, i, none⟩ = some (.slice (nth vs i).1 (nth vs i).2.1 (nth vs i).2.2) := Owns.cell h hi
theorem Half.next {w w' : World} {g n i : Nat} {vs : List (Option Addr × Nat × Nat)} (h : Half w g n i vs) (hi : i < n) (hn : n ≤ maxLen) (hr : RowAt eB w' w.heap.size 4 (List.replicate n false) []) (hb : Below w.heap.size w w') :
    Half (w'.setCell ⟨g, i, none⟩ (.slice (some ⟨w.heap.size, 0, none⟩) n n)) g n (i + 1) (vs.set i (some ⟨w.heap.size, 0, none⟩, n, n)) := by
  have ho := OwnR.of_row' hr (Nat.succ_le_of_lt h.row.lt) (cap := n) (by simp) hn (k := n) (by simp)
  have hg : w.grownBy w' none := grown_of_below hb
  have hgb : w.grownBy w' (Value.slice (nth vs i).1 (nth vs i).2.1 (nth vs i).2.2).ownBlock := hg.but _
  have := Owns.append h hi ho hgb (.inr ⟨w.heap.size, rfl, Nat.le_refl _⟩)
  unfold Half
  rw [show (fun x => if x < i + 1 then List.replicate n false else []) = (fun x => if x = i then List.replicate n false else if x < i then List.replicate n false else []) from funext fun x => by
    by_cases e : x = i
    · subst e; simp
    · rw [if_neg e]
      by_cases e2 : x < i
      · rw [if_pos e2, if_pos (by omega)]
      · rw [if_neg e2, if_neg (by omega)]]
  exact this
theorem Half.full {w : World} {g n : Nat} {vs : List (Option Addr × Nat × Nat)} (h : Half w g n n vs) : Mat w g n vs (fun _ _ => False) := by
  refine ⟨h.row, h.len, fun p hp => ?_, h.far⟩
  have := h.own p hp
  rw [if_pos hp] at this
  show OwnR eB w (g + 1) _ _ _ _ (rowJ n (fun _ => False))
  rw [rowJ_false]
  exact this
end Go.Proofs.Ytdlnglffimcopaa
/- credencelaw16.moral, walked: the moral graph of the points above some. Conditions: parents and points that are there, few. -/
namespace Go.Proofs.Ytdlnglffimcopaa
open Go.RowKit

/-- joined by way of c -/
def EdgeC (G : List (List Nat)) (c x y : Nat) : Prop := (x = c ∧ y ∈ nth G c) ∨ (y = c ∧ x ∈ nth G c) ∨ (x ∈ nth G c ∧ y ∈ nth G c)
/-- joined by way of c and its parent p -/
def EdgeP (G : List (List Nat)) (c p x y : Nat) : Prop := (x = c ∧ y = p) ∨ (x = p ∧ y = c) ∨ (x = p ∧ y ∈ nth G c)
/-- joined by way of one of the first i points -/
def EdgeI (G : List (List Nat)) (ab : List Nat) (i x y : Nat) : Prop := ∃ t, t < i ∧ EdgeC G (nth ab t) x y
def EdgeJ (G : List (List Nat)) (ab : List Nat) (i j x y : Nat) : Prop := EdgeI G ab i x y ∨ ∃ s, s < j ∧ EdgeP G (nth ab i) (nth (nth G (nth ab i)) s) x y
def EdgeK (G : List (List Nat)) (ab : List Nat) (i j k x y : Nat) : Prop := EdgeJ G ab i j x y ∨ (x = nth ab i ∧ y = nth (nth G (nth ab i)) j) ∨ (x = nth (nth G (nth ab i)) j ∧ y = nth ab i) ∨ (x = nth (nth G (nth ab i)) j ∧ ∃ r, r < k ∧ y = nth (nth G (nth ab i)) r)
section
variable {G : List (List Nat)} {ab : List Nat} {i j k x y : Nat}
theorem edgeI_zero : EdgeI G ab 0 x y ↔ False := ⟨fun ⟨t, h, _⟩ => by omega, False.elim⟩
theorem edgeJ_zero : EdgeJ G ab i 0 x y ↔ EdgeI G ab i x y := ⟨fun h => h.elim id fun ⟨s, h, _⟩ => by omega, .inl⟩
theorem edgeJ_full : EdgeJ G ab i (nth G (nth ab i)).length x y ↔ EdgeI G ab (i + 1) x y := by
  constructor
  · rintro (⟨t, h, e⟩ | ⟨s, h, e⟩)
    · exact ⟨t, by omega, e⟩
    · refine ⟨i, by omega, ?_⟩
      have hm := nth_mem h
      rcases e with ⟨rfl, rfl⟩ | ⟨rfl, rfl⟩ | ⟨rfl, h2⟩
      · exact .inl ⟨rfl, hm⟩
      · exact .inr (.inl ⟨rfl, hm⟩)
      · exact .inr (.inr ⟨hm, h2⟩)
  · rintro ⟨t, h, e⟩
    rcases Nat.lt_or_ge t i with h1 | h1
    · exact .inl ⟨t, h1, e⟩
    · obtain rfl : t = i := by omega
      right
      rcases e with ⟨rfl, h2⟩ | ⟨rfl, h2⟩ | ⟨h2, h3⟩
      · obtain ⟨s, hs, e⟩ := mem_nth h2
        exact ⟨s, hs, .inl ⟨rfl, e.symm⟩⟩
      · obtain ⟨s, hs, e⟩ := mem_nth h2
        exact ⟨s, hs, .inr (.inl ⟨e.symm, rfl⟩)⟩
      · obtain ⟨s, hs, e⟩ := mem_nth h2
        exact ⟨s, hs, .inr (.inr ⟨e.symm, h3⟩)⟩
theorem edgeK_zero : ((EdgeJ G ab i j x y ∨ (x = nth ab i ∧ y = nth (nth G (nth ab i)) j)) ∨ (x = nth (nth G (nth ab i)) j ∧ y = nth ab i)) ↔ EdgeK G ab i j 0 x y := by
  unfold EdgeK
  constructor
  · rintro ((h | h) | h)
    · exact .inl h
    · exact .inr (.inl h)
    · exact .inr (.inr (.inl h))
  · rintro (h | h | h | ⟨_, r, h, _⟩)
    · exact .inl (.inl h)
    · exact .inl (.inr h)
    · exact .inr h
    · omega
theorem edgeK_succ : (EdgeK G ab i j k x y ∨ (x = nth (nth G (nth ab i)) j ∧ y = nth (nth G (nth ab i)) k)) ↔ EdgeK G ab i j (k + 1) x y := by
  unfold EdgeK
  constructor
  · rintro ((h | h | h | ⟨h, r, h2, h3⟩) | ⟨h, h2⟩)
    · exact .inl h
    · exact .inr (.inl h)
    · exact .inr (.inr (.inl h))
    · exact .inr (.inr (.inr ⟨h, r, by omega, h3⟩))
    · exact .inr (.inr (.inr ⟨h, k, by omega, h2⟩))
  · rintro (h | h | h | ⟨h, r, h2, h3⟩)
    · exact .inl (.inl h)
    · exact .inl (.inr (.inl h))
    · exact .inl (.inr (.inr (.inl h)))
    · rcases Nat.lt_or_ge r k with h4 | h4
      · exact .inl (.inr (.inr (.inr ⟨h, r, h4, h3⟩)))
      · obtain rfl : r = k := by omega
        exact .inr ⟨h, h3⟩
theorem edgeK_full : EdgeK G ab i j (nth G (nth ab i)).length x y ↔ EdgeJ G ab i (j + 1) x y := by
  unfold EdgeK EdgeJ
  constructor
  · rintro ((h | ⟨s, h, e⟩) | h | h | ⟨h, r, h2, h3⟩)
    · exact .inl h
    · exact .inr ⟨s, by omega, e⟩
    · exact .inr ⟨j, by omega, .inl h⟩
    · exact .inr ⟨j, by omega, .inr (.inl h)⟩
    · exact .inr ⟨j, by omega, .inr (.inr ⟨h, by rw [h3]; exact nth_mem h2⟩)⟩
  · rintro (h | ⟨s, h, e⟩)
    · exact .inl (.inl h)
    · rcases Nat.lt_or_ge s j with h1 | h1
      · exact .inl (.inr ⟨s, h1, e⟩)
      · obtain rfl : s = j := by omega
        rcases e with h2 | h2 | ⟨h2, h3⟩
        · exact .inr (.inl h2)
        · exact .inr (.inr (.inl h2))
        · obtain ⟨r, hr, e⟩ := mem_nth h3
          exact .inr (.inr (.inr ⟨h2, r, hr, e.symm⟩))
end
def MoralPost (n : Nat) (G : List (List Nat)) (ab : List Nat) (w : World) (e : Ending) (w' : World) : Prop :=
  ∃ vs, e = .returned (.slice (some ⟨w.heap.size, 0, none⟩) n n) ∧ Mat w' w.heap.size n vs (EdgeI G ab ab.length) ∧ Below w.heap.size w w'
set_option maxRecDepth 100000 in
set_option maxHeartbeats 1600000 in
theorem moral_any (A U : Option Addr) (n c k d : Nat) (G : List (List Nat)) (ab : List Nat) (w : World) (h : Rows eN w A n G) (hg : GoodG G) (hu : Sl eN w U k ab) (hab : ∀ x, x ∈ ab → x < n) (hn : n ≤ 1000) :
    Calls Try.prog 41 #[.slice A n c, .slice U k d] w (MoralPost n G ab w) := by
  have hbig := hu.big
  obtain ⟨wa, hwa⟩ : ∃ wa : World, wa = w := ⟨_, rfl⟩
  subst hwa
  have HI := Lib.hid (And.intro h.len (And.intro hg (And.intro hu.len hab)))
  clear hg hab
  go_enter Try.func41, Try.ntmps41
  go_wp2_with (first
    | (with_reducible refine wpList_mk _ eiSq eS (none, 0, 0) rfl rfl _ _ rfl n rfl rfl (by omega) ?_)
    | fail)
  intro w1 hrow1 hb1
  have HO := Lib.hid (And.intro (Half.start hrow1) hb1)
  clear hb1 hrow1
  generalize hp : wa.heap.size = p
  go_wp2_with fail
  go_loopw [7] (fun i wr => ∃ (t : Nat) (vs : List (Option Addr × Nat × Nat)), i = .int .i64 (t : Nat) ∧ t ≤ n ∧ Half wr p n t vs ∧ Below p wa wr) (fun i _ => n - (intOf i).toNat)
  case atStart => exact ⟨0, _, rfl, Nat.zero_le _, by rw [← hp]; exact HO.out.1, by rw [← hp]; exact HO.out.2⟩
  case round =>
    obtain ⟨t, vs, rfl, ht, hH, hbl⟩ := hrel
    obtain ⟨wb, hwb⟩ : ∃ wb : World, wb = wr := ⟨_, rfl⟩
    subst hwb
    by_cases hlt : t < n
    · have hi1 : (t : Int) < (n : Nat) := by omega
      have HH := Lib.hid (And.intro hH hbl)
      have hpl := hH.row.lt
      clear hH hbl
      go_wp2_with (first
        | (with_reducible refine wpList_mk _ eiBool eB false rfl rfl _ _ rfl n rfl rfl (by omega) ?_)
        | fail)
      intro w2 hrow2 hb2
      have hnext := HH.out.1.next hlt (by unfold maxLen; omega) hrow2 hb2
      have g2 := cell_later hb2 (HH.out.1.cell hlt)
      have f2 : w2.frozen? ⟨p, t, none⟩ = false := (HH.out.1.row.below hb2 hpl).frozen t
      have hbw := (HH.out.2.trans (hb2.mono (Nat.le_of_lt hpl))).setCell (p := ⟨p, t, none⟩) (Nat.le_refl p) (.slice (some ⟨wb.heap.size, 0, none⟩) n n)
      have HN := Lib.hid (And.intro hnext hbw)
      clear hnext hbw hrow2 hb2
      go_wp2_with fail
      exact ⟨⟨t + 1, _, by go_num, by omega, HN.out.1, HN.out.2⟩, by simp [intOf]; omega⟩
    · obtain rfl : n = t := by omega
      have hM := hH.full.congr (J' := EdgeI G ab 0) (fun x y => edgeI_zero.symm)
      have HM := Lib.hid (And.intro hM hbl)
      clear hH hbl hM HO
      go_wp2_with fail
      go_loopw [8] (fun i wr => ∃ t : Nat, i = .int .i64 (t : Nat) ∧ t ≤ k ∧ Mat wr p n vs (EdgeI G ab t) ∧ Below p wa wr) (fun i _ => k - (intOf i).toNat)
      case atStart => exact ⟨0, rfl, Nat.zero_le _, HM.out.1, HM.out.2⟩
      case round => as_aux_lemma =>
        obtain ⟨t, rfl, ht, hH, hbl⟩ := hrel
        obtain ⟨wb, hwb⟩ : ∃ wb : World, wb = wr := ⟨_, rfl⟩
        subst hwb
        by_cases hlt : t < k
        · obtain ⟨bu, ou, rfl, hbu, hcu⟩ := (hu.below (Nat.le_of_eq hp) hbl).at' (by omega)
          have gu := hcu t hlt
          have htl : t < ab.length := by rw [HI.out.2.2.1]; exact hlt
          have hcn := HI.out.2.2.2 _ (nth_mem htl)
          have HH := Lib.hid (And.intro hH hbl)
          have hin1 : (t : Int) < (k : Nat) := by omega
          obtain ⟨cc, hcc⟩ : ∃ cc, cc = nth ab t := ⟨_, rfl⟩
          rw [← hcc] at gu hcn
          have HC := Lib.hid hcc
          obtain ⟨ba, oa, B, m, dm, rfl, hba, ga, hrow⟩ := h.row hcn
          have hm := hrow.len
          have hmb := hrow.big
          have HR := Lib.hid (And.intro hrow (And.intro ga hm))
          clear hcu htl hcc hH hbl hrow ga hm
          go_wp2_with fail
          go_loopw [10] (fun i wr => ∃ j : Nat, i = .int .i64 (j : Nat) ∧ j ≤ m ∧ Mat wr p n vs (EdgeJ G ab t j) ∧ Below p wa wr) (fun i _ => m - (intOf i).toNat)
          case atStart => exact ⟨0, rfl, Nat.zero_le _, HH.out.1.congr fun x y => edgeJ_zero.symm, HH.out.2⟩
          case round => as_aux_lemma =>
            obtain ⟨j, rfl, hj, hH, hbl⟩ := hrel
            obtain ⟨wc, hwc⟩ : ∃ wc : World, wc = wr := ⟨_, rfl⟩
            subst hwc
            have g1 := ((keeps hbl).1 ba (oa + cc) (by omega)).trans HR.out.2.1
            by_cases hjm : j < m
            · have hin2 : (j : Int) < (m : Nat) := by omega
              obtain ⟨bq, oq, rfl, hbq, hcq⟩ := (HR.out.1.below (Nat.le_of_eq hp) hbl).at' (by omega)
              have g2 := hcq j hjm
              have hjl : j < (nth G cc).length := by rw [HR.out.2.2]; exact hjm
              have hpn := HI.out.2.1 cc (by rw [HI.out.1]; exact hcn) _ (nth_mem hjl)
              rw [HI.out.1] at hpn
              obtain ⟨pp, hpp⟩ : ∃ pp, pp = nth (nth G cc) j := ⟨_, rfl⟩
              rw [← hpp] at g2 hpn
              have HP := Lib.hid hpp
              obtain ⟨b3, c3, hv3, hgb3, hlt3, m3, q3, f3⟩ := hH.at hcn
              have q3' := q3 pp hpn
              have f3' := f3 pp
              have hM1 := hH.put hcn hpn hv3
              have hbl1 := hbl.setCell (p := ⟨b3, pp, none⟩) (Nat.le_of_lt hgb3) (.bool true)
              have HM1 := Lib.hid (And.intro hM1 hbl1)
              clear hcq hjl hpp hH hbl q3 f3 hM1 hbl1 hv3
              go_upto_region 16 with fail
              clear q3' f3' m3 g1 g2
              generalize wc.setCell ⟨b3, pp, none⟩ (.bool true) = w4 at *
              obtain ⟨b4, c4, hv4, hgb4, hlt4, m4, q4, f4⟩ := HM1.out.1.at hpn
              have q4' := q4 cc hcn
              have f4' := f4 cc
              have hM2 := HM1.out.1.put hpn hcn hv4
              have hbl2 := HM1.out.2.setCell (p := ⟨b4, cc, none⟩) (Nat.le_of_lt hgb4) (.bool true)
              have HM2 := Lib.hid (And.intro (hM2.congr (J' := EdgeK G ab t j 0) fun x y => by rw [HP.out, HC.out]; exact edgeK_zero) hbl2)
              clear q4 f4 hM2 hbl2 hv4 HM1
              go_upto_region 17 with fail
              clear q4' f4' m4
              generalize w4.setCell ⟨b4, cc, none⟩ (.bool true) = w5 at *
              go_wp2_with fail
              go_loopw [12] (fun i wr => ∃ r : Nat, i = .int .i64 (r : Nat) ∧ r ≤ m ∧ Mat wr p n vs (EdgeK G ab t j r) ∧ Below p wa wr) (fun i _ => m - (intOf i).toNat)
              case atStart => exact ⟨0, rfl, Nat.zero_le _, HM2.out.1, HM2.out.2⟩
              case round => as_aux_lemma =>
                obtain ⟨r, rfl, hr, hH, hbl⟩ := hrel
                obtain ⟨wd, hwd⟩ : ∃ wd : World, wd = wr := ⟨_, rfl⟩
                subst hwd
                have g1 := ((keeps hbl).1 ba (oa + cc) (by omega)).trans HR.out.2.1
                by_cases hrm : r < m
                · have hin3 : (r : Int) < (m : Nat) := by omega
                  obtain ⟨bs, os, e, hbs, hcs⟩ := (HR.out.1.below (Nat.le_of_eq hp) hbl).at' (by omega)
                  injection e with e
                  injection e with e1 e2 _
                  subst e1 e2
                  have g2 := hcs r hrm
                  have hrl : r < (nth G cc).length := by rw [HR.out.2.2]; exact hrm
                  have hqn := HI.out.2.1 cc (by rw [HI.out.1]; exact hcn) _ (nth_mem hrl)
                  rw [HI.out.1] at hqn
                  obtain ⟨qq, hqq⟩ : ∃ qq, qq = nth (nth G cc) r := ⟨_, rfl⟩
                  rw [← hqq] at g2 hqn
                  replace g2 : wd.cell? ⟨bq, oq + r, none⟩ = some (.int .i64 (qq : Int)) := g2
                  have hq1 : (qq : Int) < (n : Nat) := by omega
                  have HQ := Lib.hid hqq
                  obtain ⟨b5, c5, hv5, hgb5, hlt5, m5, q5, f5⟩ := hH.at hpn
                  have hHd : Mat wd.drew p n vs (EdgeK G ab t j r) := hH.below (below_refl_drewN _ wd 1)
                  have hbd : Below p wa wd.drew := hbl.trans ((below_refl_drewN _ wd 1).mono (Nat.le_of_lt hH.lt))
                  have HD := Lib.hid (And.intro hHd hbd)
                  clear hcs hrl hqq hH hbl q5 f5 hHd hbd
                  go_upto_region 20 with fail
                  go_still_tail 12, (by kernel_rfl)
                  change wpList _ _ _ _ _ wd.drew
                  clear g1 g2 m5 hlt5 hbs
                  generalize wd.drew = w6 at *
                  obtain ⟨b6, c6, hv6, hgb6, hlt6, m6, q6, f6⟩ := HD.out.1.at hpn
                  rw [hv5] at hv6
                  injection hv6 with e1 e2
                  injection e1 with e1
                  injection e1 with e1 _ _
                  subst e1
                  have q6' := q6 qq hqn
                  have f6' := f6 qq
                  have hM3 := HD.out.1.put hpn hqn hv5
                  have hbl3 := HD.out.2.setCell (p := ⟨b5, qq, none⟩) (Nat.le_of_lt hgb5) (.bool true)
                  have HM3 := Lib.hid (And.intro (hM3.congr (J' := EdgeK G ab t j (r + 1)) fun x y => by rw [HP.out, HQ.out, HC.out]; exact edgeK_succ) hbl3)
                  clear q6 f6 hM3 hbl3 hv5 e2 m6
                  go_wp2_with fail
                  exact ⟨⟨r + 1, by go_num, by omega, HM3.out.1, HM3.out.2⟩, by simp [intOf]; omega⟩
                · obtain rfl : m = r := by omega
                  have HF := Lib.hid (And.intro (hH.congr (J' := EdgeJ G ab t (j + 1)) fun x y => by rw [← edgeK_full, ← HC.out, HR.out.2.2]) hbl)
                  clear hH hbl
                  go_wp2_with fail
                  exact ⟨⟨j + 1, by go_num, by omega, HF.out.1, HF.out.2⟩, by simp [intOf]; omega⟩
            · obtain rfl : m = j := by omega
              have HF := Lib.hid (And.intro (hH.congr (J' := EdgeI G ab (t + 1)) fun x y => by rw [← edgeJ_full, ← HC.out, HR.out.2.2]) hbl)
              clear hH hbl
              go_wp2_with fail
              exact ⟨⟨t + 1, by go_num, by omega, HF.out.1, HF.out.2⟩, by simp [intOf]; omega⟩
        · obtain rfl : k = t := by omega
          have HF := Lib.hid (And.intro (hH.congr (J' := EdgeI G ab ab.length) fun x y => by rw [HI.out.2.2.1]) hbl)
          clear hH hbl
          go_wp2_with fail
          go_ret
          subst hp
          exact ⟨vs, rfl, HF.out.1, HF.out.2⟩
end Go.Proofs.Ytdlnglffimcopaa
/- Plain law: a flood through a square of yes and no, step by step. Condition: the starting points are there. -/
namespace Go.Proofs.Ytdlnglffimcopaa

/-- come to from some points by way of points that are not given -/
inductive Fld (J : Nat → Nat → Prop) (n : Nat) (Z : List Int) (fr : List Nat) : Nat → Prop
  | base {a : Nat} : a ∈ fr → zB Z a = false → Fld J n Z fr a
  | step {p q : Nat} : Fld J n Z fr p → J p q → q < n → zB Z q = false → Fld J n Z fr q
/-- how many are not seen yet -/
def left (L : List Bool) : Nat := L.countP (fun b => b == false)
theorem left_set : ∀ {L : List Bool} {q : Nat}, q < L.length → nth L q = false → left (L.set q true) + 1 = left L
  | [], q, h, _ => by simp at h
  | b :: L, 0, _, h => by
    have : b = false := h
    subst this
    unfold left
    simp
  | b :: L, q + 1, h, h0 => by
    have h1 : nth L q = false := by
      have : nth (b :: L) (q + 1) = nth L q := by simp [nth]
      rw [← this]; exact h0
    have := left_set (L := L) (q := q) (by simpa using h) h1
    unfold left at this ⊢
    rw [List.set_cons_succ, List.countP_cons, List.countP_cons]
    omega
theorem left_le (L : List Bool) : left L ≤ L.length := List.countP_le_length
/-- what holds at all times -/
structure FlA (J : Nat → Nat → Prop) (n : Nat) (Z : List Int) (fr : List Nat) (L : List Bool) (T : List Nat) : Prop where
  len : L.length = n
  snd : ∀ q, q < n → nth L q = true → Fld J n Z fr q
  todo : ∀ t, t ∈ T → t < n ∧ nth L t = true
  fits : T.length + left L ≤ n
/-- while the starting points are laid down -/
structure Fl1 (J : Nat → Nat → Prop) (n : Nat) (Z : List Int) (fr : List Nat) (s : Nat) (L : List Bool) (T : List Nat) : Prop where
  a : FlA J n Z fr L T
  fst : ∀ i, i < s → zB Z (nth fr i) = false → nth L (nth fr i) = true
  all : ∀ p, p < n → nth L p = true → p ∈ T
/-- while there is still something to do -/
structure Fl2 (J : Nat → Nat → Prop) (n : Nat) (Z : List Int) (fr : List Nat) (L : List Bool) (T : List Nat) : Prop where
  a : FlA J n Z fr L T
  fst : ∀ x, x ∈ fr → zB Z x = false → nth L x = true
  shut : ∀ p, p < n → nth L p = true → p ∉ T → ∀ q, q < n → J p q → zB Z q = false → nth L q = true
/-- while one point's neighbours are gone over -/
structure Fl3 (J : Nat → Nat → Prop) (n : Nat) (Z : List Int) (fr : List Nat) (x k : Nat) (L : List Bool) (T : List Nat) : Prop where
  a : FlA J n Z fr L T
  fst : ∀ x, x ∈ fr → zB Z x = false → nth L x = true
  has : nth L x = true
  shut : ∀ p, p < n → nth L p = true → p ∉ T → p ≠ x → ∀ q, q < n → J p q → zB Z q = false → nth L q = true
  part : ∀ q, q < k → J x q → zB Z q = false → nth L q = true
section
variable {J : Nat → Nat → Prop} {n : Nat} {Z : List Int} {fr : List Nat} {L : List Bool} {T : List Nat} {s x k q : Nat}
theorem nth_seen (hl : q < L.length) (p : Nat) : nth (L.set q true) p = true ↔ nth L p = true ∨ p = q := by
  by_cases e : q = p
  · subst e; rw [nth_set_same hl]; simp
  · rw [nth_set_other e]
    constructor
    · exact .inl
    · rintro (h | h)
      · exact h
      · exact absurd h.symm e
theorem FlA.see (h : FlA J n Z fr L T) (hq : q < n) (h0 : nth L q = false) (hr : Fld J n Z fr q) : FlA J n Z fr (L.set q true) (T ++ [q]) := by
  have hl : q < L.length := by rw [h.len]; exact hq
  refine ⟨by simp [h.len], fun p hp hs => ?_, fun t ht => ?_, ?_⟩
  · rcases (nth_seen hl p).1 hs with h1 | h1
    · exact h.snd p hp h1
    · subst h1; exact hr
  · rw [nth_seen hl]
    rcases List.mem_append.1 ht with h1 | h1
    · exact ⟨(h.todo t h1).1, .inl (h.todo t h1).2⟩
    · rw [List.mem_singleton] at h1; subst h1; exact ⟨hq, .inr rfl⟩
  · have := left_set hl h0
    have := h.fits
    simp only [List.length_append, List.length_singleton]
    omega
theorem Fl1.start (J : Nat → Nat → Prop) (n : Nat) (Z : List Int) (fr : List Nat) : Fl1 J n Z fr 0 (List.replicate n false) [] := by
  have h0 : ∀ p, p < n → nth (List.replicate n false) p = false := fun p hp => by rw [nth_eq (by simpa using hp)]; simp
  refine ⟨⟨by simp, fun q hq h => ?_, fun t ht => (by cases ht), ?_⟩, fun i hi => by omega, fun p hp h => ?_⟩
  · rw [h0 q hq] at h; cases h
  · have := left_le (List.replicate n false); simp at this ⊢; exact this
  · rw [h0 p hp] at h; cases h
theorem Fl1.skip (h : Fl1 J n Z fr s L T) (hs : zB Z (nth fr s) = true ∨ nth L (nth fr s) = true) : Fl1 J n Z fr (s + 1) L T :=
  ⟨h.a, fun i hi hz => by
    rcases Nat.lt_or_ge i s with h1 | h1
    · exact h.fst i h1 hz
    · obtain rfl : i = s := by omega
      rcases hs with h2 | h2
      · rw [h2] at hz; cases hz
      · exact h2, h.all⟩
theorem Fl1.see (h : Fl1 J n Z fr s L T) (hs : s < fr.length) (hq : nth fr s < n) (hz : zB Z (nth fr s) = false) (h0 : nth L (nth fr s) = false) : Fl1 J n Z fr (s + 1) (L.set (nth fr s) true) (T ++ [nth fr s]) := by
  have hl : nth fr s < L.length := by rw [h.a.len]; exact hq
  refine ⟨h.a.see hq h0 (.base (nth_mem hs) hz), fun i hi hz => ?_, fun p hp hs => ?_⟩
  · rw [nth_seen hl]
    rcases Nat.lt_or_ge i s with h1 | h1
    · exact .inl (h.fst i h1 hz)
    · obtain rfl : i = s := by omega
      exact .inr rfl
  · rw [List.mem_append, List.mem_singleton]
    exact ((nth_seen hl p).1 hs).imp (h.all p hp) id
theorem Fl1.done (h : Fl1 J n Z fr fr.length L T) : Fl2 J n Z fr L T :=
  ⟨h.a, fun x hx hz => by
    obtain ⟨i, hi, rfl⟩ := mem_nth hx
    exact h.fst i hi hz, fun p hp hs hn => absurd (h.all p hp hs) hn⟩
theorem Fl2.pop {x : Nat} {T : List Nat} (h : Fl2 J n Z fr L (x :: T)) : Fl3 J n Z fr x 0 L T ∧ x < n :=
  ⟨⟨⟨h.a.len, h.a.snd, fun t ht => h.a.todo t (List.mem_cons_of_mem _ ht), by have := h.a.fits; simp at this; omega⟩, h.fst, (h.a.todo x (List.mem_cons_self ..)).2,
    fun p hp hs hn hne => h.shut p hp hs fun hm => by
      rcases List.mem_cons.1 hm with h1 | h1
      · exact hne h1
      · exact hn h1, fun q hq => by omega⟩, (h.a.todo x (List.mem_cons_self ..)).1⟩
theorem Fl3.skip (h : Fl3 J n Z fr x k L T) (hs : ¬ J x k ∨ zB Z k = true ∨ nth L k = true) : Fl3 J n Z fr x (k + 1) L T :=
  ⟨h.a, h.fst, h.has, h.shut, fun q hq hj hz => by
    rcases Nat.lt_or_ge q k with h1 | h1
    · exact h.part q h1 hj hz
    · obtain rfl : q = k := by omega
      rcases hs with h2 | h2 | h2
      · exact absurd hj h2
      · rw [h2] at hz; cases hz
      · exact h2⟩
theorem Fl3.see (h : Fl3 J n Z fr x k L T) (hx : x < n) (hk : k < n) (hj : J x k) (hz : zB Z k = false) (h0 : nth L k = false) : Fl3 J n Z fr x (k + 1) (L.set k true) (T ++ [k]) := by
  have hl : k < L.length := by rw [h.a.len]; exact hk
  refine ⟨h.a.see hk h0 (.step (h.a.snd x hx h.has) hj hk hz), fun y hy hz => (nth_seen hl y).2 (.inl (h.fst y hy hz)), (nth_seen hl x).2 (.inl h.has), fun p hp hs hn hne q hq hj hz => ?_, fun q hq hj hz => ?_⟩
  · rw [nth_seen hl]
    rw [List.mem_append, List.mem_singleton, not_or] at hn
    rcases (nth_seen hl p).1 hs with h1 | h1
    · exact .inl (h.shut p hp h1 hn.1 hne q hq hj hz)
    · exact absurd h1 hn.2
  · rw [nth_seen hl]
    rcases Nat.lt_or_ge q k with h1 | h1
    · exact .inl (h.part q h1 hj hz)
    · exact .inr (by omega)
theorem Fl3.done (h : Fl3 J n Z fr x n L T) : Fl2 J n Z fr L T :=
  ⟨h.a, h.fst, fun p hp hs hn q hq hj hz => by
    by_cases e : p = x
    · subst e; exact h.part q hq hj hz
    · exact h.shut p hp hs hn e q hq hj hz⟩
theorem Fl2.done (h : Fl2 J n Z fr L []) (hfr : ∀ y, y ∈ fr → y < n) : L = rowJ n (Fld J n Z fr) := by
  have key : ∀ q, Fld J n Z fr q → q < n ∧ nth L q = true := by
    intro q hq
    induction hq with
    | base ha hz => exact ⟨hfr _ ha, h.fst _ ha hz⟩
    | step _ hj hq hz ih => exact ⟨hq, h.shut _ ih.1 ih.2 (by simp) _ hq hj hz⟩
  refine nth_ext (by rw [h.a.len, rowJ_length]) fun q hq => ?_
  rw [h.a.len] at hq
  rw [Bool.eq_iff_iff, rowJ_true hq]
  exact ⟨h.a.snd q hq, fun hf => (key q hf).2⟩
end
end Go.Proofs.Ytdlnglffimcopaa
/- Plain law: what a flood through the moral graph comes to is what is not apart. Condition: parents that may be, points that are there. -/
namespace Go.Proofs.Ytdlnglffimcopaa

theorem edgeI_all {G : List (List Nat)} {ab : List Nat} {x y : Nat} : EdgeI G ab ab.length x y ↔ ∃ c, c ∈ ab ∧ EdgeC G c x y := by
  constructor
  · rintro ⟨t, h, e⟩; exact ⟨_, nth_mem h, e⟩
  · rintro ⟨c, hc, e⟩; obtain ⟨t, ht, rfl⟩ := mem_nth hc; exact ⟨t, ht, e⟩
theorem fl_mor {G : List (List Nat)} {ab fr : List Nat} {Z : List Int} {In : Nat → Prop} {n : Nat} (hin : ∀ x, x ∈ ab ↔ In x) (hup : ∀ x p, In x → p ∈ nth G x → In p) (hlt : ∀ x, In x → x < n) (hfr : ∀ x, x ∈ fr → In x) {q : Nat} :
    Fld (EdgeI G ab ab.length) n Z fr q ↔ Mor G In (Zp Z) (· ∈ fr) q := by
  have hZ : ∀ q, zB Z q = false ↔ ¬ Zp Z q := fun q => by unfold Zp; simp
  constructor
  · intro h
    suffices hh : In q ∧ Mor G In (Zp Z) (· ∈ fr) q from hh.2
    induction h with
    | base ha hz => exact ⟨hfr _ ha, .base ha ((hZ _).1 hz)⟩
    | @step p q _ hj hq hz ih =>
      obtain ⟨i1, i2⟩ := ih
      have hzz := (hZ q).1 hz
      obtain ⟨c, hc, e⟩ := edgeI_all.1 hj
      rw [hin] at hc
      rcases e with ⟨rfl, h2⟩ | ⟨rfl, h2⟩ | ⟨h2, h3⟩
      · have := hup _ _ hc h2; exact ⟨this, i2.step (.inr (.inl h2)) this hzz⟩
      · exact ⟨hc, i2.step (.inl h2) hc hzz⟩
      · have := hup _ _ hc h3; exact ⟨this, i2.step (.inr (.inr ⟨c, hc, h2, h3⟩)) this hzz⟩
  · intro h
    induction h with
    | base ha hz => exact .base ha ((hZ _).2 hz)
    | @step x y hm hj hi hz ih =>
      refine ih.step (edgeI_all.2 ?_) (hlt _ hi) ((hZ _).2 hz)
      rcases hj with h | h | ⟨c, hc, h2, h3⟩
      · exact ⟨y, (hin y).2 hi, .inr (.inl ⟨rfl, h⟩)⟩
      · exact ⟨x, (hin x).2 (hm.inn (fun a ha => hfr a ha)).1, .inl ⟨rfl, h⟩⟩
      · exact ⟨c, (hin c).2 hc, .inr (.inr ⟨h2, h3⟩)⟩
theorem mem_upList_lt {W : List (List Nat)} {S : List Nat} {x : Nat} (h : x ∈ upList W S) : x < W.length := by unfold upList at h; exact (mem_ptsOf.1 h).1
/-- all above some points, some others and what is given, as a list -/
noncomputable def mAb (Ps : List (List Int)) (a b given : List Int) : List Nat := upList (toG Ps) ((a ++ b ++ given).map Int.toNat)
section
variable {Ps : List (List Int)} {a b given : List Int}
theorem mem_mAb (hc : checkP Ps = 0) (ha : InN Ps.length a) (hb : InN Ps.length b) (hg : InN Ps.length given) {x : Nat} : x ∈ mAb Ps a b given ↔ InM (toG Ps) (Zp given) (· ∈ a.map Int.toNat) (· ∈ b.map Int.toNat) x := by
  have hgood := good_toG (checkP_ok hc).1
  have hin := (ha.app hb).app hg
  have hs : ∀ x, x ∈ (a ++ b ++ given).map Int.toNat → x < (toG Ps).length := fun x hx => by
    obtain ⟨y, hy, rfl⟩ := List.mem_map.1 hx
    have := hin y hy
    rw [toG_length]
    omega
  unfold mAb InM
  rw [mem_upList hgood hs]
  have e : ∀ x, x ∈ (a ++ b ++ given).map Int.toNat ↔ (x ∈ a.map Int.toNat ∨ x ∈ b.map Int.toNat ∨ Zp given x) := fun x => by
    have ez : Zp given x ↔ x ∈ given.map Int.toNat := by
      unfold Zp zB
      rw [decide_eq_true_iff, List.mem_map]
      constructor
      · intro h; exact ⟨_, h, by simp⟩
      · rintro ⟨y, hy, rfl⟩
        have := hg y hy
        rwa [Int.toNat_of_nonneg this.1]
    rw [ez, List.map_append, List.map_append, List.mem_append, List.mem_append, or_assoc]
  constructor <;> exact fun h => Up.mono (fun y hy => by first | exact (e y).1 hy | exact (e y).2 hy) h
/-- apart is apart in the moral graph -/
theorem moral_want (hc : checkP Ps = 0) (ha : InN Ps.length a) (hb : InN Ps.length b) (hg : InN Ps.length given) :
    apartB Ps a b given = true ↔ ∀ y, y ∈ b → ¬ Fld (EdgeI (toG Ps) (mAb Ps a b given) (mAb Ps a b given).length) Ps.length given (a.map Int.toNat) y.toNat := by
  have hl := lookE_ok hc hg.row (ha.app hb).row
  have hgood := good_toG (checkP_ok hc).1
  have hin : ∀ z, z ∈ given → 0 ≤ z ∧ z < ((toG Ps).length : Int) := fun z hz => by rw [toG_length]; exact hg z hz
  have hup : ∀ x p, InM (toG Ps) (Zp given) (· ∈ a.map Int.toNat) (· ∈ b.map Int.toNat) x → p ∈ nth (toG Ps) x → InM (toG Ps) (Zp given) (· ∈ a.map Int.toNat) (· ∈ b.map Int.toNat) p := fun x p h hp => h.up hp
  have hlt : ∀ x, InM (toG Ps) (Zp given) (· ∈ a.map Int.toNat) (· ∈ b.map Int.toNat) x → x < Ps.length := fun x h => by
    have := mem_upList_lt ((mem_mAb hc ha hb hg).2 h)
    rwa [toG_length] at this
  have hfl : ∀ q, Fld (EdgeI (toG Ps) (mAb Ps a b given) (mAb Ps a b given).length) Ps.length given (a.map Int.toNat) q ↔ Mor (toG Ps) (InM (toG Ps) (Zp given) (· ∈ a.map Int.toNat) (· ∈ b.map Int.toNat)) (Zp given) (· ∈ a.map Int.toNat) q := fun q =>
    fl_mor (fun x => mem_mAb hc ha hb hg) hup hlt (fun x hx => .base (.inl hx))
  have key := (told_hit (Ps := Ps) (a := a) (given := given) hb).trans (moral_iff (abOk hgood hin) (ap_up hgood hin))
  rw [apart_iff hl]
  constructor
  · intro h y hy hf
    obtain ⟨z, hz, hz2⟩ := key.2 ⟨y.toNat, List.mem_map.2 ⟨y, hy, rfl⟩, (hfl _).1 hf⟩
    exact h z hz hz2
  · intro h y hy ht
    obtain ⟨x, hx, hm⟩ := key.1 ⟨y, hy, ht⟩
    obtain ⟨z, hz, rfl⟩ := List.mem_map.1 hx
    exact h z hz ((hfl _).2 hm)
end
end Go.Proofs.Ytdlnglffimcopaa
/- credencelaw16.flood, walked: what is come to through a square of yes and no, around what is given. Conditions: points that are there, few. -/
namespace Go.Proofs.Ytdlnglffimcopaa
open Go.RowKit

theorem has_zb {Z : List Int} (zb : Bool) (B : Option Addr) (m d : Nat) (x : Nat) (w : World) (h : Sl (Value.int .i64) w B m Z) (hz : zB Z x = zb) :
    Calls Try.prog 42 #[.slice B m d, .int .i64 (x : Int)] w fun e w' => e = .returned (.bool zb) ∧ w = w' := by
  subst hz; exact (has_law B m d Z x w h).mono fun _ _ h => ⟨h.1, h.2.symm⟩
/-- what the flood has seen, and what it still has to do, as they lie in memory -/
structure FlW (w0 : World) (b : Nat) (A : Option Addr) (k c : Nat) (L : List Bool) (T : List Nat) (w : World) : Prop where
  seen : RowAt eB w b 4 L []
  q : OwnQ w (b + 1) 3 1 A k c (T.map eN)
  bel : Below b w0 w
section
variable {w0 w w' : World} {b : Nat} {A : Option Addr} {k c : Nat} {L : List Bool} {T : List Nat}
theorem FlW.k_eq (h : FlW w0 b A k c L T w) : T.length = k := by have := h.q.len; simpa using this
theorem FlW.step (h : FlW w0 b A k c L T w) (hb : Below w.heap.size w w') : FlW w0 b A k c L T w' :=
  ⟨h.seen.below hb h.seen.lt, h.q.below hb, h.bel.trans (hb.mono (Nat.le_of_lt h.seen.lt))⟩
theorem FlW.drewN (h : FlW w0 b A k c L T w) (t : Nat) : FlW w0 b A k c L T (w.drewN t) := h.step (below_refl_drewN _ _ _)
theorem FlW.row (h : FlW w0 b A k c L T w) {g off : Nat} (e : A = some ⟨g, off, none⟩) : b < g ∧ g < w.heap.size := by
  rcases h.q.at_row with h1 | ⟨g', off', h1, h2, h3⟩
  · rw [e] at h1; cases h1
  · rw [e] at h1; injection h1 with h1; injection h1 with h1; omega
theorem FlW.set (h : FlW w0 b A k c L T w) {q : Nat} (hq : q < L.length) : FlW w0 b A k c (L.set q true) T (w.setCell ⟨b, q, none⟩ (.bool true)) :=
  ⟨h.seen.set hq true, h.q.setFar (fun g off e => by have := (h.row e).1; show g ≠ b; omega) _, h.bel.setCell (p := ⟨b, q, none⟩) (Nat.le_refl b) _⟩
theorem FlW.app (h : FlW w0 b A k c L T w) {x : Nat} {o : Obj} {A9 : Option Addr} {c9 : Nat} {w9 : World} (ho : OwnQ w9 (b + 1) 3 1 A9 (k + 1) c9 (T.map eN ++ [eN x])) (ht : Turn (w.alloc o) w9 (fun b' => ∃ off, A = some ⟨b', off, none⟩)) :
    FlW w0 b A9 (k + 1) c9 L (T ++ [x]) w9 := by
  have hlt := h.seen.lt
  refine ⟨(h.seen.alloc o).turn ht (fun ⟨off, e⟩ => by have := (h.row e).1; omega), by rw [List.map_append]; exact ho, (h.bel.alloc (by omega) o).trans (ht.below (by simp; omega) fun x hx ⟨off, e⟩ => by have := (h.row e).1; omega)⟩
theorem FlW.cell (h : FlW w0 b A k c L T w) {q : Nat} (hq : q < L.length) : w.cell? ⟨b, q, none⟩ = some (.bool (nth L q)) := h.seen.cell hq
theorem FlW.pop {x : Nat} (h : FlW w0 b A k c L (x :: T) w) : ∃ g off A2 c2, A = some ⟨g, off, none⟩ ∧ w.cell? ⟨g, off, none⟩ = some (.int .i64 (x : Int)) ∧ 0 < k ∧ k ≤ c ∧ FlW w0 b A2 (k - 1) c2 L T w ∧
    ((c = 1 ∧ k = 1 ∧ A2 = some ⟨g, off, none⟩ ∧ c2 = 0) ∨ (¬ c = 1 ∧ A2 = some ⟨g, off + 1, none⟩ ∧ c2 = c - 1)) := by
  have hk := h.k_eq
  simp only [List.length_cons] at hk
  obtain ⟨g, off, e, _, _, hkc, hc, _⟩ := h.q.cells (by omega)
  have h0 := hc 0 (by omega)
  have hp := h.q.pop (by omega)
  rw [List.map_cons, show (eN x :: T.map eN).drop 1 = T.map eN from rfl] at hp
  refine ⟨g, off, _, _, e, h0, by omega, hkc, ⟨h.seen, hp, h.bel⟩, ?_⟩
  by_cases hc1 : c = 1
  · rw [if_pos hc1]; exact .inl ⟨hc1, by omega, e, by omega⟩
  · rw [if_neg hc1, e]; exact .inr ⟨hc1, by simp [Addr.add_lit], rfl⟩
end
def FldPost (J : Nat → Nat → Prop) (n : Nat) (Z : List Int) (fr : List Nat) (w : World) (e : Ending) (w' : World) : Prop :=
  e = .returned (.slice (some ⟨w.heap.size, 0, none⟩) n n) ∧ RowAt eB w' w.heap.size 4 (rowJ n (Fld J n Z fr)) [] ∧ Below w.heap.size w w'
set_option maxRecDepth 100000 in
set_option maxHeartbeats 1600000 in
theorem fld_any (g n : Nat) (vs : List (Option Addr × Nat × Nat)) (J : Nat → Nat → Prop) (A B : Option Addr) (k dk m dm : Nat) (fr : List Nat) (Z : List Int) (w : World) (hM : Mat w g n vs J) (hf : Sl eN w A k fr) (hz : Sl (Value.int .i64) w B m Z) (hfr : ∀ x, x ∈ fr → x < n) (hn : n ≤ 1000) :
    Calls Try.prog 40 #[.slice (some ⟨g, 0, none⟩) n n, .slice A k dk, .slice B m dm] w (FldPost J n Z fr w) := by
  have hbig := hf.big
  have hgw := hM.lt
  obtain ⟨wa, hwa⟩ : ∃ wa : World, wa = w := ⟨_, rfl⟩
  subst hwa
  have HI := Lib.hid (And.intro hM (And.intro hf (And.intro hz (And.intro hfr hf.len))))
  clear hM hf hz hfr
  go_enter Try.func40, Try.ntmps40
  go_wp2_with (first
    | (with_reducible refine wpList_mk _ eiBool eB false rfl rfl _ _ rfl n rfl rfl (by omega) ?_)
    | fail)
  intro w1 hrow1 hb1
  have HO := Lib.hid (show FlW wa wa.heap.size none 0 0 (List.replicate n false) [] w1 from ⟨hrow1, OwnQ.nil _ _ _ _, hb1⟩)
  clear hb1 hrow1
  generalize hp : wa.heap.size = b at *
  have HP := Lib.hid hp
  clear hp
  go_wp2_with fail
  go_loopw [8, 9] (fun v i wr => ∃ (t kk cc : Nat) (AA : Option Addr) (L : List Bool) (T : List Nat), i = .int .i64 (t : Nat) ∧ v = .slice AA kk cc ∧ t ≤ k ∧ FlW wa b AA kk cc L T wr ∧ Fl1 J n Z fr t L T) (fun _ i _ => k - (intOf i).toNat)
  case atStart => exact ⟨0, 0, 0, none, _, [], rfl, rfl, Nat.zero_le _, HO.out, Fl1.start J n Z fr⟩
  case round =>
    obtain ⟨t, kk, cc, AA, L, T, rfl, rfl, ht, hW, hF⟩ := hrel
    obtain ⟨wb, hwb⟩ : ∃ wb : World, wb = wr := ⟨_, rfl⟩
    subst hwb
    by_cases hlt : t < k
    · have htl : t < fr.length := by rw [HI.out.2.2.2.2]; exact hlt
      have hxn := HI.out.2.2.2.1 _ (nth_mem htl)
      have hi1 : (t : Int) < (k : Nat) := by omega
      obtain ⟨bf, of, rfl, hbf, hcf⟩ := (HI.out.2.1.below (Nat.le_of_eq HP.out) hW.bel).at' (by omega)
      have g1 := hcf t hlt
      obtain ⟨x, hx⟩ : ∃ x, x = nth fr t := ⟨_, rfl⟩
      rw [← hx] at g1 hxn
      have hll : x < L.length := by rw [hF.a.len]; exact hxn
      have g2 := hW.cell hll
      have hzw : Sl (Value.int .i64) wb B m Z := HI.out.2.2.1.below (Nat.le_of_eq HP.out) hW.bel
      obtain ⟨sb, hsb⟩ : ∃ sb, sb = nth L x := ⟨_, rfl⟩
      rw [← hsb] at g2
      obtain ⟨zb, hzb⟩ : ∃ zb, zb = zB Z x := ⟨_, rfl⟩
      have hxi : (x : Int) < (n : Nat) := by omega
      have hbl := hW.seen.lt
      have HX := Lib.hid (And.intro hx (And.intro hzw (And.intro hsb (And.intro hzb (And.intro hW (And.intro hF (And.intro hll htl)))))))
      clear hx hzw hsb hzb hW hF hcf hll htl
      cases zb with
      | true =>
        have HN := Lib.hid (HX.out.2.2.2.2.2.1.skip (.inl (by rw [← HX.out.1]; exact HX.out.2.2.2.1.symm)))
        go_wp2_with fail
        refine (has_zb true _ _ _ _ _ HX.out.2.1 HX.out.2.2.2.1.symm).mono ?_
        rintro e w9 ⟨rfl, rfl⟩
        go_wp2_with fail
        exact ⟨⟨t + 1, kk, cc, AA, L, T, by go_num, rfl, by omega, HX.out.2.2.2.2.1, HN.out⟩, by simp [intOf]; omega⟩
      | false =>
        cases sb with
        | true =>
          have HN := Lib.hid (HX.out.2.2.2.2.2.1.skip (.inr (by rw [← HX.out.1]; exact HX.out.2.2.1.symm)))
          go_wp2_with fail
          refine (has_zb false _ _ _ _ _ HX.out.2.1 HX.out.2.2.2.1.symm).mono ?_
          rintro e w9 ⟨rfl, rfl⟩
          go_wp2_with fail
          exact ⟨⟨t + 1, kk, cc, AA, L, T, by go_num, rfl, by omega, HX.out.2.2.2.2.1, HN.out⟩, by simp [intOf]; omega⟩
        | false =>
          have hnew := HX.out.2.2.2.2.2.1.see HX.out.2.2.2.2.2.2.2 (by rw [← HX.out.1]; exact hxn) (by rw [← HX.out.1]; exact HX.out.2.2.2.1.symm) (by rw [← HX.out.1]; exact HX.out.2.2.1.symm)
          rw [← HX.out.1] at hnew
          have HN := Lib.hid hnew
          clear hnew
          go_wp2_with fail
          refine (has_zb false _ _ _ _ _ HX.out.2.1 HX.out.2.2.2.1.symm).mono ?_
          rintro e w9 ⟨rfl, rfl⟩
          have hf5 := HX.out.2.2.2.2.1.seen.frozen x
          go_upto_region 8 with fail
          have hW6 := HX.out.2.2.2.2.1.set HX.out.2.2.2.2.2.2.1
          have hT := hW6.k_eq
          have hfit := HX.out.2.2.2.2.2.1.a.fits
          have hkk : (kk + 1) * 8 ≤ 140737488355328 := by omega
          clear g1 g2 hf5
          generalize wb.setCell ⟨b, x, none⟩ (.bool true) = w6 at *
          have g1 := ((HI.out.2.1.below (Nat.le_of_eq HP.out) hW6.bel).at' (by omega))
          obtain ⟨bf', of', e, _, hcf⟩ := g1
          injection e with e
          injection e with e1 e2 _
          subst e1 e2
          have g1 := hcf t hlt
          rw [← HX.out.1] at g1
          have hoq := hW6.q.alloc (.cells #[.int .i64 (x : Int)] 3)
          have hbase : b + 1 ≤ (w6.alloc (.cells #[.int .i64 (x : Int)] 3)).heap.size := by have := hW6.seen.lt; simp; omega
          have HW6 := Lib.hid hW6
          clear hW6 hT hfit hcf
          obtain ⟨⟨ix, e1, e2, e3, e4, e5⟩, _, _⟩ := eiInt
          go_wp2_with (first
            | (at_builtin; refine wpList_app_q _ rfl _ _ 23 rfl 3 ix _ 1 8 e1 e2 e3 e4 e5 (by simp [Value.cells]) (by omega) (b + 1) _ _ _ _ rfl hoq hbase ⟨w6.heap.size, 0, none⟩ 1 1 [.int .i64 (x : Int)] rfl rfl (cells_new w6 _ 3) (by intro u hu; simp at hu; rcases hu with rfl; rfl) hkk (by omega) ?_)
            | fail)
          intro A9 c9 w9 ho9 ht9 _
          have HE := Lib.hid (HW6.out.app ho9 ht9)
          clear ho9 ht9 hoq hbase g1
          go_wp2_with fail
          exact ⟨⟨t + 1, kk + 1, c9, A9, _, _, by go_num, rfl, by omega, HE.out, HN.out⟩, by simp [intOf]; omega⟩
    · obtain rfl : k = t := by omega
      have hdn : Fl2 J n Z fr L T := (show Fl1 J n Z fr fr.length L T from by rw [HI.out.2.2.2.2]; exact hF).done
      have hst : 2 * left L + T.length ≤ 2 * n := by have := hdn.a.fits; omega
      have HX := Lib.hid (And.intro hW hdn)
      clear hW hF hdn HO
      go_wp2_with fail
      go_loopg [8] (2 * n) (fun gg v wr => ∃ (kk cc : Nat) (AA : Option Addr) (L : List Bool) (T : List Nat), 2 * left L + T.length ≤ gg ∧ v = .slice AA kk cc ∧ Aside (FlW wa b AA kk cc L T wr ∧ Fl2 J n Z fr L T))
      case atStart => exact ⟨_, _, _, L, T, hst, rfl, HX.out.1, HX.out.2⟩
      case round => as_aux_lemma =>
        clear hst HX
        obtain ⟨kk, cc, AA, L, T, hgg, rfl, hA⟩ := hrel
        have hA := Lib.hid hA.out
        obtain ⟨wb, hwb⟩ : ∃ wb : World, wb = wr := ⟨_, rfl⟩
        subst hwb
        rcases T with _ | ⟨p, T⟩
        · have hk0 := hA.out.1.k_eq
          simp only [List.length_nil] at hk0
          subst hk0
          have HD := Lib.hid (hA.out.2.done HI.out.2.2.2.1)
          go_wp2_with fail
          go_ret
          exact ⟨by rw [HP.out]; rfl, by rw [HP.out, ← HD.out]; exact hA.out.1.seen, by rw [HP.out]; exact hA.out.1.bel⟩
        · obtain ⟨g', off, A2, c2, rfl, g1, hk0, hkc, hW2, hdis⟩ := hA.out.1.pop
          have hk1 : (0 : Int) < (kk : Nat) := by omega
          obtain ⟨hF3, hpn⟩ := hA.out.2.pop
          simp only [List.length_cons] at hgg
          have hM := Lib.hid hgg
          have HY := Lib.hid (And.intro hW2 hF3)
          clear hgg hW2 hF3 hA
          go_upto_region 11 with fail
          go_cut [8] from 57 to 58 (fun v wx => v = .slice A2 (kk - 1) c2 ∧ wx = wb)
          case first =>
            rcases hdis with ⟨rfl, rfl, rfl, rfl⟩ | ⟨hc1, rfl, rfl⟩
            · go_wp2_with fail
              go_meet
              case rel => exact ⟨rfl, rfl⟩
            · go_wp2_with fail
              go_meet
              case rel => exact ⟨rfl, rfl⟩
          case rest =>
          obtain ⟨rfl, rfl⟩ := hcut
          clear hdis g1
          go_wp2_with fail
          go_loopw [8, 11] (fun v q wr => ∃ (s kk cc : Nat) (AA : Option Addr) (L' : List Bool) (T' : List Nat), q = .int .i64 (s : Nat) ∧ v = .slice AA kk cc ∧ s ≤ n ∧ 2 * left L' + T'.length ≤ 2 * left L + T.length ∧ FlW wa b AA kk cc L' T' wr ∧ Fl3 J n Z fr p s L' T') (fun _ q _ => n - (intOf q).toNat)
          case atStart => exact ⟨0, _, _, _, L, T, rfl, rfl, Nat.zero_le _, Nat.le_refl _, HY.out.1, HY.out.2⟩
          case round => as_aux_lemma =>
            obtain ⟨s, k3, c3, A3, L3, T3, rfl, rfl, hs, hms, hW, hF⟩ := hrel
            obtain ⟨wc, hwc⟩ : ∃ wc : World, wc = wr := ⟨_, rfl⟩
            subst hwc
            by_cases hlt : s < n
            · have hi1 : (s : Int) < (n : Nat) := by omega
              have hi2 : (p : Int) < (n : Nat) := by omega
              obtain ⟨bp, cp, _, _, hbp, m1, m2, _⟩ := (HI.out.1.below (by rw [HP.out]; exact hW.bel)).at hpn
              have m3 := m2 s hlt
              have hll : s < L3.length := by rw [hF.a.len]; exact hlt
              have g2 := hW.cell hll
              have hzw : Sl (Value.int .i64) wc B m Z := HI.out.2.2.1.below (Nat.le_of_eq HP.out) hW.bel
              obtain ⟨sb, hsb⟩ : ∃ sb, sb = nth L3 s := ⟨_, rfl⟩
              rw [← hsb] at g2
              obtain ⟨zb, hzb⟩ : ∃ zb, zb = zB Z s := ⟨_, rfl⟩
              obtain ⟨jb, hjb⟩ : ∃ jb, jb = nth (rowJ n (J p)) s := ⟨_, rfl⟩
              rw [← hjb] at m3
              have HX := Lib.hid (And.intro hzw (And.intro hsb (And.intro hzb (And.intro hjb (And.intro hW (And.intro hF hll))))))
              have HM := Lib.hid hms
              clear hzw hsb hzb hjb hW hF hll hms m2
              cases jb with
              | false =>
                have HN := Lib.hid (HX.out.2.2.2.2.2.1.skip (.inl fun h => by have := (rowJ_true hlt).2 h; rw [← HX.out.2.2.2.1] at this; cases this))
                go_wp2_with fail
                exact ⟨⟨s + 1, k3, c3, A3, L3, T3, by go_num, rfl, by omega, HM.out, HX.out.2.2.2.2.1, HN.out⟩, by simp [intOf]; omega⟩
              | true =>
                cases sb with
                | true =>
                  have HN := Lib.hid (HX.out.2.2.2.2.2.1.skip (.inr (.inr HX.out.2.1.symm)))
                  go_wp2_with fail
                  exact ⟨⟨s + 1, k3, c3, A3, L3, T3, by go_num, rfl, by omega, HM.out, HX.out.2.2.2.2.1, HN.out⟩, by simp [intOf]; omega⟩
                | false =>
                  cases zb with
                  | true =>
                    have HN := Lib.hid (HX.out.2.2.2.2.2.1.skip (.inr (.inl HX.out.2.2.1.symm)))
                    go_wp2_with fail
                    refine (has_zb true _ _ _ _ _ HX.out.1 HX.out.2.2.1.symm).mono ?_
                    rintro e w9 ⟨rfl, rfl⟩
                    go_wp2_with fail
                    exact ⟨⟨s + 1, k3, c3, A3, L3, T3, by go_num, rfl, by omega, HM.out, HX.out.2.2.2.2.1, HN.out⟩, by simp [intOf]; omega⟩
                  | false =>
                    have hnew := HX.out.2.2.2.2.2.1.see hpn hlt ((rowJ_true hlt).1 HX.out.2.2.2.1.symm) HX.out.2.2.1.symm HX.out.2.1.symm
                    have hle := left_set HX.out.2.2.2.2.2.2 HX.out.2.1.symm
                    have HN := Lib.hid (And.intro hnew (show 2 * left (L3.set s true) + (T3 ++ [s]).length ≤ 2 * left L + T.length by have := HM.out; simp only [List.length_append, List.length_singleton]; omega))
                    clear hnew hle
                    go_wp2_with fail
                    refine (has_zb false _ _ _ _ _ HX.out.1 HX.out.2.2.1.symm).mono ?_
                    rintro e w9 ⟨rfl, rfl⟩
                    have hf5 := HX.out.2.2.2.2.1.seen.frozen s
                    go_upto_region 17 with fail
                    have hW6 := HX.out.2.2.2.2.1.set HX.out.2.2.2.2.2.2
                    have hT := hW6.k_eq
                    have hfit := HX.out.2.2.2.2.2.1.a.fits
                    have hkk : (k3 + 1) * 8 ≤ 140737488355328 := by omega
                    clear m1 m3 g2 hf5 hbp
                    generalize wc.setCell ⟨b, s, none⟩ (.bool true) = w6 at *
                    have hoq := hW6.q.alloc (.cells #[.int .i64 (s : Int)] 3)
                    have hbase : b + 1 ≤ (w6.alloc (.cells #[.int .i64 (s : Int)] 3)).heap.size := by have := hW6.seen.lt; simp; omega
                    have HW6 := Lib.hid hW6
                    clear hW6 hT hfit
                    obtain ⟨⟨ix, e1, e2, e3, e4, e5⟩, _, _⟩ := eiInt
                    go_wp2_with (first
                      | (at_builtin; refine wpList_app_q _ rfl _ _ 23 rfl 3 ix _ 1 8 e1 e2 e3 e4 e5 (by simp [Value.cells]) (by omega) (b + 1) _ _ _ _ rfl hoq hbase ⟨w6.heap.size, 0, none⟩ 1 1 [.int .i64 (s : Int)] rfl rfl (cells_new w6 _ 3) (by intro u hu; simp at hu; rcases hu with rfl; rfl) hkk (by omega) ?_)
                      | fail)
                    intro A9 c9 w9 ho9 ht9 _
                    have HE := Lib.hid (HW6.out.app ho9 ht9)
                    clear ho9 ht9 hoq hbase
                    go_wp2_with fail
                    exact ⟨⟨s + 1, k3 + 1, c9, A9, _, _, by go_num, rfl, by omega, HN.out.2, HE.out, HN.out.1⟩, by simp [intOf]; omega⟩
            · obtain rfl : n = s := by omega
              have HF := Lib.hid (And.intro hW hF.done)
              have HM2 := Lib.hid hms
              clear hW hF hms
              go_wp2_with fail
              go_roundg (2 * left L + T.length)
              case measure => have := hM.out; omega
              case rel => exact ⟨_, _, _, L3, T3, HM2.out, rfl, (show Aside _ from ⟨HF.out.1, HF.out.2⟩)⟩
end Go.Proofs.Ytdlnglffimcopaa
