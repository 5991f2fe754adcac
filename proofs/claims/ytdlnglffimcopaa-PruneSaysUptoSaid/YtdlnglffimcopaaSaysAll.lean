/- Joined by program out of: App2, SaysA, SaysB, Made. What each says stands at its own head. -/
import Derived.Test.YtdlnglffimcopaaLaws
import Derived.Test.YtdlnglffimcopaaTellAll
import Derived.Test.YtdlnglffimcopaaAliveP
/- append onto a row of the call's own, told apart: in place, or into a new row that leaves all that was there. Conditions: elements of one cell; the lengths stay below Go's bound. -/
namespace Go.Proofs.Ytdlnglffimcopaa
open Go.RowKit

section
variable {P : Program} (w : World)
theorem run_append_two {α : Type} [Inhabited α] (enc : α → Value) (h1 : ∀ x, (enc x).oneCell' = true) (base : Nat) (t ty e : TypeId) (i : TypeInfo) (z : Value) (bytes : Nat) (ht : P.underlying t = some (.slice e)) (hi : P.info? e = some i)
    (hz : i.zero = some z) (hsize : i.size = 1) (hby : i.bytes = bytes) (hzs : z.cells.size = 1) (A : Option Addr) (n c : Nat) (xs : List α) (hown : OwnR enc w base e A n c xs)
    (ad : Addr) (m d : Nat) (ys : List α) (hy : Sl enc w (some ad) m ys) (h63 : n + m ≤ maxLen) (hbytes : (n + m) * bytes ≤ 140737488355328) (hbase : base ≤ w.heap.size) :
    ∃ A' c' w', (Builtin.append_ #[t, t] ty #[.slice A n c, .slice (some ad) m d]).run P w = .ok (.slice A' (n + m) c') w' ∧ OwnR enc w' base e A' (n + m) c' (xs ++ ys) ∧ w.grownBy w' (Value.slice A n c).ownBlock ∧ Below base w w' ∧
      ((A' = A ∧ c' = c) ∨ (Below w.heap.size w w' ∧ ((Value.slice A' (n + m) c').ownBlock = none ∨ (Value.slice A' (n + m) c').ownBlock = some w.heap.size))) := by
  obtain ⟨A', c', w', hrun, ho, hg, hb, hd⟩ := run_append_sl (P := P) w enc h1 base t ty e i z bytes ht hi hz hsize hby hzs A n c xs hown (some ad) m d ys hy h63 hbytes hbase
  refine ⟨A', c', w', hrun, ho, hg, hb, ?_⟩
  have hnews := Sl.news hy
  have hone : ∀ u ∈ ys.map enc, u.oneCell' = true := by
    intro u hu
    obtain ⟨y, _, rfl⟩ := List.mem_map.1 hu
    exact h1 y
  rcases hown.2 with ⟨hv, hn0⟩ | ⟨g, cap, cur, hv, hgb, hgg, hnc, hcm, hcs, htk⟩
  · injection hv with e1 e2 e3
    subst e1 e2 e3
    right
    have hg' : w.grownBy w' none := hg
    have hd' : (Value.slice A' (0 + m) c').ownBlock = none ∨ (Value.slice A' (0 + m) c').ownBlock = some w.heap.size := hd
    exact ⟨⟨hg'.os, hg'.tape, hg'.output, hg'.size, fun b hb => hg'.block b hb (by simp)⟩, hd'⟩
  · injection hv with e1 e2 e3
    subst e1 e3
    rcases Nat.lt_or_ge c (n + m) with hfull | hroom
    · right
      have holds : ∀ j v, (xs.map enc)[j]? = some v → w.cell? ((⟨g, 0, none⟩ : Addr).add j) = some v := World.ownsRow.cells hown rfl
      have hr := run_append_grow (P := P) w t ty e i z ht hi hz ⟨g, 0, none⟩ n c (xs.map enc) (by rw [hsize, Nat.mul_one]; simpa using hown.length) holds ad m d (ys.map enc) (by rw [hsize, Nat.mul_one]; simpa using hy.len) hnews hfull
        (by unfold maxLen at h63; omega) (by rw [hby]; exact growslice_fits hfull hbytes)
      rw [hr] at hrun
      injection hrun with h2 h3
      injection h2 with h4 _ _
      subst h3 h4
      refine ⟨?_, .inr rfl⟩
      exact (below_refl_drewN w.heap.size w 1).alloc (Nat.le_refl _) _
    · left
      have hr := run_append_room (P := P) w t ty e i ht hi g n c cur hgg ad m d (ys.map enc) (by rw [hsize, Nat.mul_one]; simpa using hy.len) hnews hone hroom (by rw [hsize, Nat.mul_one, List.length_map, hy.len, hcs]; omega)
      rw [hr] at hrun
      injection hrun with h2 h3
      injection h2 with h4 _ h5
      exact ⟨h4.symm, h5.symm⟩
theorem wpList_append_two {α : Type} [Inhabited α] (enc : α → Value) (h1 : ∀ x, (enc x).oneCell' = true) {ops : Array Oper} {rest : List Oper} {o : Oper} {a : Act} {Q : Exit → Act → World → Prop} (hgd : o.guard = none) (s x : Operand) (t : TypeId)
    (ho : o.op = .call { callee := .builtin .append, args := #[s, x], argTypes := #[t, t] })
    (base : Nat) (e : TypeId) (i : TypeInfo) (z : Value) (bytes : Nat) (ht : P.underlying t = some (.slice e)) (hi : P.info? e = some i)
    (hz : i.zero = some z) (hsize : i.size = 1) (hby : i.bytes = bytes) (hzs : z.cells.size = 1) (A : Option Addr) (n c : Nat) (xs : List α) (hs : a.eval s = .slice A n c) (hown : OwnR enc w base e A n c xs)
    (ad : Addr) (m d : Nat) (ys : List α) (hx : a.eval x = .slice (some ad) m d) (hy : Sl enc w (some ad) m ys) (h63 : n + m ≤ maxLen) (hbytes : (n + m) * bytes ≤ 140737488355328) (hbase : base ≤ w.heap.size)
    (h : ∀ A' c' w', OwnR enc w' base e A' (n + m) c' (xs ++ ys) → w.grownBy w' (Value.slice A n c).ownBlock → Below base w w' →
      ((A' = A ∧ c' = c) ∨ (Below w.heap.size w w' ∧ ((Value.slice A' (n + m) c').ownBlock = none ∨ (Value.slice A' (n + m) c').ownBlock = some w.heap.size))) → wpList P ops Q rest (a.put o.dst (.slice A' (n + m) c')) w') : wpList P ops Q (o :: rest) a w := by
  refine wpList_plain hgd fun K hK => ?_
  obtain ⟨A', c', w', hr, h2, h3, h4, h5⟩ := run_append_two (P := P) w enc h1 base t o.type e i z bytes ht hi hz hsize hby hzs A n c xs hown ad m d ys hy h63 hbytes hbase
  unfold Oper.wp execOp
  simp only [ho, resolve, invoke, builtin, Sem.run_bind, Sem.run_pure, Result.andThen_ok, List.map_toArray, List.map_cons, List.map_nil, hs, hx, hr]
  exact hK _ _ (h A' c' w' h2 h3 h4 h5)
end
end Go.Proofs.Ytdlnglffimcopaa
/- credencelaw17's long, spoilt, call, told, walked. Conditions: the lists read, few; what is spoilt is the call's own. -/
namespace Go.Proofs.Ytdlnglffimcopaa
open Go.RowKit

/-- what is barren, or what is kept -/
noncomputable def ansL (Ps : List (List Int)) (asked given : List Int) (what : Nat) : List Nat := if what = 0 then bareL Ps (asked ++ given) else keptL Ps asked given (what % 2 == 1) (what / 2 % 2 == 1)
/-- .. as it is told -/
noncomputable def ansC (Ps : List (List Int)) (asked given : List Int) (what : Nat) : List Int := if aboveE Ps (asked ++ given) = 0 then castL (ansL Ps asked given what) else []
def AnsPost (w : World) (Ps : List (List Int)) (asked given : List Int) (what : Nat) (e : Ending) (w' : World) : Prop :=
  Below w.heap.size w w' ∧ ∃ C k d, e = .returned (.tuple #[.slice C k d, .int .i64 (aboveE Ps (asked ++ given))]) ∧ OwnR (Value.int .i64) w' w.heap.size 3 C k d (ansC Ps asked given what)
section
variable {Ps : List (List Int)} {asked given : List Int} {what : Nat} {w w' : World} {C : Option Addr} {k d : Nat}
theorem ans_of {L : List Nat} (hL : ansL Ps asked given what = L) (hb : Below w.heap.size w w') (h1 : aboveE Ps (asked ++ given) = 0 → OwnR (Value.int .i64) w' w.heap.size 3 C k d (castL L)) (h2 : aboveE Ps (asked ++ given) ≠ 0 → C = none ∧ k = 0 ∧ d = 0) :
    Below w.heap.size w w' ∧ OwnR (Value.int .i64) w' w.heap.size 3 C k d (ansC Ps asked given what) := by
  refine ⟨hb, ?_⟩
  unfold ansC
  rw [hL]
  by_cases h : aboveE Ps (asked ++ given) = 0
  · rw [if_pos h]; exact h1 h
  · rw [if_neg h]
    obtain ⟨rfl, rfl, rfl⟩ := h2 h
    exact OwnR.nil _ _ _ _
theorem ans_bar (hb : Below w.heap.size w w') (h1 : aboveE Ps (asked ++ given) = 0 → OwnR (Value.int .i64) w' w.heap.size 3 C k d (castL (bareL Ps (asked ++ given)))) (h2 : aboveE Ps (asked ++ given) ≠ 0 → C = none ∧ k = 0 ∧ d = 0) : Below w.heap.size w w' ∧ OwnR (Value.int .i64) w' w.heap.size 3 C k d (ansC Ps asked given 0) := ans_of (what := 0) rfl hb h1 h2
theorem ans_1 (hb : Below w.heap.size w w') (h1 : aboveE Ps (asked ++ given) = 0 → OwnR (Value.int .i64) w' w.heap.size 3 C k d (castL (keptL Ps asked given true false))) (h2 : aboveE Ps (asked ++ given) ≠ 0 → C = none ∧ k = 0 ∧ d = 0) : Below w.heap.size w w' ∧ OwnR (Value.int .i64) w' w.heap.size 3 C k d (ansC Ps asked given 1) := ans_of (what := 1) rfl hb h1 h2
theorem ans_2 (hb : Below w.heap.size w w') (h1 : aboveE Ps (asked ++ given) = 0 → OwnR (Value.int .i64) w' w.heap.size 3 C k d (castL (keptL Ps asked given false true))) (h2 : aboveE Ps (asked ++ given) ≠ 0 → C = none ∧ k = 0 ∧ d = 0) : Below w.heap.size w w' ∧ OwnR (Value.int .i64) w' w.heap.size 3 C k d (ansC Ps asked given 2) := ans_of (what := 2) rfl hb h1 h2
theorem ans_3 (hb : Below w.heap.size w w') (h1 : aboveE Ps (asked ++ given) = 0 → OwnR (Value.int .i64) w' w.heap.size 3 C k d (castL (keptL Ps asked given true true))) (h2 : aboveE Ps (asked ++ given) ≠ 0 → C = none ∧ k = 0 ∧ d = 0) : Below w.heap.size w w' ∧ OwnR (Value.int .i64) w' w.heap.size 3 C k d (ansC Ps asked given 3) := ans_of (what := 3) rfl hb h1 h2
theorem ans_4 (hb : Below w.heap.size w w') (h1 : aboveE Ps (asked ++ given) = 0 → OwnR (Value.int .i64) w' w.heap.size 3 C k d (castL (keptL Ps asked given false false))) (h2 : aboveE Ps (asked ++ given) ≠ 0 → C = none ∧ k = 0 ∧ d = 0) : Below w.heap.size w w' ∧ OwnR (Value.int .i64) w' w.heap.size 3 C k d (ansC Ps asked given 4) := ans_of (what := 4) rfl hb h1 h2
end
theorem ansC_length (Ps : List (List Int)) (asked given : List Int) (what : Nat) : (ansC Ps asked given what).length ≤ Ps.length := by
  unfold ansC
  split
  · unfold castL ansL
    rw [List.length_map]
    split
    · exact bareTo_length _ _ _
    · exact keptTo_length _ _ _ _ _ _
  · simp
set_option maxRecDepth 100000 in
set_option maxHeartbeats 800000 in
theorem call17_any (A B C : Option Addr) (n c m1 d1 m2 d2 what : Nat) (Ps : List (List Int)) (asked given : List Int) (w : World) (h : Rows (Value.int .i64) w A n Ps) (ha : Sl (Value.int .i64) w B m1 asked) (hg : Sl (Value.int .i64) w C m2 given)
    (hn : n ≤ 14) (hrow : ∀ i, i < Ps.length → (nth Ps i).length ≤ 1000) (hm1 : m1 ≤ 1000) (hm2 : m2 ≤ 1000) (hw : what < 5) :
    Calls Try.prog 65 #[.int .i64 (what : Int), .slice A n c, .slice B m1 d1, .slice C m2 d2] w (AnsPost w Ps asked given what) := by
  obtain ⟨wa, hwa⟩ : ∃ wa : World, wa = w := ⟨_, rfl⟩
  subst hwa
  have HI := Lib.hid (And.intro h (And.intro ha (And.intro hg hrow)))
  clear h ha hg hrow
  rcases (show what = 0 ∨ what = 1 ∨ what = 2 ∨ what = 3 ∨ what = 4 by omega) with rfl | rfl | rfl | rfl | rfl
  · go_enter Try.func65, Try.ntmps65
    go_wp2_with fail
    refine (barren_any A B C n c m1 d1 m2 d2 Ps asked given  _ HI.out.1 HI.out.2.1 HI.out.2.2.1 (by omega) (by omega)).mono ?_
    rintro e w1 ⟨hb, U, k, d, rfl, h1, h2⟩
    have HP := Lib.hid (ans_bar hb h1 h2)
    clear hb h1 h2
    generalize hae : aboveE Ps (asked ++ given) = ae at *
    have HAE := Lib.hid hae
    clear hae
    go_wp2_with fail
    go_ret2
    exact ⟨HP.out.1, U, k, d, by rw [HAE.out]; rfl, HP.out.2⟩
  · go_enter Try.func65, Try.ntmps65
    go_wp2_with fail
    refine (kept_prune A B C n c m1 d1 m2 d2 Ps asked given true false _ HI.out.1 HI.out.2.1 HI.out.2.2.1 (by omega) HI.out.2.2.2 hm1 hm2).mono ?_
    rintro e w1 ⟨hb, U, k, d, rfl, h1, h2⟩
    have HP := Lib.hid (ans_1 hb h1 h2)
    clear hb h1 h2
    generalize hae : aboveE Ps (asked ++ given) = ae at *
    have HAE := Lib.hid hae
    clear hae
    go_wp2_with fail
    go_ret2
    exact ⟨HP.out.1, U, k, d, by rw [HAE.out]; rfl, HP.out.2⟩
  · go_enter Try.func65, Try.ntmps65
    go_wp2_with fail
    refine (kept_prune A B C n c m1 d1 m2 d2 Ps asked given false true _ HI.out.1 HI.out.2.1 HI.out.2.2.1 (by omega) HI.out.2.2.2 hm1 hm2).mono ?_
    rintro e w1 ⟨hb, U, k, d, rfl, h1, h2⟩
    have HP := Lib.hid (ans_2 hb h1 h2)
    clear hb h1 h2
    generalize hae : aboveE Ps (asked ++ given) = ae at *
    have HAE := Lib.hid hae
    clear hae
    go_wp2_with fail
    go_ret2
    exact ⟨HP.out.1, U, k, d, by rw [HAE.out]; rfl, HP.out.2⟩
  · go_enter Try.func65, Try.ntmps65
    go_wp2_with fail
    refine (kept_prune A B C n c m1 d1 m2 d2 Ps asked given true true _ HI.out.1 HI.out.2.1 HI.out.2.2.1 (by omega) HI.out.2.2.2 hm1 hm2).mono ?_
    rintro e w1 ⟨hb, U, k, d, rfl, h1, h2⟩
    have HP := Lib.hid (ans_3 hb h1 h2)
    clear hb h1 h2
    generalize hae : aboveE Ps (asked ++ given) = ae at *
    have HAE := Lib.hid hae
    clear hae
    go_wp2_with fail
    go_ret2
    exact ⟨HP.out.1, U, k, d, by rw [HAE.out]; rfl, HP.out.2⟩
  · go_enter Try.func65, Try.ntmps65
    go_wp2_with fail
    refine (kept_prune A B C n c m1 d1 m2 d2 Ps asked given false false _ HI.out.1 HI.out.2.1 HI.out.2.2.1 (by omega) HI.out.2.2.2 hm1 hm2).mono ?_
    rintro e w1 ⟨hb, U, k, d, rfl, h1, h2⟩
    have HP := Lib.hid (ans_4 hb h1 h2)
    clear hb h1 h2
    generalize hae : aboveE Ps (asked ++ given) = ae at *
    have HAE := Lib.hid hae
    clear hae
    go_wp2_with fail
    go_ret2
    exact ⟨HP.out.1, U, k, d, by rw [HAE.out]; rfl, HP.out.2⟩
set_option maxRecDepth 100000 in
set_option maxHeartbeats 800000 in
theorem told17_any (A B C : Option Addr) (n c m1 d1 m2 d2 what : Nat) (Ps : List (List Int)) (asked given : List Int) (w : World) (h : Rows (Value.int .i64) w A n Ps) (ha : Sl (Value.int .i64) w B m1 asked) (hg : Sl (Value.int .i64) w C m2 given)
    (hn : n ≤ 14) (hrow : ∀ i, i < Ps.length → (nth Ps i).length ≤ 1000) (hm1 : m1 ≤ 1000) (hm2 : m2 ≤ 1000) (hw : what < 5) :
    Calls Try.prog 62 #[.int .i64 (what : Int), .slice A n c, .slice B m1 d1, .slice C m2 d2] w (AnsPost w Ps asked given what) := by
  obtain ⟨wa, hwa⟩ : ∃ wa : World, wa = w := ⟨_, rfl⟩
  subst hwa
  have HI := Lib.hid (And.intro h (And.intro ha (And.intro hg hrow)))
  clear h ha hg hrow
  rcases (show what = 0 ∨ what = 1 ∨ what = 2 ∨ what = 3 ∨ what = 4 by omega) with rfl | rfl | rfl | rfl | rfl
  · go_enter Try.func62, Try.ntmps62
    go_wp2_with fail
    refine (barren17_any A B C n c m1 d1 m2 d2 Ps asked given  _ HI.out.1 HI.out.2.1 HI.out.2.2.1 (by omega) hm1 hm2).mono ?_
    rintro e w1 ⟨hb, U, k, d, rfl, h1, h2⟩
    have HP := Lib.hid (ans_bar hb h1 h2)
    clear hb h1 h2
    generalize hae : aboveE Ps (asked ++ given) = ae at *
    have HAE := Lib.hid hae
    clear hae
    go_wp2_with fail
    go_ret2
    exact ⟨HP.out.1, U, k, d, by rw [HAE.out]; rfl, HP.out.2⟩
  · go_enter Try.func62, Try.ntmps62
    go_wp2_with fail
    refine (kept17_any A B C n c m1 d1 m2 d2 Ps asked given true false _ HI.out.1 HI.out.2.1 HI.out.2.2.1 (by omega) HI.out.2.2.2 hm1 hm2).mono ?_
    rintro e w1 ⟨hb, U, k, d, rfl, h1, h2⟩
    have HP := Lib.hid (ans_1 hb h1 h2)
    clear hb h1 h2
    generalize hae : aboveE Ps (asked ++ given) = ae at *
    have HAE := Lib.hid hae
    clear hae
    go_wp2_with fail
    go_ret2
    exact ⟨HP.out.1, U, k, d, by rw [HAE.out]; rfl, HP.out.2⟩
  · go_enter Try.func62, Try.ntmps62
    go_wp2_with fail
    refine (kept17_any A B C n c m1 d1 m2 d2 Ps asked given false true _ HI.out.1 HI.out.2.1 HI.out.2.2.1 (by omega) HI.out.2.2.2 hm1 hm2).mono ?_
    rintro e w1 ⟨hb, U, k, d, rfl, h1, h2⟩
    have HP := Lib.hid (ans_2 hb h1 h2)
    clear hb h1 h2
    generalize hae : aboveE Ps (asked ++ given) = ae at *
    have HAE := Lib.hid hae
    clear hae
    go_wp2_with fail
    go_ret2
    exact ⟨HP.out.1, U, k, d, by rw [HAE.out]; rfl, HP.out.2⟩
  · go_enter Try.func62, Try.ntmps62
    go_wp2_with fail
    refine (kept17_any A B C n c m1 d1 m2 d2 Ps asked given true true _ HI.out.1 HI.out.2.1 HI.out.2.2.1 (by omega) HI.out.2.2.2 hm1 hm2).mono ?_
    rintro e w1 ⟨hb, U, k, d, rfl, h1, h2⟩
    have HP := Lib.hid (ans_3 hb h1 h2)
    clear hb h1 h2
    generalize hae : aboveE Ps (asked ++ given) = ae at *
    have HAE := Lib.hid hae
    clear hae
    go_wp2_with fail
    go_ret2
    exact ⟨HP.out.1, U, k, d, by rw [HAE.out]; rfl, HP.out.2⟩
  · go_enter Try.func62, Try.ntmps62
    go_wp2_with fail
    refine (kept17_any A B C n c m1 d1 m2 d2 Ps asked given false false _ HI.out.1 HI.out.2.1 HI.out.2.2.1 (by omega) HI.out.2.2.2 hm1 hm2).mono ?_
    rintro e w1 ⟨hb, U, k, d, rfl, h1, h2⟩
    have HP := Lib.hid (ans_4 hb h1 h2)
    clear hb h1 h2
    generalize hae : aboveE Ps (asked ++ given) = ae at *
    have HAE := Lib.hid hae
    clear hae
    go_wp2_with fail
    go_ret2
    exact ⟨HP.out.1, U, k, d, by rw [HAE.out]; rfl, HP.out.2⟩
/-- the marks behind a list -/
def mark6 : List Int := [-90, -91, -92, -93, -94, -95]
def LongPost (n : Nat) (xs : List Int) (w : World) (e : Ending) (w' : World) : Prop := ∃ A' c', e = .returned (.slice A' (n + 6) c') ∧ OwnR (Value.int .i64) w' w.heap.size 3 A' (n + 6) c' (xs ++ mark6) ∧ Below w.heap.size w w'
set_option maxRecDepth 100000 in
set_option maxHeartbeats 800000 in
theorem long17_any (A : Option Addr) (n c : Nat) (xs : List Int) (w : World) (h : Sl (Value.int .i64) w A n xs) (hn : n ≤ 1000) : Calls Try.prog 64 #[.slice A n c] w (LongPost n xs w) := by
  obtain ⟨wa, hwa⟩ : ∃ wa : World, wa = w := ⟨_, rfl⟩
  subst hwa
  have hemp : OwnR (Value.int .i64) wa wa.heap.size 3 none 0 0 ([] : List Int) := OwnR.nil _ _ _ _
  go_enter Try.func64, Try.ntmps64
  go_wp2_with (first
    | (at_builtin; (with_reducible refine wpList_app _ eiInt (Value.int .i64) (fun _ => rfl) rfl _ _ rfl wa.heap.size _ _ _ _ rfl hemp _ _ _ _ rfl h (by omega) (Nat.le_refl _) ?_))
    | fail)
  intro A7 c7 w7 ho7 _ hb7 _
  try simp only [Nat.zero_add, List.nil_append] at ho7
  try simp only [Nat.zero_add]
  have hz7 := hb7.size
  have hos := ho7.alloc (.cells #[.int .i64 (-90), .int .i64 (-91), .int .i64 (-92), .int .i64 (-93), .int .i64 (-94), .int .i64 (-95)] 3)
  have hlit : Sl (Value.int .i64) (w7.alloc (.cells #[.int .i64 (-90), .int .i64 (-91), .int .i64 (-92), .int .i64 (-93), .int .i64 (-94), .int .i64 (-95)] 3)) (some ⟨w7.heap.size, 0, none⟩) 6 mark6 := sl_lit w7 mark6 (by simp [mark6])
  have HB := Lib.hid hb7
  clear hb7 ho7 hemp
  go_wp2_with (first
    | (at_builtin; (refine wpList_app _ eiInt (Value.int .i64) (fun _ => rfl) rfl _ _ rfl wa.heap.size _ _ _ _ rfl hos _ _ _ _ rfl hlit (by omega) (by simp; omega) ?_))
    | fail)
  intro A8 c8 w8 ho8 _ hb8 _
  have HE := Lib.hid (And.intro ho8 ((HB.out.alloc hz7 _).trans hb8))
  clear ho8 hb8 hos hlit
  go_wp2_with fail
  go_ret
  exact ⟨A8, c8, rfl, HE.out.1, HE.out.2⟩
/-- what is left of what the call owns, at a length that is shorter -/
theorem OwnR.pre {α : Type} [Inhabited α] {enc : α → Value} {w : World} {base : Nat} {e : TypeId} {A : Option Addr} {n m c : Nat} {xs ys : List α} (h : OwnR enc w base e A m c (xs ++ ys)) (hn : xs.length = n) (hb : m ≤ 140737488351232) : Sl enc w A n xs := by
  have h1 := h.sl hb
  have h2 := h.length
  rw [List.length_append] at h2
  refine ⟨hn, by omega, fun hp => ?_⟩
  obtain ⟨b, off, e1, hlt, hc⟩ := h1.at' (by omega)
  refine ⟨b, off, e1, hlt, fun j hj => ?_⟩
  rw [hc j (by omega), nth_append_left (by omega)]
/-- the call's own row, all of it written over -/
theorem OwnR.over {α : Type} {enc : α → Value} {w w' : World} {base : Nat} {e : TypeId} {g n c : Nat} {xs ys : List α} {rest : List Value} (h : OwnR enc w base e (some ⟨g, 0, none⟩) n c xs) (hr : RowAt enc w' g e ys rest) (hl : ys.length = n) (hc : n + rest.length = c) : OwnR enc w' base e (some ⟨g, 0, none⟩) n c ys := by
  have hb : base ≤ g := by
    rcases h.2 with ⟨h1, _⟩ | ⟨g', _, _, h1, h2, _⟩
    · injection h1 with h1; cases h1
    · injection h1 with h1; injection h1 with h1; injection h1 with h1; omega
  exact OwnR.of_row' hr hb (by rw [hl]; exact hc) h.capmax hl
theorem Sl.grown {α : Type} [Inhabited α] {enc : α → Value} {w w' : World} {A : Option Addr} {n : Nat} {xs : List α} {row : Option Nat} (h : Sl enc w A n xs) (hg : w.grownBy w' row) (hne : ∀ b off, 0 < n → A = some ⟨b, off, none⟩ → row ≠ some b) : Sl enc w' A n xs :=
  ⟨h.len, h.big, fun hn => by
    obtain ⟨b, off, e, hlt, hc⟩ := h.at' hn
    exact ⟨b, off, e, Nat.lt_of_lt_of_le hlt hg.size, fun j hj => World.grownBy.cell hg (hc j hj) (fun e' => hne b off hn e e'.symm)⟩⟩
theorem ownBlock_len (A : Option Addr) (n m c d : Nat) : (Value.slice A n c).ownBlock = (Value.slice A m d).ownBlock := by cases A <;> rfl
theorem repl_step (mark : Int) (xs : List Int) (k : Nat) (h : k < xs.length) : (List.replicate k mark ++ xs.drop k).set k mark = List.replicate (k + 1) mark ++ xs.drop (k + 1) := by
  rw [List.drop_eq_getElem_cons h, List.set_append_right _ _ (by simp)]
  simp only [List.length_replicate, Nat.sub_self, List.set_cons_zero, List.replicate_succ', List.append_assoc, List.cons_append, List.nil_append]
theorem nth_repl (n k : Nat) (mark : Int) (h : k < n) : nth (List.replicate n mark) k = mark := by
  rw [nth_eq (by simpa using h)]; simp

set_option maxRecDepth 100000 in
set_option maxHeartbeats 4000000 in
theorem spoilt17_any (base : Nat) (A : Option Addr) (n c : Nat) (xs : List Int) (mark : Int) (w : World) (h : OwnR (Value.int .i64) w base 3 A n c xs) (hb : n ≤ 1000) (hB : base ≤ w.heap.size) :
    Calls Try.prog 66 #[.slice A n c, .int .i64 mark] w fun e w' => e = .returned (.bool true) ∧ w.grownBy w' (Value.slice A n c).ownBlock := by
  obtain ⟨⟨i0, e1, hi0, hz0, hz1, hz2⟩, _, _⟩ := eiInt
  have HI := Lib.hid (And.intro hi0 h.length); clear hi0
  obtain ⟨wa, hwa⟩ : ∃ wa : World, wa = w := ⟨_, rfl⟩
  subst hwa
  go_enter Try.func66, Try.ntmps66
  go_wp2_with fail
  go_loopw [5] (fun i wr => ∃ k : Nat, i = .int .i64 (k : Nat) ∧ k ≤ n ∧ OwnR (Value.int .i64) wr base 3 A n c (List.replicate k mark ++ xs.drop k) ∧ wa.grownBy wr (Value.slice A n c).ownBlock) (fun i _ => n - (intOf i).toNat)
  case atStart => exact ⟨0, rfl, Nat.zero_le _, by simpa using h, grown_refl _ _⟩
  case round =>
    obtain ⟨k, rfl, hk, ho, hg⟩ := hrel
    obtain ⟨wb, hwb⟩ : ∃ wb : World, wb = wr := ⟨_, rfl⟩
    subst hwb
    by_cases hlt : k < n
    · obtain ⟨g, rest, rfl, hbg, hr, hc⟩ := ho.row (by omega)
      have hkl : k < (List.replicate k mark ++ xs.drop k).length := by rw [ho.length]; exact hlt
      have g1 := hr.cell hkl
      have f1 := hr.frozen k
      have hset := hr.set hkl mark
      rw [repl_step mark xs k (by rw [HI.out.2]; exact hlt)] at hset
      have ho2 := ho.over hset (by have := HI.out.2; simp; omega) hc
      have hg2 : wa.grownBy (wb.setCell ⟨g, k, none⟩ (.int .i64 mark)) (some g) := grown_setCell hg k _
      have HH := Lib.hid (And.intro ho2 hg2); clear ho2 hg2 hset ho hg hr h hkl
      go_wp2_with fail
      exact ⟨⟨k + 1, by go_num, by omega, HH.out.1, HH.out.2⟩, by simp [intOf]; omega⟩
    · obtain rfl : k = n := by omega
      obtain ⟨M, hM⟩ : ∃ M, M = List.replicate k mark := ⟨_, rfl⟩
      have hd : xs.drop k = [] := List.drop_of_length_le (by rw [HI.out.2]; omega)
      rw [hd, List.append_nil, ← hM] at ho
      have hMl : M.length = k := by rw [hM]; simp
      have hl := OwnR.pre (ys := []) (by rw [List.append_nil]; exact ho) hMl (by omega)
      have hA : ∀ b off, 0 < k → A = some ⟨b, off, none⟩ → b < wb.heap.size := by
        intro b off hp e
        obtain ⟨b', off', e', hlt', _⟩ := hl.at' hp
        rw [e] at e'
        injection e' with e'
        injection e' with e1 _
        omega
      have hsz := hg.size
      have HH := Lib.hid (And.intro ho (And.intro hg (And.intro hl (And.intro hA hM)))); clear ho hg hl hA hM hd h
      go_wp2_with fail
      go_loopw [6, 7] (fun v i wr => ∃ (j : Nat) (B : Option Addr) (d : Nat), v = .slice B (k + j) d ∧ i = .int .i64 (j : Nat) ∧ j ≤ 60 ∧ Sl (Value.int .i64) wr A k M ∧ OwnR (Value.int .i64) wr base 3 B (k + j) d (M ++ List.replicate j 7) ∧ wa.grownBy wr (Value.slice A k c).ownBlock ∧
          ((B = A ∧ d = c) ∨ ∀ g, (Value.slice B (k + j) d).ownBlock = some g → wb.heap.size ≤ g) ∧ wb.heap.size ≤ wr.heap.size) (fun _ i _ => 60 - (intOf i).toNat)
      case atStart => exact ⟨0, A, c, rfl, rfl, by omega, HH.out.2.2.1, by simpa using HH.out.1, HH.out.2.1, .inl ⟨rfl, rfl⟩, Nat.le_refl _⟩
      case round =>
        obtain ⟨j, B, d, rfl, rfl, hj, hl, ho, hg, hph, hs2⟩ := hrel
        obtain ⟨wc, hwc⟩ : ∃ wc : World, wc = wr := ⟨_, rfl⟩
        subst hwc
        by_cases hlt2 : j < 60
        · have ho1 := ho.alloc (.cells #[.int .i64 7] 3)
          have hl1 := hl.alloc (.cells #[.int .i64 7] 3)
          have hc : k + j + 1 ≤ maxLen ∧ (k + j + 1) * 8 ≤ 140737488355328 := by unfold maxLen; omega
          have hbase : base ≤ (wc.alloc (.cells #[.int .i64 7] 3)).heap.size := by have := hg.size; simp; omega
          have hg1 : wa.grownBy (wc.alloc (.cells #[.int .i64 7] 3)) (Value.slice A k c).ownBlock := grown_alloc hg _
          have hsz1 : wb.heap.size ≤ (wc.alloc (.cells #[.int .i64 7] 3)).heap.size := by simp; omega
          have HC := Lib.hid (And.intro hc (And.intro hl1 (And.intro hg1 (And.intro hph hsz1)))); clear hc hl1 hg1 hph ho hl hg hsz1
          go_wp2_with (first
            | (at_builtin; refine wpList_append_two _ (Value.int .i64) (fun _ => rfl) rfl _ _ 23 rfl base 3 i0 (.int .i64 0) 8 Try.underlying23 HI.out.1 hz0 hz1 hz2 rfl _ _ _ _ rfl ho1 _ _ _ _ rfl (Sl.one _ _ _) HC.out.1.1 HC.out.1.2 hbase ?_)
            | fail)
          intro B9 d9 w9 ho9 hg9 hb9 hd9
          have hres : Sl (Value.int .i64) w9 A k M ∧ wa.grownBy w9 (Value.slice A k c).ownBlock ∧ ((B9 = A ∧ d9 = c) ∨ ∀ g, (Value.slice B9 (k + (j + 1)) d9).ownBlock = some g → wb.heap.size ≤ g) ∧ wb.heap.size ≤ w9.heap.size := by
            have hs9 := hg9.size
            have hz9 : wb.heap.size ≤ w9.heap.size := Nat.le_trans HC.out.2.2.2.2 hs9
            have hgg : wa.grownBy w9 (Value.slice A k c).ownBlock := by
              refine ⟨hg9.os.trans HC.out.2.2.1.os, hg9.tape.trans HC.out.2.2.1.tape, hg9.output.trans HC.out.2.2.1.output, Nat.le_trans HC.out.2.2.1.size hs9, fun b hb hne => ?_⟩
              refine (hg9.block b (Nat.lt_of_lt_of_le hb HC.out.2.2.1.size) ?_).trans (HC.out.2.2.1.block b hb hne)
              intro e
              rcases HC.out.2.2.2.1 with ⟨rfl, rfl⟩ | hfar
              · exact hne (e.trans (ownBlock_len _ _ _ _ _))
              · have := hfar b e.symm
                have := HH.out.2.1.size
                omega
            rcases hd9 with ⟨rfl, rfl⟩ | ⟨hbel, hfr⟩
            · rcases HC.out.2.2.2.1 with ⟨rfl, rfl⟩ | hfar
              · refine ⟨?_, hgg, .inl ⟨rfl, rfl⟩, hz9⟩
                exact OwnR.pre (ys := List.replicate j 7 ++ [7]) ho9 hMl (by omega)
              · refine ⟨Sl.grown HC.out.2.1 hg9 ?_, hgg, .inr fun g hq => hfar g (by rw [← hq]; exact ownBlock_len _ _ _ _ _), hz9⟩
                intro b off hp e hq
                have h1 := hfar b hq
                have h2 := HH.out.2.2.2.1 b off hp e
                omega
            · refine ⟨HC.out.2.1.below (by simp) hbel, hgg, .inr fun g hq => ?_, hz9⟩
              have hq' : (Value.slice B9 (k + j + 1) d9).ownBlock = some g := hq
              rcases hfr with hfr | hfr
              · rw [hfr] at hq'; cases hq'
              · rw [hfr] at hq'
                injection hq' with hq'
                have h5 := HC.out.2.2.2.2
                simp only [World.size_alloc] at h5
                omega
          have ho10 : OwnR (Value.int .i64) w9 base 3 B9 (k + (j + 1)) d9 (M ++ List.replicate (j + 1) 7) := by
            rw [List.replicate_succ']; exact ho9
          have HR := Lib.hid (And.intro hres ho10); clear hres ho10 ho9 hg9 hb9 hd9 ho1
          go_wp2_with fail
          exact ⟨⟨j + 1, B9, d9, rfl, by go_num, by omega, HR.out.1.1, HR.out.2, HR.out.1.2.1, HR.out.1.2.2.1, HR.out.1.2.2.2⟩, by simp [intOf]; omega⟩
        · obtain rfl : j = 60 := by omega
          have hm := ho.sl (by omega)
          have HC := Lib.hid (And.intro hl (And.intro hm hg)); clear hl hm hg ho hph
          go_wp2_with fail
          go_loopw [8] (fun i wr => ∃ t : Nat, i = .int .i64 (t : Nat) ∧ t ≤ k ∧ wr = wc) (fun i _ => k - (intOf i).toNat)
          case atStart => exact ⟨0, rfl, Nat.zero_le _, rfl⟩
          case round =>
            obtain ⟨t, rfl, ht, rfl⟩ := hrel
            by_cases hlt3 : t < k
            · obtain ⟨b1, o1, hA1, _, hc1⟩ := HC.out.1.at' (by omega)
              obtain ⟨b2, o2, hB2, _, hc2⟩ := HC.out.2.1.at' (by omega)
              have g1 := hc1 t hlt3
              have g2 := hc2 t (by omega)
              rw [nth_append_left (by omega)] at g2
              have hnm : nth M t = mark := by rw [HH.out.2.2.2.2]; exact nth_repl k t mark hlt3
              rw [hnm] at g1 g2
              subst hA1 hB2
              clear hc1 hc2 hnm
              go_wp2_with fail
              exact ⟨⟨t + 1, by go_num, by omega, trivial⟩, by simp [intOf]; omega⟩
            · go_wp2_with fail
              go_ret
              exact ⟨rfl, HC.out.2.2⟩
end Go.Proofs.Ytdlnglffimcopaa
/- credencelaw17's lent and kept, walked: parents handed in, each list a piece of a longer one. Conditions: the lists read, few. -/
namespace Go.Proofs.Ytdlnglffimcopaa
open Go.RowKit

/-- lists, each the head of a longer one with marks behind -/
structure Marks (w : World) (base : Nat) (A : Option Addr) (n c : Nat) (Ps : List (List Int)) (vs : List (Option Addr × Nat × Nat)) : Prop where
  out : OwnR eS w base 23 A n c vs
  row : ∀ i, i < n → (nth vs i).2.1 = (nth Ps i).length ∧ OwnR (Value.int .i64) w base 3 (nth vs i).1 ((nth Ps i).length + 6) (nth vs i).2.2 (nth Ps i ++ mark6)
theorem Marks.below {w w' : World} {base : Nat} {A : Option Addr} {n c : Nat} {Ps : List (List Int)} {vs : List (Option Addr × Nat × Nat)} (h : Marks w base A n c Ps vs) (hb : Below w.heap.size w w') : Marks w' base A n c Ps vs :=
  ⟨h.out.below (Nat.le_refl _) hb, fun i hi => ⟨(h.row i hi).1, (h.row i hi).2.below (Nat.le_refl _) hb⟩⟩
theorem Marks.snoc {w w' : World} {base : Nat} {A A' : Option Addr} {n c c' : Nat} {Ps : List (List Int)} {vs : List (Option Addr × Nat × Nat)} (h : Marks w base A n c Ps vs) {R : Option Addr} {m d : Nat} (hm : m = (nth Ps n).length) (hr : OwnR (Value.int .i64) w base 3 R (m + 6) d (nth Ps n ++ mark6)) (ho : OwnR eS w' base 23 A' (n + 1) c' (vs ++ [(R, m, d)]))
    {o : Obj} (hg : (w.alloc o).grownBy w' (Value.slice A n c).ownBlock) (hne : (3 : TypeId) ≠ 23) : Marks w' base A' (n + 1) c' Ps (vs ++ [(R, m, d)]) := by
  have hvl := h.out.length
  have keep : ∀ {X : Option Addr} {a b : Nat} {ys : List Int}, OwnR (Value.int .i64) w base 3 X a b ys → OwnR (Value.int .i64) w' base 3 X a b ys := fun {X a b ys} hX =>
    (hX.alloc o).grown hg fun g e e2 => by
      have h2 := h.out.ownBlock_eq e2
      exact hX.kinds h.out hne e h2
  refine ⟨ho, fun i hi => ?_⟩
  rcases Nat.lt_or_ge i n with h1 | h1
  · rw [nth_append_left (by omega)]
    exact ⟨(h.row i h1).1, keep (h.row i h1).2⟩
  · obtain rfl : i = n := by omega
    rw [nth_append_right (by omega), hvl, Nat.sub_self]
    subst hm
    exact ⟨rfl, keep hr⟩
/-- .. all of them, and a last one behind -/
structure Lent (w : World) (base : Nat) (A : Option Addr) (n c : Nat) (Ps : List (List Int)) (vs : List (Option Addr × Nat × Nat)) (M : Option Addr) (dm : Nat) : Prop where
  out : OwnR eS w base 23 A (n + 1) c (vs ++ [(M, 1, dm)])
  len : vs.length = n
  row : ∀ i, i < n → (nth vs i).2.1 = (nth Ps i).length ∧ OwnR (Value.int .i64) w base 3 (nth vs i).1 ((nth Ps i).length + 6) (nth vs i).2.2 (nth Ps i ++ mark6)
  mark : OwnR (Value.int .i64) w base 3 M 1 dm [-77]
section
variable {w w' : World} {base n c dm : Nat} {A M : Option Addr} {Ps : List (List Int)} {vs : List (Option Addr × Nat × Nat)}
theorem Lent.below (h : Lent w base A n c Ps vs M dm) (hb : Below w.heap.size w w') : Lent w' base A n c Ps vs M dm :=
  ⟨h.out.below (Nat.le_refl _) hb, h.len, fun i hi => ⟨(h.row i hi).1, (h.row i hi).2.below (Nat.le_refl _) hb⟩, h.mark.below (Nat.le_refl _) hb⟩
theorem Lent.rows (h : Lent w base A n c Ps vs M dm) (hl : Ps.length = n) (hn : n ≤ 1000) (hr : ∀ i, i < n → (nth Ps i).length ≤ 1000) : Rows (Value.int .i64) w A n Ps := by
  refine ⟨⟨vs, OwnR.pre (ys := [(M, 1, dm)]) h.out h.len (by omega), fun i hi => ?_⟩, hl⟩
  obtain ⟨h1, h2⟩ := h.row i hi
  have hc := h2.cap
  have := hr i hi
  rw [h1]
  exact ⟨OwnR.pre (ys := mark6) h2 rfl (by omega), by omega⟩
end
def LentPost (n : Nat) (Ps : List (List Int)) (w : World) (e : Ending) (w' : World) : Prop := ∃ A c vs M dm, e = .returned (.slice A n c) ∧ Lent w' w.heap.size A n c Ps vs M dm ∧ Below w.heap.size w w'
set_option maxRecDepth 100000 in
set_option maxHeartbeats 1600000 in
theorem lent_any (A : Option Addr) (n c : Nat) (Ps : List (List Int)) (w : World) (h : Rows (Value.int .i64) w A n Ps) (hn : n ≤ 14) (hr : ∀ i, i < Ps.length → (nth Ps i).length ≤ 1000) :
    Calls Try.prog 63 #[.slice A n c] w (LentPost n Ps w) := by
  have hlen := h.len
  obtain ⟨wa, hwa⟩ : ∃ wa : World, wa = w := ⟨_, rfl⟩
  subst hwa
  have HL := Lib.hid (And.intro hlen (And.intro h hr))
  clear hlen h hr
  go_enter Try.func63, Try.ntmps63
  go_wp2_with fail
  go_loopw [3, 4] (fun v i wr => ∃ (t d : Nat) (L : Option Addr) (vs : List (Option Addr × Nat × Nat)), i = .int .i64 (t : Nat) ∧ v = .slice L t d ∧ t ≤ n ∧ Marks wr wa.heap.size L t d Ps vs ∧ Below wa.heap.size wa wr) (fun _ i _ => n - (intOf i).toNat)
  case atStart => exact ⟨0, 0, none, [], rfl, rfl, Nat.zero_le _, ⟨OwnR.nil _ _ _ _, fun i hi => by omega⟩, Below.refl _ _⟩
  case round => as_aux_lemma =>
    obtain ⟨t, d, L, vs, rfl, rfl, ht, hM, hb⟩ := hrel
    obtain ⟨wb, hwb⟩ : ∃ wb : World, wb = wr := ⟨_, rfl⟩
    subst hwb
    by_cases hlt : t < n
    · have hti : (t : Int) < (n : Nat) := by omega
      obtain ⟨bA, oA, R, m, dr, rfl, hbA, hcellA, hrow⟩ := HL.out.2.1.row hlt
      have hcell := (hb.cell (p := ⟨bA, oA + t, none⟩) hbA).trans hcellA
      have hml := hrow.len
      have hm1 : m ≤ 1000 := by rw [← hml]; exact HL.out.2.2 t (by rw [HL.out.1]; exact hlt)
      have hz := hb.size
      have hrd : Sl (Value.int .i64) wb.drew R m (nth Ps t) := (hrow.below (Nat.le_refl _) hb).drewN 1
      have hbd : Below wb.heap.size wb wb.drew := below_refl_drewN _ wb 1
      have hbw : Below wa.heap.size wa wb.drew := below_drewN hb 1
      have hzd : wa.heap.size ≤ wb.drew.heap.size := hz
      have hk1 : t + 1 ≤ maxLen := by unfold maxLen; omega
      have hk2 : (t + 1) * 24 ≤ 140737488355328 := by omega
      obtain ⟨⟨ix, e1, e2, e3, e4, e5⟩, _, _⟩ := eiRows
      have hMd : Marks wb.drew wa.heap.size L t d Ps vs := hM.below hbd
      have HM := Lib.hid hml
      clear hM hml hrow
      go_wp2_with fail
      go_region_held3 (fun w' => w'.cell? ⟨bA, oA + t, none⟩ = some (.slice R m dr)) (first | assumption | go_keep)
        (first
          | ((go_at_call 64); (refine (long17_any R m dr (nth Ps t) _ hrd hm1).mono ?_); (rintro e w7 ⟨A7, c7, rfl, ho7, hb7⟩); (have hc7 := ho7.cap); (have hc8 : m ≤ c7 := by omega); (have hbb := hbw.trans (hb7.mono hzd)); (have s7 := (hbb.cell (p := ⟨bA, oA + t, none⟩) hbA).trans hcellA); (have hM7 := hMd.below hb7); (have hMo := hM7.out.alloc (.cells #[.slice A7 m c7] 23)); (have hz7 : wa.heap.size ≤ (w7.alloc (.cells #[.slice A7 m c7] 23)).heap.size := by have := hbb.size; simp; omega))
          | (refine step_append_sl _ eS one_eS (by rfl) (.tmp 11) (.tmp 23) 22 (by rfl) wa.heap.size 23 ix (.slice none 0 0) 24 e1 e2 e3 e4 e5 (by rfl) L t d vs (by rfl) hMo _ 1 1 [(A7, m, c7)] (by rfl) (Sl.one (enc := eS) _ _ (A7, m, c7)) hk1 hk2 hz7 ?_
             intro A9 c9 w9 ho9 hg9 hb9 _
             have hbc := (hbb.alloc hbb.size (.cells #[.slice A7 m c7] 23)).trans hb9
             have s9 := (hbc.cell (p := ⟨bA, oA + t, none⟩) hbA).trans hcellA))
      all_goals
        have hM9 := hM7.snoc HM.out.symm (ho7.mono hzd) ho9 hg9 (by decide)
        have HF := Lib.hid (And.intro hM9 hbc)
        clear hM9 hbc ho9 hg9 hb9 ho7 hb7 hbb hM7 hMo s9 s7 hcell
        go_wp2_with fail
        exact ⟨⟨t + 1, c9, A9, _, by go_num, rfl, by omega, HF.out.1, HF.out.2⟩, by simp [intOf]; omega⟩
    · obtain rfl : n = t := by omega
      have hmo := (OwnR.lit1 wb (-77)).mono (base' := wa.heap.size) hb.size
      have hM1 := hM.below ((Below.refl wb.heap.size wb).alloc (Nat.le_refl _) (.cells #[.int .i64 (-77)] 3))
      have hMo := hM1.out.alloc (.cells #[.slice (some ⟨wb.heap.size, 0, none⟩) 1 1] 23)
      have hlit := Sl.one (enc := eS) (wb.alloc (.cells #[.int .i64 (-77)] 3)) 23 (some ⟨wb.heap.size, 0, none⟩, 1, 1)
      rw [alloc_size] at hlit
      have hz := hb.size
      have hb1 := hb.alloc hz (.cells #[.int .i64 (-77)] 3)
      have HP := Lib.hid (And.intro hM1 (And.intro hb1 hmo))
      clear hM hb hM1 hb1 hmo
      go_wp2_with (first
        | (at_builtin; refine wpList_app _ eiRows eS one_eS rfl _ _ rfl wa.heap.size _ _ _ _ rfl hMo _ _ _ [(some ⟨wb.heap.size, 0, none⟩, 1, 1)] rfl hlit (by omega) (by simp; omega) ?_)
        | fail)
      intro A9 c9 w9 ho9 hg9 hb9 _
      have keep : ∀ {X : Option Addr} {a b : Nat} {ys : List Int}, OwnR (Value.int .i64) (wb.alloc (.cells #[.int .i64 (-77)] 3)) wa.heap.size 3 X a b ys → OwnR (Value.int .i64) w9 wa.heap.size 3 X a b ys := fun {X a b ys} hX =>
        (hX.alloc _).grown hg9 fun g e e2 => hX.kinds HP.out.1.out (by decide) e (HP.out.1.out.ownBlock_eq e2)
      have hLent : Lent w9 wa.heap.size A9 n c9 Ps vs (some ⟨wb.heap.size, 0, none⟩) 1 :=
        ⟨ho9, HP.out.1.out.length, fun i hi => ⟨(HP.out.1.row i hi).1, keep (HP.out.1.row i hi).2⟩, keep HP.out.2.2⟩
      have hcap := ho9.cap
      have hc1 : n ≤ c9 := by omega
      have hb9 := (HP.out.2.1.alloc HP.out.2.1.size _).trans hb9
      have HF := Lib.hid (And.intro hLent hb9)
      obtain ⟨g9, rest9, rfl, _, _, _⟩ := ho9.row (by omega)
      clear hLent hb9 ho9 hg9 hMo hlit keep
      go_wp2_with fail
      go_ret
      exact ⟨_, c9, vs, _, 1, rfl, HF.out.1, HF.out.2⟩
set_option maxRecDepth 100000 in
set_option maxHeartbeats 1600000 in
theorem kept_lent (base : Nat) (A0 A : Option Addr) (n c0 c dm : Nat) (M : Option Addr) (Ps : List (List Int)) (vs : List (Option Addr × Nat × Nat)) (w : World) (hL : Lent w base A n c Ps vs M dm) (h : Rows (Value.int .i64) w A0 n Ps) (hn : n ≤ 14) (hr : ∀ i, i < Ps.length → (nth Ps i).length ≤ 1000) :
    Calls Try.prog 67 #[.slice A n c, .slice A0 n c0] w fun e w' => e = .returned (.bool true) ∧ Below w.heap.size w w' := by
  have hlen := h.len
  obtain ⟨wa, hwa⟩ : ∃ wa : World, wa = w := ⟨_, rfl⟩
  subst hwa
  have HL := Lib.hid (And.intro hlen (And.intro h (And.intro hr hL)))
  have hcap := hL.out.cap
  obtain ⟨gL, restL, rfl, _, hrowL, _⟩ := hL.out.row (by omega)
  have hrl := hrowL.lt
  have HRL := Lib.hid hrowL
  clear hlen h hr hL hrowL
  go_enter Try.func67, Try.ntmps67
  go_wp2_with fail
  go_loopw [5] (fun i wr => ∃ t : Nat, i = .int .i64 (t : Nat) ∧ t ≤ n ∧ Below wa.heap.size wa wr) (fun i _ => n - (intOf i).toNat)
  case atStart => exact ⟨0, rfl, Nat.zero_le _, Below.refl _ _⟩
  case round => as_aux_lemma =>
    obtain ⟨t, rfl, ht, hb⟩ := hrel
    obtain ⟨wb, hwb⟩ : ∃ wb : World, wb = wr := ⟨_, rfl⟩
    subst hwb
    have hvl := HL.out.2.2.2.len
    by_cases hlt : t < n
    · have hti : (t : Int) < (n : Nat) := by omega
      obtain ⟨bA, oA, R, m, dr, rfl, hbA, hcellA, hrow⟩ := HL.out.2.1.row hlt
      have hml := hrow.len
      have hm1 : m ≤ 1000 := by rw [← hml]; exact HL.out.2.2.1 t (by rw [HL.out.1]; exact hlt)
      have hcell := (hb.cell (p := ⟨bA, oA + t, none⟩) hbA).trans hcellA
      have hcl0 := HRL.out.cell (j := t) (by rw [List.length_append, hvl]; simp; omega)
      rw [nth_append_left (by rw [hvl]; exact hlt)] at hcl0
      have hcl := (hb.cell (p := ⟨gL, t, none⟩) hrl).trans hcl0
      obtain ⟨hv1, hv2⟩ := HL.out.2.2.2.row t hlt
      obtain ⟨⟨X, mx, cx⟩, hvt⟩ : ∃ v, nth vs t = v := ⟨_, rfl⟩
      rw [hvt] at hv1 hv2 hcl hcl0
      simp only at hv1 hv2
      rw [hml] at hv1 hv2
      subst hv1
      have hxc := hv2.cap
      have hxc2 : mx ≤ cx := by omega
      replace hcl : wb.cell? ⟨gL, t, none⟩ = some (.slice X mx cx) := hcl
      replace hcl0 : wa.cell? ⟨gL, t, none⟩ = some (.slice X mx cx) := hcl0
      obtain ⟨gX, restX, hXe, _, _, _⟩ := hv2.row (by omega)
      have hXs := hv2.sl (by omega)
      subst hXe
      have hrd : Sl (Value.int .i64) wb.drew R mx (nth Ps t) := (hrow.below (Nat.le_refl _) hb).drewN 1
      have hXd : Sl (Value.int .i64) wb.drew (some ⟨gX, 0, none⟩) (mx + 6) (nth Ps t ++ mark6) := (hXs.below (Nat.le_refl _) hb).drewN 1
      have hbw : Below wa.heap.size wa wb.drew := below_drewN hb 1
      have hzd : wa.heap.size ≤ wb.drew.heap.size := hb.size
      have HB := Lib.hid (And.intro hb hvt)
      clear hb hvt hv2 hrow hXs hml
      have f1 : IntKind.i64.wrap ((mx : Int) + 6) = (mx : Int) + 6 := by rw [IntKind.wrap_i64]; omega
      have f2 : (0 : Int) ≤ (mx : Int) + 6 := by omega
      have f3 : (mx : Int) + 6 ≤ (cx : Nat) := by omega
      have f4 : ((mx : Int) + 6).toNat = mx + 6 := by omega
      go_wp2_with fail
      go_region_held3 (fun w' => w'.cell? ⟨bA, oA + t, none⟩ = some (.slice R mx dr) ∧ w'.cell? ⟨gL, t, none⟩ = some (.slice (some ⟨gX, 0, none⟩) mx cx)) (first | assumption | go_keep)
        (first
          | ((go_at_call 64); (refine (long17_any R mx dr (nth Ps t) _ hrd hm1).mono ?_); (rintro e w7 ⟨A7, c7, rfl, ho7, hb7⟩); (have hbb := hbw.trans (hb7.mono hzd)); (have s7 := (hbb.cell (p := ⟨bA, oA + t, none⟩) hbA).trans hcellA); (have s8 := (hbb.cell (p := ⟨gL, t, none⟩) hrl).trans hcl0); (have hX7 := hXd.below (Nat.le_refl _) hb7); (have ho7s := ho7.sl (by omega)))
          | ((go_at_call 51); (refine (same_ref (some ⟨gX, 0, none⟩) A7 (mx + 6) (mx + 6) _ c7 (nth Ps t ++ mark6) (nth Ps t ++ mark6) _ hX7 ho7s).mono ?_); (rintro e w9 ⟨rfl, tk, rfl⟩); (rw [show decide (nth Ps t ++ mark6 = nth Ps t ++ mark6) = true from decide_eq_true rfl]); (have hbc := below_drewN hbb tk); (have s9 := (hbc.cell (p := ⟨bA, oA + t, none⟩) hbA).trans hcellA); (have s10 := (hbc.cell (p := ⟨gL, t, none⟩) hrl).trans hcl0)))
      all_goals
        have HF := Lib.hid hbc
        clear hbc hbb ho7s hX7 s7 s8 s9 s10 ho7 hb7 hcl hcell
        go_wp2_with fail
        exact ⟨⟨t + 1, by go_num, by omega, HF.out⟩, by simp [intOf]; omega⟩
    · obtain rfl : n = t := by omega
      have hmk := HL.out.2.2.2.mark.sl (by omega)
      have hml := (hmk.below (Nat.le_refl _) hb).at' (by omega)
      obtain ⟨bM, oM, rfl, _, hcM⟩ := hml
      have g2 := hcM 0 (by omega)
      replace g2 : wb.cell? ⟨bM, oM, none⟩ = some (.int .i64 (-77)) := g2
      have hcl0 := HRL.out.cell (j := n) (by rw [List.length_append, hvl]; simp)
      rw [nth_append_right (by rw [hvl]; exact Nat.le_refl _), hvl, Nat.sub_self] at hcl0
      have g1 := (hb.cell (p := ⟨gL, n, none⟩) hrl).trans hcl0
      replace g1 : wb.cell? ⟨gL, n, none⟩ = some (.slice (some ⟨bM, oM, none⟩) 1 dm) := g1
      have HF := Lib.hid hb
      clear hb hcl0 hcM hmk hvl
      go_wp2_with fail
      go_ret
      exact ⟨rfl, HF.out⟩
end Go.Proofs.Ytdlnglffimcopaa
/- credencelaw17.made, walked: it tells true. Conditions: the lists read, few. -/
namespace Go.Proofs.Ytdlnglffimcopaa
open Go.RowKit

/-- points counted from the other end -/
def mir (n : Nat) (x : Int) : Int := wrap64 ((n : Int) - 1 - x)
def mirTo (n : Nat) (l : List Int) (t : Nat) : List Int := (l.take t).map (mir n) ++ l.drop t
theorem mirTo_zero (n : Nat) (l : List Int) : mirTo n l 0 = l := by simp [mirTo]
theorem mirTo_all (n : Nat) (l : List Int) : mirTo n l l.length = l.map (mir n) := by simp [mirTo]
theorem mirTo_length (n : Nat) (l : List Int) (t : Nat) : (mirTo n l t).length = l.length := by
  unfold mirTo
  rw [List.length_append, List.length_map, ← List.length_append, List.take_append_drop]
theorem mirTo_at {n : Nat} {l : List Int} {t : Nat} (h : t < l.length) : nth (mirTo n l t) t = nth l t := by
  unfold mirTo
  have h1 : ((l.take t).map (mir n)).length = t := by simp; omega
  rw [nth_append_right (by rw [h1]; exact Nat.le_refl _), h1, Nat.sub_self, nth_drop]
  rfl
theorem mirTo_succ {n : Nat} {l : List Int} {t : Nat} (h : t < l.length) : (mirTo n l t).set t (mir n (nth l t)) = mirTo n l (t + 1) := by
  unfold mirTo
  have h1 : ((l.take t).map (mir n)).length = t := by simp; omega
  rw [List.set_append_right _ _ (by rw [h1]; exact Nat.le_refl _), h1, Nat.sub_self, List.drop_eq_getElem_cons h, List.set_cons_zero, take_snoc h, List.map_append]
  simp
/-- one number of a row of the call's own, written over -/
theorem OwnR.setAt {α : Type} {enc : α → Value} {w : World} {base : Nat} {e : TypeId} {g n c : Nat} {xs : List α} (h : OwnR enc w base e (some ⟨g, 0, none⟩) n c xs) {j : Nat} (hj : j < n) (v : α) : OwnR enc (w.setCell ⟨g, j, none⟩ (enc v)) base e (some ⟨g, 0, none⟩) n c (xs.set j v) := by
  obtain ⟨g', rest, e1, hb, hr, hc⟩ := h.row (by omega)
  injection e1 with e1
  injection e1 with e1 _ _
  subst e1
  have hl := h.length
  exact h.over (hr.set (by rw [hl]; exact hj) v) (by rw [List.length_set]; exact hl) hc
set_option maxRecDepth 100000 in
set_option maxHeartbeats 3200000 in
theorem made_any (A0 B C : Option Addr) (n c0 m1 d1 m2 d2 what : Nat) (Ps : List (List Int)) (asked given : List Int) (w : World) (h : Rows (Value.int .i64) w A0 n Ps) (ha : Sl (Value.int .i64) w B m1 asked) (hg : Sl (Value.int .i64) w C m2 given)
    (hn : n ≤ 14) (hrow : ∀ i, i < Ps.length → (nth Ps i).length ≤ 1000) (hm1 : m1 ≤ 100) (hm2 : m2 ≤ 100) (hw : what < 5) :
    Calls Try.prog 31 #[.int .i64 (what : Int), .slice A0 n c0, .slice B m1 d1, .slice C m2 d2] w fun e w' => e = .returned (.bool true) ∧ Below w.heap.size w w' := by
  have hlen := h.len
  obtain ⟨wa, hwa⟩ : ∃ wa : World, wa = w := ⟨_, rfl⟩
  subst hwa
  have HL := Lib.hid (And.intro hlen (And.intro h (And.intro ha (And.intro hg (And.intro hrow (And.intro ha.len hg.len))))))
  clear hlen hrow
  go_enter Try.func31, Try.ntmps31
  go_wp2_with fail
  refine (told17_any A0 B C n c0 m1 d1 m2 d2 what Ps asked given _ h ha hg hn HL.out.2.2.2.2.1 (by omega) (by omega) hw).mono ?_
  rintro e w1 ⟨hb1, W, kW, dW, rfl, hW⟩
  have h1 := h.below (Nat.le_refl _) hb1
  have hz1 := hb1.size
  have HW := Lib.hid (And.intro hW hb1)
  clear h ha hg hW hb1
  generalize haeq : aboveE Ps (asked ++ given) = ae at *
  have HAE := Lib.hid haeq
  clear haeq
  go_wp2_with fail
  refine (lent_any A0 n c0 Ps _ h1 hn HL.out.2.2.2.2.1).mono ?_
  rintro e w2 ⟨A, c, vs, M, dm, rfl, hL, hb2⟩
  have hba2 := HW.out.2.trans (hb2.mono hz1)
  have hz2 := hba2.size
  have ha2 := HL.out.2.2.1.below (Nat.le_refl _) hba2
  have H2 := Lib.hid (And.intro hL (And.intro hb2 hba2))
  clear h1 hL hb2 hba2
  go_wp2_with fail
  refine (long17_any B m1 d1 asked _ ha2 (by omega)).mono ?_
  rintro e w3 ⟨P, cP, rfl, hP, hb3⟩
  have hcP := hP.cap
  have hcP2 : m1 ≤ cP := by omega
  obtain ⟨gP, restP, rfl, hgP, hrP, _⟩ := hP.row (by omega)
  have hgPl := hrP.lt
  have hba3 := H2.out.2.2.trans (hb3.mono hz2)
  have hg3 := HL.out.2.2.2.1.below (Nat.le_refl _) hba3
  have hz3 := hb3.size
  have H3 := Lib.hid (And.intro hP (And.intro hb3 hba3))
  clear ha2 hP hb3 hba3 hrP
  go_wp2_with fail
  refine (long17_any C m2 d2 given _ hg3 (by omega)).mono ?_
  rintro e w4 ⟨Q, cQ, rfl, hQ, hb4⟩
  have hcQ := hQ.cap
  have hcQ2 : m2 ≤ cQ := by omega
  obtain ⟨gQ, restQ, rfl, hgQ, hrQ, _⟩ := hQ.row (by omega)
  have hgQl := hrQ.lt
  have hz4 := hb4.size
  have H4 := Lib.hid (And.intro hQ hb4)
  have hP4 := H3.out.1.below (Nat.le_refl _) hb4
  have hL4 := (H2.out.1.below H3.out.2.1).below hb4
  have hR4 := hL4.rows HL.out.1 (by omega) (fun i hi => HL.out.2.2.2.2.1 i (by rw [HL.out.1]; exact hi))
  have ha4 := OwnR.pre (ys := mark6) hP4 HL.out.2.2.2.2.2.1 (by omega)
  have hg4 := OwnR.pre (ys := mark6) hQ HL.out.2.2.2.2.2.2 (by omega)
  clear hg3 hQ hb4 hrQ
  have H5 := Lib.hid (And.intro hP4 (And.intro hL4 (And.intro hR4 (And.intro ha4 hg4))))
  clear hP4 hL4
  go_wp2_with fail
  refine (call17_any A (some ⟨gP, 0, none⟩) (some ⟨gQ, 0, none⟩) n c m1 cP m2 cQ what Ps asked given _ hR4 ha4 hg4 hn HL.out.2.2.2.2.1 (by omega) (by omega) hw).mono ?_
  rintro e w5 ⟨hb5, O1, k1, e1, rfl, hO1⟩
  rw [HAE.out]
  have hz5 := hb5.size
  have hR5 := hR4.below (Nat.le_refl _) hb5
  have ha5 := ha4.below (Nat.le_refl _) hb5
  have hg5 := hg4.below (Nat.le_refl _) hb5
  have H6 := Lib.hid (And.intro hb5 hO1)
  clear hR4 ha4 hg4 hb5 hO1
  go_wp2_with fail
  refine (call17_any A (some ⟨gP, 0, none⟩) (some ⟨gQ, 0, none⟩) n c m1 cP m2 cQ what Ps asked given _ hR5 ha5 hg5 hn HL.out.2.2.2.2.1 (by omega) (by omega) hw).mono ?_
  rintro e w6 ⟨hb6, O2, k2, e2, rfl, hO2⟩
  rw [HAE.out]
  have hz6 := hb6.size
  have hR6 := hR5.below (Nat.le_refl _) hb6
  have ha6 := ha5.below (Nat.le_refl _) hb6
  have hg6 := hg5.below (Nat.le_refl _) hb6
  have H7 := Lib.hid (And.intro hb6 hO2)
  clear hR5 ha5 hg5 hb6 hO2
  go_wp2_with fail
  refine (call17_any A (some ⟨gP, 0, none⟩) (some ⟨gQ, 0, none⟩) n c m1 cP m2 cQ what Ps asked given _ hR6 ha6 hg6 hn HL.out.2.2.2.2.1 (by omega) (by omega) hw).mono ?_
  rintro e w7 ⟨hb7, O3, k3, e3, rfl, hO3⟩
  rw [HAE.out]
  have hz7 := hb7.size
  have hacl := ansC_length Ps asked given what
  have hk1 := H6.out.2.length
  have hk2 := H7.out.2.length
  have hk3 := hO3.length
  have hPl := HL.out.1
  have hO17 := (H6.out.2.below (Nat.le_refl _) H7.out.1).below (Nat.le_refl _) hb7
  have hO27 := H7.out.2.below (Nat.le_refl _) hb7
  have hb47 : Below w4.heap.size w4 w7 := H6.out.1.trans ((H7.out.1.trans (hb7.mono hz6)).mono hz5)
  have hb17 : Below w1.heap.size w1 w7 := H2.out.2.1.trans (((H3.out.2.1.trans ((H4.out.2.trans (hb47.mono hz4)).mono hz3))).mono H2.out.2.1.size)
  have hWs := HW.out.1.below (Nat.le_refl _) hb17
  have hkW := hWs.length
  have hs1 := hO17.sl (by omega)
  have hs2 := hO27.sl (by omega)
  have hs3 := hO3.sl (by omega)
  have hsW := hWs.sl (by omega)
  have hO1b : ∀ b, O1 = some ⟨b, 0, none⟩ → w4.heap.size ≤ b ∧ b < w5.heap.size := fun b e => by
    rcases H6.out.2.at_row with h1 | ⟨g', h1, h2, h3⟩
    · rw [e] at h1; cases h1
    · rw [e] at h1; injection h1 with h1; injection h1 with h1; omega
  have hO2b : ∀ b, O2 = some ⟨b, 0, none⟩ → w5.heap.size ≤ b ∧ b < w6.heap.size := fun b e => by
    rcases H7.out.2.at_row with h1 | ⟨g', h1, h2, h3⟩
    · rw [e] at h1; cases h1
    · rw [e] at h1; injection h1 with h1; injection h1 with h1; omega
  have hO3b : ∀ b, O3 = some ⟨b, 0, none⟩ → w6.heap.size ≤ b := fun b e => by
    rcases hO3.at_row with h1 | ⟨g', h1, h2, h3⟩
    · rw [e] at h1; cases h1
    · rw [e] at h1; injection h1 with h1; injection h1 with h1; omega
  have H8 := Lib.hid (And.intro hb47 (And.intro hO17 (And.intro hO27 (And.intro hO3 (And.intro hO1b (And.intro hO2b hO3b))))))
  have H9 := Lib.hid (And.intro hWs (And.intro hk1 (And.intro hk2 (And.intro hk3 hkW))))
  have hkb : k1 ≤ 14 ∧ k2 ≤ 14 ∧ k3 ≤ 14 ∧ kW ≤ 14 := by omega
  obtain ⟨hkb1, hkb2, hkb3, hkbW⟩ := hkb
  clear hR6 ha6 hg6 hb7 hO3 hO17 hO27 hb47 hb17 hWs hO1b hO2b hO3b hk1 hk2 hk3 hkW hacl
  go_wp2_with fail
  refine (same_ref O1 W k1 kW e1 dW _ _ _ hs1 hsW).mono ?_
  rintro e w8 ⟨rfl, t1, rfl⟩
  rw [show decide (ansC Ps asked given what = ansC Ps asked given what) = true from decide_eq_true rfl]
  have hb78 : Below w7.heap.size w7 (w7.drewN t1) := below_refl_drewN _ w7 t1
  have hs2 := hs2.drewN t1
  have hs3 := hs3.drewN t1
  have hsW := hsW.drewN t1
  clear hs1
  generalize w7.drewN t1 = x1 at *
  have HS := Lib.hid hb78
  clear hb78
  go_wp2_with fail
  refine (same_ref O2 W k2 kW e2 dW _ _ _ hs2 hsW).mono ?_
  rintro e w8 ⟨rfl, t2, rfl⟩
  rw [show decide (ansC Ps asked given what = ansC Ps asked given what) = true from decide_eq_true rfl]
  have hb78 := below_drewN HS.out t2
  have hs3 := hs3.drewN t2
  have hsW := hsW.drewN t2
  clear hs2 HS
  generalize x1.drewN t2 = x2 at *
  have HS := Lib.hid hb78
  clear hb78
  go_wp2_with fail
  refine (same_ref O3 W k3 kW e3 dW _ _ _ hs3 hsW).mono ?_
  rintro e w8 ⟨rfl, t3, rfl⟩
  rw [show decide (ansC Ps asked given what = ansC Ps asked given what) = true from decide_eq_true rfl]
  have hb78 := below_drewN HS.out t3
  clear hs3 hsW HS
  generalize x2.drewN t3 = w8 at *
  have hz8 := hb78.size
  have hO18 := H8.out.2.1.below (Nat.le_refl _) hb78
  have hO28 := H8.out.2.2.1.below (Nat.le_refl _) hb78
  have hO38 := H8.out.2.2.2.1.below (Nat.le_refl _) hb78
  have hb48 := H8.out.1.trans (hb78.mono H8.out.1.size)
  have HA := Lib.hid (And.intro hO28 (And.intro hO38 hb48))
  clear hO28 hO38 hb48 hb78
  go_wp2_with fail
  refine (spoilt17_any w4.heap.size O1 k1 e1 _ (-1) _ hO18 (by omega) (by omega)).mono ?_
  rintro e w9 ⟨rfl, hg9⟩
  have hob1 : ∀ b, (Value.slice O1 k1 e1).ownBlock = some b → w4.heap.size ≤ b ∧ b < w5.heap.size := fun b e => H8.out.2.2.2.2.1 b (hO18.ownBlock_eq e)
  have hO29 := HA.out.1.grown hg9 (fun g e e2 => by have := H8.out.2.2.2.2.2.1 g e; have := hob1 g e2; omega)
  have hO39 := HA.out.2.1.grown hg9 (fun g e e2 => by have := H8.out.2.2.2.2.2.2 g e; have := hob1 g e2; omega)
  have hb49 := HA.out.2.2.grown hg9 (by omega) (fun g e => (hob1 g e).1)
  have hz9 := hg9.size
  have HA := Lib.hid (And.intro hO29 hb49)
  clear hO18 hg9 hob1 hO29 hb49
  go_wp2_with fail
  refine (spoilt17_any w6.heap.size O3 k3 e3 _ (-2) _ hO39 (by omega) (by omega)).mono ?_
  rintro e w10 ⟨rfl, hg10⟩
  have hob3 : ∀ b, (Value.slice O3 k3 e3).ownBlock = some b → w6.heap.size ≤ b := fun b e => H8.out.2.2.2.2.2.2 b (hO39.ownBlock_eq e)
  have hO2 := HA.out.1.grown hg10 (fun g e e2 => by have := H8.out.2.2.2.2.2.1 g e; have := hob3 g e2; omega)
  have hb4A := HA.out.2.grown hg10 (by omega) (fun g e => by have := hob3 g e; omega)
  have hzA := hg10.size
  clear hO39 hg10 hob3 HA
  -- all that must have stayed
  have hW4 := HW.out.1.below (Nat.le_refl _) (H2.out.2.1.trans ((H3.out.2.1.trans (H4.out.2.mono hz3)).mono H2.out.2.1.size))
  have hWA := hW4.below (Nat.le_refl _) hb4A
  have hkW := hWA.length
  have hacl := ansC_length Ps asked given what
  have hLA := H5.out.2.1.below hb4A
  have hPA := H5.out.1.below (Nat.le_refl _) hb4A
  have hQA := H4.out.1.below (Nat.le_refl _) hb4A
  have hba4 := H3.out.2.2.trans (H4.out.2.mono (by have := H3.out.2.2.size; omega))
  have hbaA := hba4.trans (hb4A.mono hba4.size)
  have hzaA := hbaA.size
  have hs2 := hO2.sl (by omega)
  have hsW := hWA.sl (by omega)
  have HB := Lib.hid (And.intro hWA (And.intro hLA (And.intro hPA (And.intro hQA (And.intro hbaA hO2)))))
  clear hW4 hWA hLA hPA hQA hba4 hbaA hO2 hkW hacl
  go_wp2_with fail
  refine (same_ref O2 W k2 kW e2 dW _ _ _ hs2 hsW).mono ?_
  rintro e w11 ⟨rfl, t4, rfl⟩
  rw [show decide (ansC Ps asked given what = ansC Ps asked given what) = true from decide_eq_true rfl]
  have hbB : Below w10.heap.size w10 (w10.drewN t4) := below_refl_drewN _ _ _
  generalize w10.drewN t4 = w11 at *
  have hL11 := HB.out.2.1.below hbB
  have h11 := HL.out.2.1.below (Nat.le_refl _) (HB.out.2.2.2.2.1.trans (hbB.mono hzaA))
  have HC := Lib.hid hbB
  have hzB := hbB.size
  clear hs2 hsW hbB
  go_wp2_with fail
  refine (kept_lent w1.heap.size A0 A n c0 c dm M Ps vs _ hL11 h11 hn HL.out.2.2.2.2.1).mono ?_
  rintro e w12 ⟨rfl, hb12⟩
  have hbC := HC.out.trans (hb12.mono hzB)
  have hzC := hbC.size
  have ha12 := HL.out.2.2.1.below (Nat.le_refl _) (HB.out.2.2.2.2.1.trans (hbC.mono hzaA))
  have HC := Lib.hid hbC
  clear hL11 h11 hb12 hbC
  go_wp2_with fail
  refine (long17_any B m1 d1 asked _ ha12 (by omega)).mono ?_
  rintro e w13 ⟨X, cX, rfl, hX, hb13⟩
  have hbD := HC.out.trans (hb13.mono hzC)
  have hzD := hbD.size
  have hXs := hX.sl (by omega)
  have hP13 := (HB.out.2.2.1.below (Nat.le_refl _) hbD).sl (by omega)
  have HC := Lib.hid hbD
  clear ha12 hX hb13 hbD
  go_wp2_with fail
  refine (same_ref (some ⟨gP, 0, none⟩) X (m1 + 6) (m1 + 6) cP cX _ _ _ hP13 hXs).mono ?_
  rintro e w14 ⟨rfl, t5, rfl⟩
  rw [show decide (asked ++ mark6 = asked ++ mark6) = true from decide_eq_true rfl]
  have hbE := below_drewN HC.out t5
  clear hP13 hXs
  generalize w13.drewN t5 = w14 at *
  have hzE := hbE.size
  have hg14 := HL.out.2.2.2.1.below (Nat.le_refl _) (HB.out.2.2.2.2.1.trans (hbE.mono hzaA))
  have HC := Lib.hid hbE
  clear hbE
  go_wp2_with fail
  refine (long17_any C m2 d2 given _ hg14 (by omega)).mono ?_
  rintro e w15 ⟨Y, cY, rfl, hY, hb15⟩
  have hbF := HC.out.trans (hb15.mono hzE)
  have hzF := hbF.size
  have hYs := hY.sl (by omega)
  have hQ15 := (HB.out.2.2.2.1.below (Nat.le_refl _) hbF).sl (by omega)
  have HC := Lib.hid hbF
  clear hg14 hY hb15 hbF
  go_wp2_with fail
  refine (same_ref (some ⟨gQ, 0, none⟩) Y (m2 + 6) (m2 + 6) cQ cY _ _ _ hQ15 hYs).mono ?_
  rintro e w16 ⟨rfl, t6, rfl⟩
  rw [show decide (given ++ mark6 = given ++ mark6) = true from decide_eq_true rfl]
  have hbG := below_drewN HC.out t6
  clear hQ15 hYs HC
  generalize w15.drewN t6 = w16 at *
  have hzG := hbG.size
  -- the lists are written over
  have hP16 := HB.out.2.2.1.below (Nat.le_refl _) hbG
  have hQ16 := HB.out.2.2.2.1.below (Nat.le_refl _) hbG
  have hO16 := HB.out.2.2.2.2.2.below (Nat.le_refl _) hbG
  have hba16 := HB.out.2.2.2.2.1.trans (hbG.mono hzaA)
  have hb216 : Below w2.heap.size w2 w16 := H3.out.2.1.trans ((H4.out.2.trans ((hb4A.trans (hbG.mono (by omega))).mono hz4)).mono hz3)
  have HD := Lib.hid (And.intro hP16 (And.intro hQ16 (And.intro hO16 (And.intro hba16 hb216))))
  clear hP16 hQ16 hO16 hba16 hb216 hbG hb4A HB
  go_wp2_with fail
  go_loopw [24] (fun i wr => ∃ t : Nat, i = .int .i64 (t : Nat) ∧ t ≤ m1 ∧ OwnR (Value.int .i64) wr w2.heap.size 3 (some ⟨gP, 0, none⟩) (m1 + 6) cP (mirTo n asked t ++ mark6) ∧ OwnR (Value.int .i64) wr w3.heap.size 3 (some ⟨gQ, 0, none⟩) (m2 + 6) cQ (given ++ mark6) ∧ OwnR (Value.int .i64) wr w5.heap.size 3 O2 k2 e2 (ansC Ps asked given what) ∧ Below wa.heap.size wa wr ∧ Below w2.heap.size w2 wr) (fun i _ => m1 - (intOf i).toNat)
  case atStart => exact ⟨0, rfl, Nat.zero_le _, by rw [mirTo_zero]; exact HD.out.1, HD.out.2.1, HD.out.2.2.1, HD.out.2.2.2.1, HD.out.2.2.2.2⟩
  case round => as_aux_lemma =>
    obtain ⟨t, rfl, ht, hP, hQ, hO, hba, hb2⟩ := hrel
    obtain ⟨wb, hwb⟩ : ∃ wb : World, wb = wr := ⟨_, rfl⟩
    subst hwb
    have hll : asked.length = m1 := HL.out.2.2.2.2.2.1
    by_cases hlt : t < m1
    · have hti : (t : Int) < (m1 : Nat) := by omega
      obtain ⟨g', rest', e, _, hr', _⟩ := hP.row (by omega)
      injection e with e
      injection e with e _ _
      subst e
      have hml := mirTo_length n asked t
      have g1 := hr'.cell (j := t) (by rw [List.length_append, hml, hll]; omega)
      rw [nth_append_left (by rw [hml, hll]; exact hlt), mirTo_at (by rw [hll]; exact hlt)] at g1
      have f1 := hr'.frozen t
      have hsu := mirTo_succ (n := n) (l := asked) (t := t) (by rw [hll]; exact hlt)
      obtain ⟨x, hx⟩ : ∃ x, x = nth asked t := ⟨_, rfl⟩
      rw [← hx] at g1 hsu
      have hgl := hr'.lt
      have hset := hP.setAt (j := t) (by omega) (mir n x)
      rw [List.set_append_left _ _ (by rw [hml, hll]; exact hlt), hsu] at hset
      have hoth := hQ.setFar (p := ⟨gP, t, none⟩) (fun g e => by injection e with e; injection e with e _ _; show g ≠ gP; omega) (Value.int .i64 (mir n x))
      have hO2 := hO.setFar (p := ⟨gP, t, none⟩) (fun g e => by have := H8.out.2.2.2.2.2.1 g e; show g ≠ gP; omega) (Value.int .i64 (mir n x))
      have hba2 := hba.setCell (p := ⟨gP, t, none⟩) (by show wa.heap.size ≤ gP; omega) (Value.int .i64 (mir n x))
      have hb22 := hb2.setCell (p := ⟨gP, t, none⟩) (by show w2.heap.size ≤ gP; omega) (Value.int .i64 (mir n x))
      have HF := Lib.hid (And.intro hset (And.intro hoth (And.intro hO2 (And.intro hba2 hb22))))
      clear hset hoth hO2 hba2 hb22 hP hQ hO hba hb2 hr' hsu hx hml hll
      go_wp2_with fail
      exact ⟨⟨t + 1, by go_num, by omega, HF.out.1, HF.out.2.1, HF.out.2.2.1, HF.out.2.2.2.1, HF.out.2.2.2.2⟩, by simp [intOf]; omega⟩
    · obtain rfl : m1 = t := by omega
      have hm := mirTo_all n asked
      rw [hll] at hm
      rw [hm] at hP
      have HD := Lib.hid (And.intro hP (And.intro hQ (And.intro hO (And.intro hba hb2))))
      clear hP hQ hO hba hb2 hm hll
      go_wp2_with fail
      go_loopw [25] (fun i wr => ∃ t : Nat, i = .int .i64 (t : Nat) ∧ t ≤ m2 ∧ OwnR (Value.int .i64) wr w2.heap.size 3 (some ⟨gP, 0, none⟩) (m1 + 6) cP (asked.map (mir n) ++ mark6) ∧ OwnR (Value.int .i64) wr w3.heap.size 3 (some ⟨gQ, 0, none⟩) (m2 + 6) cQ (mirTo n given t ++ mark6) ∧ OwnR (Value.int .i64) wr w5.heap.size 3 O2 k2 e2 (ansC Ps asked given what) ∧ Below wa.heap.size wa wr ∧ Below w2.heap.size w2 wr) (fun i _ => m2 - (intOf i).toNat)
      case atStart => exact ⟨0, rfl, Nat.zero_le _, HD.out.1, by rw [mirTo_zero]; exact HD.out.2.1, HD.out.2.2.1, HD.out.2.2.2.1, HD.out.2.2.2.2⟩
      case round => as_aux_lemma =>
        obtain ⟨t, rfl, ht, hP, hQ, hO, hba, hb2⟩ := hrel
        obtain ⟨wb, hwb⟩ : ∃ wb : World, wb = wr := ⟨_, rfl⟩
        subst hwb
        have hll : given.length = m2 := HL.out.2.2.2.2.2.2
        by_cases hlt : t < m2
        · have hti : (t : Int) < (m2 : Nat) := by omega
          obtain ⟨g', rest', e, _, hr', _⟩ := hQ.row (by omega)
          injection e with e
          injection e with e _ _
          subst e
          have hml := mirTo_length n given t
          have g1 := hr'.cell (j := t) (by rw [List.length_append, hml, hll]; omega)
          rw [nth_append_left (by rw [hml, hll]; exact hlt), mirTo_at (by rw [hll]; exact hlt)] at g1
          have f1 := hr'.frozen t
          have hsu := mirTo_succ (n := n) (l := given) (t := t) (by rw [hll]; exact hlt)
          obtain ⟨x, hx⟩ : ∃ x, x = nth given t := ⟨_, rfl⟩
          rw [← hx] at g1 hsu
          have hgl := hr'.lt
          have hset := hQ.setAt (j := t) (by omega) (mir n x)
          rw [List.set_append_left _ _ (by rw [hml, hll]; exact hlt), hsu] at hset
          have hoth := hP.setFar (p := ⟨gQ, t, none⟩) (fun g e => by injection e with e; injection e with e _ _; show g ≠ gQ; omega) (Value.int .i64 (mir n x))
          have hO2 := hO.setFar (p := ⟨gQ, t, none⟩) (fun g e => by have := H8.out.2.2.2.2.2.1 g e; show g ≠ gQ; omega) (Value.int .i64 (mir n x))
          have hba2 := hba.setCell (p := ⟨gQ, t, none⟩) (by show wa.heap.size ≤ gQ; omega) (Value.int .i64 (mir n x))
          have hb22 := hb2.setCell (p := ⟨gQ, t, none⟩) (by show w2.heap.size ≤ gQ; omega) (Value.int .i64 (mir n x))
          have HF := Lib.hid (And.intro hset (And.intro hoth (And.intro hO2 (And.intro hba2 hb22))))
          clear hset hoth hO2 hba2 hb22 hP hQ hO hba hb2 hr' hsu hx hml hll
          go_wp2_with fail
          exact ⟨⟨t + 1, by go_num, by omega, HF.out.2.1, HF.out.1, HF.out.2.2.1, HF.out.2.2.2.1, HF.out.2.2.2.2⟩, by simp [intOf]; omega⟩
        · obtain rfl : m2 = t := by omega
          have hm := mirTo_all n given
          rw [hll] at hm
          rw [hm] at hQ
          have hAl : (asked.map (mir n)).length = m1 := by rw [List.length_map]; exact HL.out.2.2.2.2.2.1
          have hGl : (given.map (mir n)).length = m2 := by rw [List.length_map]; exact HL.out.2.2.2.2.2.2
          have hPs := OwnR.pre (ys := mark6) hP hAl (by omega)
          have hzb := hba.size
          have hemp : OwnR (Value.int .i64) wb wb.heap.size 3 none 0 0 ([] : List Int) := OwnR.nil _ _ _ _
          have HE := Lib.hid (And.intro hP (And.intro hQ (And.intro hO (And.intro hba (And.intro hb2 (And.intro hAl hGl))))))
          clear hP hQ hO hba hb2 hm hll hAl hGl
          generalize asked.map (mir n) = asked' at *
          generalize given.map (mir n) = given' at *
          go_wp2_with (first
            | (at_builtin; (with_reducible refine wpList_app _ eiInt (Value.int .i64) (fun _ => rfl) rfl _ _ rfl wb.heap.size _ _ _ _ rfl hemp _ _ _ _ rfl hPs (by omega) (Nat.le_refl _) ?_))
            | fail)
          intro A7 c7 w17 ho7 _ hb17 _
          try simp only [Nat.zero_add, List.nil_append] at ho7
          try simp only [Nat.zero_add]
          have hz17 := hb17.size
          have hQs := OwnR.pre (ys := mark6) (HE.out.2.1.below (Nat.le_refl _) hb17) HE.out.2.2.2.2.2.2 (by omega)
          have hemp2 : OwnR (Value.int .i64) w17 w17.heap.size 3 none 0 0 ([] : List Int) := OwnR.nil _ _ _ _
          have HC := Lib.hid hb17
          have hXs := ho7.sl (by omega)
          clear hb17 hemp hPs ho7
          go_wp2_with (first
            | (at_builtin; (with_reducible refine wpList_app _ eiInt (Value.int .i64) (fun _ => rfl) rfl _ _ rfl w17.heap.size _ _ _ _ rfl hemp2 _ _ _ _ rfl hQs (by omega) (Nat.le_refl _) ?_))
            | fail)
          intro A8 c8 w18 ho8 _ hb18 _
          try simp only [Nat.zero_add, List.nil_append] at ho8
          try simp only [Nat.zero_add]
          have hb18b := HC.out.trans (hb18.mono hz17)
          have hz18 := hb18b.size
          have hXs := hXs.below (Nat.le_refl _) hb18
          have hYs := ho8.sl (by omega)
          have hba18 := HE.out.2.2.2.1.trans (hb18b.mono hzb)
          have h18 := HL.out.2.1.below (Nat.le_refl _) hba18
          have HC := Lib.hid hb18b
          clear hb18 hb18b hQs hemp2 ho8 hba18
          go_wp2_with fail
          refine (told17_any A0 A7 A8 n c0 m1 c7 m2 c8 what Ps asked' given' _ h18 hXs hYs hn HL.out.2.2.2.2.1 (by omega) (by omega) hw).mono ?_
          rintro e w19 ⟨hb19, T, kT, dT, rfl, hT⟩
          have hb19b := HC.out.trans (hb19.mono hz18)
          have hz19 := hb19b.size
          have hzw : wb.heap.size ≤ w19.heap.size := hz19
          have h2b : w2.heap.size ≤ wb.heap.size := HE.out.2.2.2.2.1.size
          have hb2w := HE.out.2.2.2.2.1.trans (hb19b.mono h2b)
          have hL19 := H2.out.1.below hb2w
          have hR19 := hL19.rows HL.out.1 (by omega) (fun i hi => HL.out.2.2.2.2.1 i (by rw [HL.out.1]; exact hi))
          have ha19 := OwnR.pre (ys := mark6) (HE.out.1.below (Nat.le_refl _) hb19b) HE.out.2.2.2.2.2.1 (by omega)
          have hg19 := OwnR.pre (ys := mark6) (HE.out.2.1.below (Nat.le_refl _) hb19b) HE.out.2.2.2.2.2.2 (by omega)
          have HC := Lib.hid (And.intro hb19b (And.intro hT hb2w))
          clear h18 hXs hYs hb19 hb19b hT hL19 hb2w
          generalize hae2 : aboveE Ps (asked' ++ given') = ae2 at *
          have HAE2 := Lib.hid hae2
          clear hae2
          go_wp2_with fail
          refine (call17_any A (some ⟨gP, 0, none⟩) (some ⟨gQ, 0, none⟩) n c m1 cP m2 cQ what Ps asked' given' _ hR19 ha19 hg19 hn HL.out.2.2.2.2.1 (by omega) (by omega) hw).mono ?_
          rintro e w20 ⟨hb20, O4, k4, e4, rfl, hO4⟩
          rw [HAE2.out]
          have hT20 := HC.out.2.1.below (Nat.le_refl _) hb20
          have hbw := HC.out.1.trans (hb20.mono hzw)
          have hzx := hbw.size
          have hO20 := HE.out.2.2.1.below (Nat.le_refl _) hbw
          have hW20 := (HW.out.1.below (Nat.le_refl _) H2.out.2.1).below (Nat.le_refl _) (HC.out.2.2.trans (hb20.mono (by omega)))
          have hkT := hT20.length
          have hk4 := hO4.length
          have hkW := hW20.length
          have hc1 := ansC_length Ps asked' given' what
          have hc2 := ansC_length Ps asked given what
          have hPl := HL.out.1
          have hTs := hT20.sl (by omega)
          have hO4s := hO4.sl (by omega)
          have hO2s := hO20.sl (by omega)
          have hWs := hW20.sl (by omega)
          have hfin := HE.out.2.2.2.1.trans (hbw.mono hzb)
          have HG := Lib.hid (And.intro hO2s (And.intro hWs hfin))
          clear hR19 ha19 hg19 hb20 hO4 hT20 hbw hO20 hW20 hkT hk4 hkW hc1 hc2 hO2s hWs hfin
          go_wp2_with fail
          refine (same_ref O4 T k4 kT e4 dT _ _ _ hO4s hTs).mono ?_
          rintro e w21 ⟨rfl, t7, rfl⟩
          rw [show decide (ansC Ps asked' given' what = ansC Ps asked' given' what) = true from decide_eq_true rfl]
          have hO2s := HG.out.1.drewN t7
          have hWs := HG.out.2.1.drewN t7
          have hfin := below_drewN HG.out.2.2 t7
          clear hO4s hTs
          generalize w20.drewN t7 = w21 at *
          have HG := Lib.hid hfin
          clear hfin
          go_wp2_with fail
          refine (same_ref O2 W k2 kW e2 dW _ _ _ hO2s hWs).mono ?_
          rintro e w22 ⟨rfl, t8, rfl⟩
          rw [show decide (ansC Ps asked given what = ansC Ps asked given what) = true from decide_eq_true rfl]
          have HF := Lib.hid (below_drewN HG.out t8)
          clear hO2s hWs
          go_wp2_with fail
          go_ret
          exact ⟨rfl, HF.out⟩
end Go.Proofs.Ytdlnglffimcopaa
