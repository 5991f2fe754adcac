/- factor.Map[int,string] with FactorMap's own function, walked. Conditions: the lists read, within Go's bound; what the function captured is the call's own. -/
import Derived.Test.YtgmchedfgdgenaaMapClo
import Derived.Test.YtgmchedfgdgenaaCheck
import Derived.Test.YtgmchedfgdgenaaSl1I
import Derived.Test.YtgmchedfgdgenaaRoomyS
import Derived.Test.YtgmchedfgdgenaaLast
namespace Go.Proofs.Ytgmchedfgdgenaa
open Go.RowKit

theorem prodC_le (l : List Int) : ∀ n, prodC l = some n → n ≤ 2147483647 := by
  have h : ∀ k, k ≤ l.length → ∀ n, prodC (l.take k) = some n → n ≤ 2147483647 := by
    intro k
    induction k with
    | zero => intro _ n h; simp [prodC] at h; omega
    | succ k ih =>
      intro hk n h
      rw [take_snoc hk, prodC_snoc] at h
      rcases hp : prodC (l.take k) with _ | a
      · rw [hp] at h; cases h
      · rw [hp] at h
        simp only [Option.bind_some] at h
        by_cases hq : 2147483647 < a * nth l k
        · rw [if_pos hq] at h; cases h
        · rw [if_neg hq] at h; injection h with h; omega
  intro n hn
  exact h l.length (Nat.le_refl _) n (by rw [List.take_length]; exact hn)
theorem cntC_le (l : List Int) : (cntC l).1 ≤ 2147483647 := by
  unfold cntC
  split
  · simp
  · split
    · simp
    · rcases h : prodC l with _ | n
      · simp
      · exact prodC_le l n h
theorem checkC_zero {S Z : List Int} {m : Int} (h : checkC S Z m = 0) : m ≤ 2147483647 ∧ S.length = Z.length := by
  unfold checkC at h
  split at h
  · cases h
  · rename_i h1
    split at h
    · cases h
    · split at h
      · rename_i h2; exact absurd h h2
      · split at h
        · cases h
        · rename_i h2
          have := cntC_le Z
          simp at h1 h2
          omega
/-- the digits of 1, 2, .. -/
def digL (n : Nat) : List ByteArray := (List.range n).map fun i => digT (i + 1)
theorem digL_succ (n : Nat) : digL (n + 1) = digL n ++ [digT (n + 1)] := by unfold digL; rw [List.range_succ, List.map_append]; rfl
theorem digL_length (n : Nat) : (digL n).length = n := by simp [digL]
def MapPost (s : Nat) (S Z L : List Int) (w : World) (e : Ending) (w' : World) : Prop :=
  (checkC S Z L.length ≠ 0 ∧ e = .returned (.tuple #[.agg #[.slice none 0 0, .slice none 0 0, .slice none 0 0], .int .i64 (checkC S Z L.length)]) ∧ Below w.heap.size w w') ∨
  (checkC S Z L.length = 0 ∧ ∃ A c B d C k V v, e = .returned (.tuple #[.agg #[.slice A S.length c, .slice B Z.length d, .slice C L.length k], .int .i64 0]) ∧
    Trio (Value.int .i64) (Value.int .i64) Value.string w' w.heap.size 3 3 9 A S.length c S B Z.length d Z C L.length k (digL L.length) ∧ Seen w' w.heap.size s V L.length v L ∧ Turn w w' (fun x => x = s))
/-- between the clones and the loop -/
structure MapSt (s q : Nat) (A1 A2 A3 A B : Option Addr) (n1 c1 n2 c2 n3 c3 c d : Nat) (S Z L : List Int) (w wx : World) : Prop where
  bel : Below w.heap.size w wx
  pb : RowC wx w.heap.size 24 [.slice A1 n1 c1, .slice A2 n2 c2, .slice A3 n3 c3]
  rb : RowC wx (w.heap.size + 1) 33 [.slice none 0 0, .slice none 0 0, .slice none 0 0]
  cells : Sl (Value.int .i64) wx A3 n3 L
  seen : RowC wx s 22 [.slice none 0 0]
  out : RowC wx q 33 [.slice A n1 c, .slice B n2 d, .slice none 0 0]
  tr : Trio (Value.int .i64) (Value.int .i64) Value.string wx w.heap.size 3 3 9 A n1 c S B n2 d Z none 0 0 []
  lt : w.heap.size + 1 < q
theorem Turn.cell {a b : World} {S : Nat → Prop} (h : Turn a b S) {g o : Nat} (hg : g < a.heap.size) (hS : ¬ S g) : b.cell? ⟨g, o, none⟩ = a.cell? ⟨g, o, none⟩ := by
  simp only [World.cell?, h.block g hg hS]
theorem Sl.not_row {w : World} {b off n g : Nat} {xs : List Int} {e : TypeId} {cs : List Value} (h : Sl (Value.int .i64) w (some ⟨b, off, none⟩) n xs) (hn : 0 < n) (hr : RowC w g e cs) (hc : ∀ v ∈ cs, ∀ x, v ≠ .int .i64 x) : b ≠ g := by
  rintro rfl
  obtain ⟨b', off', e1, _, h2⟩ := h.at' hn
  injection e1 with e1
  injection e1 with e1 e3
  subst e1 e3
  have h3 := h2 0 hn
  rw [Nat.add_zero, hr.cell] at h3
  exact hc _ (List.mem_of_getElem? h3) _ rfl
theorem OwnR.row_ne {α : Type} {enc : α → Value} {w : World} {base : Nat} {e e' : TypeId} {A : Option Addr} {n c : Nat} {xs : List α} {cs : List Value} {g : Nat} (h : OwnR enc w base e A n c xs) (e1 : A = some ⟨g, 0, none⟩) (hr : RowC w g e' cs) (hne : e ≠ e') : False := by
  rcases h.2 with ⟨h1, _⟩ | ⟨g', cap, cur, h1, _, hg, _⟩
  · injection h1 with h1; rw [e1] at h1; cases h1
  · injection h1 with h1
    rw [e1] at h1
    injection h1 with h1
    injection h1 with h1
    subst h1
    unfold RowC at hr
    rw [hg] at hr
    injection hr with hr
    injection hr with _ hr
    exact hne hr
theorem OwnR.ge {α : Type} {enc : α → Value} {w : World} {base : Nat} {e : TypeId} {A : Option Addr} {n c : Nat} {xs : List α} (h : OwnR enc w base e A n c xs) {g : Nat} (e1 : A = some ⟨g, 0, none⟩) : base ≤ g ∧ g < w.heap.size := by
  rcases h.at_row with h1 | ⟨g', h1, h2, h3⟩
  · rw [e1] at h1; cases h1
  · rw [e1] at h1; injection h1 with h1; injection h1 with h1; subst h1; exact ⟨h2, h3⟩
theorem Sl.setRow {w : World} {A : Option Addr} {n g : Nat} {xs : List Int} {e : TypeId} {cs : List Value} (h : Sl (Value.int .i64) w A n xs) (hr : RowC w g e cs) (hc : ∀ v ∈ cs, ∀ x, v ≠ .int .i64 x) (o : Nat) (u : Value) : Sl (Value.int .i64) (w.setCell ⟨g, o, none⟩ u) A n xs :=
  ⟨h.len, h.big, fun hn => by
    obtain ⟨b, off, rfl, h1, h2⟩ := h.at' hn
    have hne := h.not_row hn hr hc
    exact ⟨b, off, rfl, by simpa [World.setCell] using h1, fun j hj => (cell_farN hne).trans (h2 j hj)⟩⟩
section
variable {s q n1 c1 n2 c2 n3 c3 c d b1 b2 : Nat} {A1 A2 A3 A B : Option Addr} {S Z L : List Int} {w wx : World}
theorem MapSt.made (bel : Below w.heap.size w wx) (pb : RowC wx w.heap.size 24 [.slice A1 n1 c1, .slice A2 n2 c2, .slice A3 n3 c3]) (rb : RowC wx (w.heap.size + 1) 33 [.slice none 0 0, .slice none 0 0, .slice none 0 0]) (cells : Sl (Value.int .i64) wx A3 n3 L) (seen : RowC wx s 22 [.slice none 0 0])
    (oA : OwnR (Value.int .i64) wx b1 3 A n1 c S) (oB : OwnR (Value.int .i64) wx b2 3 B n2 d Z) (hb1 : w.heap.size ≤ b1) (hb2 : w.heap.size ≤ b2) (dis : ∀ g, A = some ⟨g, 0, none⟩ → B ≠ some ⟨g, 0, none⟩) :
    MapSt s wx.heap.size A1 A2 A3 A B n1 c1 n2 c2 n3 c3 c d S Z L w (wx.alloc (.cells #[.slice A n1 c, .slice B n2 d, .slice none 0 0] 33)) :=
  ⟨bel.alloc bel.size _, pb.alloc _, rb.alloc _, cells.alloc _, seen.alloc _, RowC.new wx 33 [.slice A n1 c, .slice B n2 d, .slice none 0 0], ⟨(oA.mono hb1).alloc _, (oB.mono hb2).alloc _, OwnR.nil _ _ _ _, dis, (fun _ _ e => by cases e), fun _ _ e => by cases e⟩, rb.lt⟩
theorem MapSt.stored (bel : Below w.heap.size w wx) (pb : RowC wx w.heap.size 24 [.slice A1 n1 c1, .slice A2 n2 c2, .slice A3 n3 c3]) (rb : RowC wx (w.heap.size + 1) 33 [.slice none 0 0, .slice none 0 0, .slice none 0 0]) (cells : Sl (Value.int .i64) wx A3 n3 L) (seen : RowC wx s 22 [.slice none 0 0])
    (oA : OwnR (Value.int .i64) wx b1 3 A n1 c S) (oB : OwnR (Value.int .i64) wx b2 3 B n2 d Z) (hb1 : w.heap.size ≤ b1) (hb2 : w.heap.size ≤ b2) (dis : ∀ g, A = some ⟨g, 0, none⟩ → B ≠ some ⟨g, 0, none⟩)
    (hq : RowC wx q 33 [.slice none 0 0, .slice none 0 0, .slice none 0 0]) (lt : w.heap.size + 1 < q) (hs : s < w.heap.size) :
    MapSt s q A1 A2 A3 A B n1 c1 n2 c2 n3 c3 c d S Z L w (((wx.setCell ⟨q, 0, none⟩ (.slice A n1 c)).setCell ⟨q, 1, none⟩ (.slice B n2 d)).setCell ⟨q, 2, none⟩ (.slice none 0 0)) := by
  have le : w.heap.size ≤ q := by omega
  have fA : ∀ g, A = some ⟨g, 0, none⟩ → g ≠ q := fun g e1 h => by subst h; exact oA.row_ne e1 hq (by decide)
  have fB : ∀ g, B = some ⟨g, 0, none⟩ → g ≠ q := fun g e1 h => by subst h; exact oB.row_ne e1 hq (by decide)
  have q1 := hq.put 0 (.slice A n1 c)
  have q2 := q1.put 1 (.slice B n2 d)
  have q3 := q2.put 2 (.slice none 0 0)
  exact ⟨((bel.setCell (p := ⟨q, 0, none⟩) le _).setCell (p := ⟨q, 1, none⟩) le _).setCell (p := ⟨q, 2, none⟩) le _, ((pb.far (by simp; omega) _).far (by simp; omega) _).far (by simp; omega) _, ((rb.far (by simp; omega) _).far (by simp; omega) _).far (by simp; omega) _,
    ((cells.setRow hq (by simp) 0 _).setRow q1 (by simp) 1 _).setRow q2 (by simp) 2 _, ((seen.far (by simp; omega) _).far (by simp; omega) _).far (by simp; omega) _, q3,
    ⟨(((oA.mono hb1).setFar (p := ⟨q, 0, none⟩) fA _).setFar (p := ⟨q, 1, none⟩) fA _).setFar (p := ⟨q, 2, none⟩) fA _, (((oB.mono hb2).setFar (p := ⟨q, 0, none⟩) fB _).setFar (p := ⟨q, 1, none⟩) fB _).setFar (p := ⟨q, 2, none⟩) fB _, OwnR.nil _ _ _ _, dis, (fun _ _ e => by cases e), fun _ _ e => by cases e⟩, lt⟩
end
/-- between two rounds of the loop -/
structure MapLp (s q : Nat) (A B : Option Addr) (n1 c n2 d : Nat) (L : List Int) (wq wr : World) (C : Option Addr) (k t : Nat) (V : Option Addr) (v u : Nat) : Prop where
  out : RowC wr q 33 [.slice A n1 c, .slice B n2 d, .slice C t k]
  cells : OwnR Value.string wr wq.heap.size 9 C t k (digL t)
  seen : Seen wr wq.heap.size s V u v (L.take u)
  tu : Turn wq wr (fun x => x = s ∨ x = q)
  dj : ∀ g, C = some ⟨g, 0, none⟩ → V ≠ some ⟨g, 0, none⟩
  hq : q < wq.heap.size
  sq : s ≠ q
section
variable {s q n1 c n2 d k t v u : Nat} {A B C V : Option Addr} {L : List Int} {wq w w' : World}
theorem MapLp.drew (h : MapLp s q A B n1 c n2 d L wq w C k t V v u) : MapLp s q A B n1 c n2 d L wq w.drew C k t V v u :=
  ⟨h.out.drew, h.cells.drew, ⟨h.seen.row.drew, h.seen.own.drew, h.seen.lt, h.seen.hb⟩, h.tu.drew, h.dj, h.hq, h.sq⟩
theorem MapLp.alloc (h : MapLp s q A B n1 c n2 d L wq w C k t V v u) (o : Obj) : MapLp s q A B n1 c n2 d L wq (w.alloc o) C k t V v u :=
  ⟨h.out.alloc o, h.cells.alloc o, ⟨h.seen.row.alloc o, h.seen.own.alloc o, h.seen.lt, by have := h.seen.hb; simp; omega⟩, h.tu.alloc o, h.dj, h.hq, h.sq⟩
theorem MapLp.clo {V' : Option Addr} {v' : Nat} (h : MapLp s q A B n1 c n2 d L wq w C k t V v u) (hs : Seen w' wq.heap.size s V' (u + 1) v' (L.take (u + 1))) (htu : Turn w w' (fun y => y = s ∨ V = some ⟨y, 0, none⟩))
    (hd : (Value.slice V' (u + 1) v').ownBlock = (Value.slice V u v).ownBlock ∨ ∀ g, (Value.slice V' (u + 1) v').ownBlock = some g → w.heap.size ≤ g) : MapLp s q A B n1 c n2 d L wq w' C k t V' v' (u + 1) := by
  refine ⟨h.out.turn htu ?_, h.cells.turn htu fun g e1 e2 => ?_, hs, h.tu.trans htu fun x hx e1 => ?_, fun g e1 e2 => ?_, h.hq, h.sq⟩
  · rintro (e1 | e1)
    · exact h.sq e1.symm
    · have := h.seen.own.ge e1; have := h.hq; omega
  · rcases e2 with e2 | e2
    · have := h.cells.ge e1; have := h.seen.lt; omega
    · exact h.dj g e1 e2
  · rcases e1 with e1 | e1
    · exact .inl e1
    · have := h.seen.own.ge e1; omega
  · have h1 : (Value.slice V' (u + 1) v').ownBlock = some g := by rw [e2]; rfl
    rcases hd with hd | hd
    · exact h.dj g e1 (h.seen.own.block_eq (by rw [← hd]; exact h1))
    · have := hd g h1; have := h.cells.ge e1; omega
theorem MapLp.app {C' : Option Addr} {k' : Nat} {x : ByteArray} (h : MapLp s q A B n1 c n2 d L wq w C k t V v u) (hx : x = digT (t + 1)) (ho : OwnR Value.string w' wq.heap.size 9 C' (t + 1) k' (digL t ++ [x])) (hg : w.grownBy w' (Value.slice C t k).ownBlock)
    (hd : (Value.slice C' (t + 1) k').ownBlock = (Value.slice C t k).ownBlock ∨ (Value.slice C' (t + 1) k').ownBlock = some w.heap.size) : MapLp s q A B n1 c n2 d L wq (w'.setCell ⟨q, 2, none⟩ (.slice C' (t + 1) k')) C' k' (t + 1) V v u := by
  subst hx
  rw [← digL_succ] at ho
  have hne : ∀ g, C = some ⟨g, 0, none⟩ → wq.heap.size ≤ g := fun g e1 => (h.cells.ge e1).1
  have hb : ∀ g, (Value.slice C t k).ownBlock = some g → wq.heap.size ≤ g := fun g e1 => hne g (h.cells.block_eq e1)
  refine ⟨(h.out.grown hg fun e1 => by have := hb q e1.symm; have := h.hq; omega).put 2 _, ho.setFar (fun g e1 => by have := (ho.ge e1).1; have := h.hq; simp; omega) _, ⟨(h.seen.row.grown hg fun e1 => by have := hb s e1.symm; have := h.seen.lt; omega).far (by simpa using h.sq) _, ?_, h.seen.lt, ?_⟩, ?_, fun g e1 e2 => ?_, h.hq, h.sq⟩
  · refine (h.seen.own.grown hg fun g e1 e2 => h.dj g (h.cells.block_eq e2) e1).setFar (fun g e1 => by have := (h.seen.own.ge e1).1; have := h.hq; simp; omega) _
  · have := h.seen.hb; have := hg.size; simp [World.setCell]; omega
  · exact (h.tu.trans (Turn.of_grown hg) fun x hx e1 => by have := hb x e1; omega).setCell ⟨q, 2, none⟩ (fun _ => .inr rfl) _
  · have h1 : (Value.slice C' (t + 1) k').ownBlock = some g := by rw [e1]; rfl
    rcases hd with hd | hd
    · exact h.dj g (h.cells.block_eq (by rw [← hd]; exact h1)) e2
    · rw [h1] at hd; injection hd with hd; have := h.seen.own.ge e2; omega
end
theorem notNil_is (s : Nat) (w : World) : (binOp .eql 36 (.func (.func 11) #[] #[.pointer (some ⟨s, 0, none⟩)]) .nilFunc).run Try.prog w = .ok (.bool false) w := by kernel_rfl
set_option maxRecDepth 100000 in
set_option maxHeartbeats 6000000 in
theorem map_s (s : Nat) (A1 A2 A3 : Option Addr) (n1 c1 n2 c2 n3 c3 : Nat) (S Z L : List Int) (w : World) (h1 : Sl (Value.int .i64) w A1 n1 S) (h2 : Sl (Value.int .i64) w A2 n2 Z) (h3 : Sl (Value.int .i64) w A3 n3 L)
    (b1 : n1 * 8 ≤ 140737488351232) (b2 : n2 * 8 ≤ 140737488351232) (hs : RowC w s 22 [.slice none 0 0]) :
    Calls Try.prog 10 #[.agg #[.slice A1 n1 c1, .slice A2 n2 c2, .slice A3 n3 c3], .func (.func 11) #[] #[.pointer (some ⟨s, 0, none⟩)]] w (MapPost s S Z L w) := by
  have b3 := h3.big
  have HL := Lib.hid (And.intro h1.len (And.intro h2.len h3.len))
  have H0 := (((((Held.init w).sl h1).sl h2).sl h3).row hs).new 24 [.slice A1 n1 c1, .slice A2 n2 c2, .slice A3 n3 c3]
  have H1 := H0.new 33 [.slice none 0 0, .slice none 0 0, .slice none 0 0]
  rw [show (w.alloc (.cells [.slice A1 n1 c1, .slice A2 n2 c2, .slice A3 n3 c3].toArray 24)).heap.size = w.heap.size + 1 from by simp] at H1
  have hsw : s < w.heap.size := hs.lt
  clear H0 h1 h2 h3 hs
  have r0 := H1.has.2.1.cell 0
  have r1 := H1.has.2.1.cell 1
  have r2 := H1.has.2.1.cell 2
  have hnf := notNil_is s
  go_enter Try.func10, Try.ntmps10
  go_upto_region 3 with fail
  clear hnf
  go_wp2_with fail
  refine (check_any A1 A2 A3 n1 c1 n2 c2 n3 c3 S Z _ H1.has.2.2.2.2.2.1 H1.has.2.2.2.2.1 b3).mono ?_
  rintro e w1 ⟨rfl, hb1⟩
  have H2 := H1.step hb1
  clear H1 hb1
  generalize hck : checkC S Z n3 = ck
  by_cases h0 : ck = 0
  · subst h0
    have HC := Lib.hid hck
    clear hck
    have HB := Lib.hid H2.bel
    have r0 := H2.has.2.1.cell 0
    have r1 := H2.has.2.1.cell 1
    obtain ⟨w2, hw2⟩ : ∃ w2 : World, w2 = w1 := ⟨_, rfl⟩
    subst hw2
    have hqp : w.heap.size + 1 < w2.heap.size := H2.has.1.lt
    have HD := Lib.hid H2.drew
    have HZ := Lib.hid (H2.drew.new 33 [.slice none 0 0, .slice none 0 0, .slice none 0 0])
    have k1 : n1 * 8 ≤ 140737488355328 := by omega
    have k2 : n2 * 8 ≤ 140737488355328 := by omega
    clear H2
    go_upto_region 6 with fail
    go_cut [7] from 19 to 25 (fun v wx => ∃ (q : Nat) (A : Option Addr) (c : Nat) (B : Option Addr) (d : Nat), v = .pointer (some ⟨q, 0, none⟩) ∧ MapSt s q A1 A2 A3 A B n1 c1 n2 c2 n3 c3 c d S Z L w wx)
    case first =>
      refine wp_region_lastL (S := fun w' => w'.cell? ⟨w.heap.size, 0, none⟩ = some (.slice A1 n1 c1) ∧ w'.cell? ⟨w.heap.size, 1, none⟩ = some (.slice A2 n2 c2)) 8 8 (by kernel_rfl) rfl rfl rfl (by kernel_rfl) ?hS101 (fun hHeld => ?rest101)
      case hS101 => (first | assumption | exact ⟨r0, r1⟩ | go_keep)
      refine wpAnyH_takeL (i := 0) (v := ?v102) rfl (by kernel_rfl) (by kernel_rfl) (by kernel_rfl) (fun _ _ _ h => h) (by rfl) ?hy102 (by assumption) ?rest102
      case hy102 => (intro w hSw; (try dsimp only at hSw); go_simp; try with_reducible rfl)
      try simp only [Act.put, List.setIfInBounds_toArray, List.set_cons_zero, List.set_cons_succ]
      refine wpAnyH_takeL (i := 1) (v := ?v103) rfl (by kernel_rfl) (by kernel_rfl) (by kernel_rfl) (fun _ _ _ h => h) (by rfl) ?hy103 (by assumption) ?rest103
      case hy103 => (intro w hSw; (try dsimp only at hSw); go_simp; try with_reducible rfl)
      try simp only [Act.put, List.setIfInBounds_toArray, List.set_cons_zero, List.set_cons_succ]
      refine wpAnyH_takeL (i := 3) (v := ?v104) rfl (by kernel_rfl) (by kernel_rfl) (by kernel_rfl) (fun _ _ _ h => h) (by rfl) ?hy104 (by assumption) ?rest104
      case hy104 => (intro w hSw; (try dsimp only at hSw); go_simp; try with_reducible rfl)
      try simp only [Act.put, List.setIfInBounds_toArray, List.set_cons_zero, List.set_cons_succ]
      refine wpAnyH_takeL (i := 4) (v := ?v105) rfl (by kernel_rfl) (by kernel_rfl) (by kernel_rfl) (fun _ _ _ h => h) (by rfl) ?hy105 (by assumption) ?rest105
      case hy105 => (intro w hSw; (try dsimp only at hSw); go_simp; try with_reducible rfl)
      try simp only [Act.put, List.setIfInBounds_toArray, List.set_cons_zero, List.set_cons_succ]
      refine wpAnyH_ready (rs := [2, 7]) (by kernel_rfl) (by simp) (consM rfl (fun K hK => ?step107) (consL rfl (fun K hK => ?step108)))
      case step107 =>
        (go_simp; (refine (SoI.clone_any A1 n1 c1 S _ HD.out.has.2.2.2.2.2.1 k1).mono ?_); (rintro e w3 ⟨A, c, rfl, ho3, hb3⟩); (have G3 := (HD.out.step hb3).own ho3); (have r0 := G3.has.2.2.1.cell 0); (have r1 := G3.has.2.2.1.cell 1))
        refine hK.out _ _ ?hS107 (fun hHeld => ?rest107)
        case hS107 => (first | assumption | exact ⟨r0, r1⟩ | go_keep)
        clear hK K
        try simp only [Act.put, List.setIfInBounds_toArray, List.set_cons_zero, List.set_cons_succ]
        refine wpAnyH_ready (rs := [5, 7]) (by kernel_rfl) (by simp) (consM rfl (fun K hK => ?step110) (consL rfl (fun K hK => ?step111)))
        case step110 =>
          (go_simp; (refine (SoI.clone_any A2 n2 c2 Z _ G3.has.2.2.2.2.2.1 k2).mono ?_); (rintro e w4 ⟨B, d, rfl, ho4, hb4⟩); (have G4 := (G3.step hb4).own ho4); (have r0 := G4.has.2.2.2.1.cell 0); (have r1 := G4.has.2.2.2.1.cell 1))
          refine hK.out _ _ ?hS110 (fun hHeld => ?rest110)
          case hS110 => (first | assumption | exact ⟨r0, r1⟩ | go_keep)
          clear hK K
          try simp only [Act.put, List.setIfInBounds_toArray, List.set_cons_zero, List.set_cons_succ]
          refine wpAnyH_ready (rs := [6, 7]) (by kernel_rfl) (by simp) (consM rfl (fun K hK => ?step113) (consL rfl (fun K hK => ?step114)))
          case step113 =>
            go_simp
            refine hK.out _ _ ?hS113 (fun hHeld => ?rest113)
            case hS113 => (first | assumption | exact ⟨r0, r1⟩ | go_keep)
            clear hK K
            try simp only [Act.put, List.setIfInBounds_toArray, List.set_cons_zero, List.set_cons_succ]
            refine wpAnyH_ready (rs := [7]) (by kernel_rfl) (by simp) (consL rfl (fun K hK => ?step115))
            (go_simp; (have Y1 := G4.new 33 [.slice none 0 0, .slice none 0 0, .slice none 0 0]); (have r0 := Y1.has.2.2.2.2.1.cell 0); (have r1 := Y1.has.2.2.2.2.1.cell 1))
            refine hK.out _ _ ?hS115 (fun hHeld => ?rest115)
            case hS115 => (first | assumption | exact ⟨r0, r1⟩ | go_keep)
            clear hK K
            try simp only [Act.put, List.setIfInBounds_toArray, List.set_cons_zero, List.set_cons_succ]
            refine wpAnyH_done (by kernel_rfl) ?_ _
            unfold AheadOf
            go_simp
            go_wp2_with fail
            go_meet
            case rel => exact ⟨w4.heap.size, A, c, B, d, rfl, MapSt.made G4.bel G4.has.2.2.2.1 G4.has.2.2.1 G4.has.2.2.2.2.2.1 G4.has.2.2.2.2.1 G4.has.2.1 G4.has.1 (HB.out.size) (by have := HB.out.size; have := hb3.size; simp at *; omega) (fun g e1 e2 => by have h1 := ho3.ge e1; have h2 := ho4.ge e2; omega)⟩
          case step114 =>
            (go_simp; (have Y2 := G4.new 33 [.slice none 0 0, .slice none 0 0, .slice none 0 0]); (have r0 := Y2.has.2.2.2.2.1.cell 0); (have r1 := Y2.has.2.2.2.2.1.cell 1))
            refine hK.out _ _ ?hS114 (fun hHeld => ?rest114)
            case hS114 => (first | assumption | exact ⟨r0, r1⟩ | go_keep)
            clear hK K
            try simp only [Act.put, List.setIfInBounds_toArray, List.set_cons_zero, List.set_cons_succ]
            refine wpAnyH_takeL (i := 6) (v := ?v116) rfl (by kernel_rfl) (by kernel_rfl) (by kernel_rfl) (fun _ _ _ h => h) (by rfl) ?hy116 (by assumption) ?rest116
            case hy116 => (intro w hSw; (try dsimp only at hSw); go_simp; try with_reducible rfl)
            try simp only [Act.put, List.setIfInBounds_toArray, List.set_cons_zero, List.set_cons_succ]
            refine wpAnyH_done (by kernel_rfl) ?_ _
            unfold AheadOf
            go_simp
            go_wp2_with fail
            go_meet
            case rel => exact ⟨w4.heap.size, A, c, B, d, rfl, MapSt.made G4.bel G4.has.2.2.2.1 G4.has.2.2.1 G4.has.2.2.2.2.2.1 G4.has.2.2.2.2.1 G4.has.2.1 G4.has.1 (HB.out.size) (by have := HB.out.size; have := hb3.size; simp at *; omega) (fun g e1 e2 => by have h1 := ho3.ge e1; have h2 := ho4.ge e2; omega)⟩
        case step111 =>
          (go_simp; (have G4 := G3.new 33 [.slice none 0 0, .slice none 0 0, .slice none 0 0]); (have r0 := G4.has.2.2.2.1.cell 0); (have r1 := G4.has.2.2.2.1.cell 1))
          refine hK.out _ _ ?hS111 (fun hHeld => ?rest111)
          case hS111 => (first | assumption | exact ⟨r0, r1⟩ | go_keep)
          clear hK K
          try simp only [Act.put, List.setIfInBounds_toArray, List.set_cons_zero, List.set_cons_succ]
          refine wpAnyH_ready (rs := [5]) (by kernel_rfl) (by simp) (consL rfl (fun K hK => ?step117))
          (go_simp; (refine (SoI.clone_any A2 n2 c2 Z _ G4.has.2.2.2.2.2.2.1 k2).mono ?_); (rintro e w4 ⟨B, d, rfl, ho4, hb4⟩); (have G5 := (G4.step hb4).own ho4); (have r0 := G5.has.2.2.2.2.1.cell 0); (have r1 := G5.has.2.2.2.2.1.cell 1); (have f0 : w4.frozen? ⟨w3.heap.size, 0, none⟩ = false := G5.has.2.1.frozen 0); (have y0 : w4.cell? ⟨w3.heap.size, 0, none⟩ = some (.slice none 0 0) := G5.has.2.1.cell 0); (have f1 : w4.frozen? ⟨w3.heap.size, 1, none⟩ = false := G5.has.2.1.frozen 1); (have y1 : w4.cell? ⟨w3.heap.size, 1, none⟩ = some (.slice none 0 0) := G5.has.2.1.cell 1); (have f2 : w4.frozen? ⟨w3.heap.size, 2, none⟩ = false := G5.has.2.1.frozen 2); (have y2 : w4.cell? ⟨w3.heap.size, 2, none⟩ = some (.slice none 0 0) := G5.has.2.1.cell 2))
          refine hK.out _ _ ?hS117 (fun hHeld => ?rest117)
          case hS117 => (first | assumption | exact ⟨r0, r1⟩ | go_keep)
          clear hK K
          try simp only [Act.put, List.setIfInBounds_toArray, List.set_cons_zero, List.set_cons_succ]
          refine wpAnyH_takeL (i := 6) (v := ?v118) rfl (by kernel_rfl) (by kernel_rfl) (by kernel_rfl) (fun _ _ _ h => h) (by rfl) ?hy118 (by assumption) ?rest118
          case hy118 => (intro w hSw; (try dsimp only at hSw); go_simp; try with_reducible rfl)
          try simp only [Act.put, List.setIfInBounds_toArray, List.set_cons_zero, List.set_cons_succ]
          refine wpAnyH_done (by kernel_rfl) ?_ _
          unfold AheadOf
          go_simp
          go_wp2_with fail
          go_meet
          case rel => exact ⟨_, A, c, B, d, rfl, MapSt.stored G5.bel G5.has.2.2.2.2.1 G5.has.2.2.2.1 G5.has.2.2.2.2.2.2.1 G5.has.2.2.2.2.2.1 G5.has.2.2.1 G5.has.1 (by have := HB.out.size; simp at *; omega) (by have := HB.out.size; have := hb3.size; simp at *; omega) (fun g e1 e2 => by have h1 := ho3.ge e1; have h2 := ho4.ge e2; simp at *; omega) G5.has.2.1 (by have := hb3.size; simp at *; omega) hsw⟩
      case step108 =>
        (go_simp; (have G3 := HD.out.new 33 [.slice none 0 0, .slice none 0 0, .slice none 0 0]); (have r0 := G3.has.2.2.1.cell 0); (have r1 := G3.has.2.2.1.cell 1))
        refine hK.out _ _ ?hS108 (fun hHeld => ?rest108)
        case hS108 => (first | assumption | exact ⟨r0, r1⟩ | go_keep)
        clear hK K
        try simp only [Act.put, List.setIfInBounds_toArray, List.set_cons_zero, List.set_cons_succ]
        refine wpAnyH_ready (rs := [2]) (by kernel_rfl) (by simp) (consL rfl (fun K hK => ?step119))
        (go_simp; (refine (SoI.clone_any A1 n1 c1 S _ G3.has.2.2.2.2.2.2.1 k1).mono ?_); (rintro e w3 ⟨A, c, rfl, ho3, hb3⟩); (have G4 := (G3.step hb3).own ho3); (have r0 := G4.has.2.2.2.1.cell 0); (have r1 := G4.has.2.2.2.1.cell 1))
        refine hK.out _ _ ?hS119 (fun hHeld => ?rest119)
        case hS119 => (first | assumption | exact ⟨r0, r1⟩ | go_keep)
        clear hK K
        try simp only [Act.put, List.setIfInBounds_toArray, List.set_cons_zero, List.set_cons_succ]
        refine wpAnyH_ready (rs := [5]) (by kernel_rfl) (by simp) (consL rfl (fun K hK => ?step120))
        (go_simp; (refine (SoI.clone_any A2 n2 c2 Z _ G4.has.2.2.2.2.2.2.1 k2).mono ?_); (rintro e w4 ⟨B, d, rfl, ho4, hb4⟩); (have G5 := (G4.step hb4).own ho4); (have r0 := G5.has.2.2.2.2.1.cell 0); (have r1 := G5.has.2.2.2.2.1.cell 1); (have f0 : w4.frozen? ⟨w2.heap.size, 0, none⟩ = false := G5.has.2.2.1.frozen 0); (have y0 : w4.cell? ⟨w2.heap.size, 0, none⟩ = some (.slice none 0 0) := G5.has.2.2.1.cell 0); (have f1 : w4.frozen? ⟨w2.heap.size, 1, none⟩ = false := G5.has.2.2.1.frozen 1); (have y1 : w4.cell? ⟨w2.heap.size, 1, none⟩ = some (.slice none 0 0) := G5.has.2.2.1.cell 1); (have f2 : w4.frozen? ⟨w2.heap.size, 2, none⟩ = false := G5.has.2.2.1.frozen 2); (have y2 : w4.cell? ⟨w2.heap.size, 2, none⟩ = some (.slice none 0 0) := G5.has.2.2.1.cell 2))
        refine hK.out _ _ ?hS120 (fun hHeld => ?rest120)
        case hS120 => (first | assumption | exact ⟨r0, r1⟩ | go_keep)
        clear hK K
        try simp only [Act.put, List.setIfInBounds_toArray, List.set_cons_zero, List.set_cons_succ]
        refine wpAnyH_takeL (i := 6) (v := ?v121) rfl (by kernel_rfl) (by kernel_rfl) (by kernel_rfl) (fun _ _ _ h => h) (by rfl) ?hy121 (by assumption) ?rest121
        case hy121 => (intro w hSw; (try dsimp only at hSw); go_simp; try with_reducible rfl)
        try simp only [Act.put, List.setIfInBounds_toArray, List.set_cons_zero, List.set_cons_succ]
        refine wpAnyH_done (by kernel_rfl) ?_ _
        unfold AheadOf
        go_simp
        go_wp2_with fail
        go_meet
        case rel => exact ⟨_, A, c, B, d, rfl, MapSt.stored G5.bel G5.has.2.2.2.2.1 G5.has.2.2.2.1 G5.has.2.2.2.2.2.2.1 G5.has.2.2.2.2.2.1 G5.has.2.1 G5.has.1 (by have := HB.out.size; simp at *; omega) (by have := HB.out.size; have := hb3.size; simp at *; omega) (fun g e1 e2 => by have h1 := ho3.ge e1; have h2 := ho4.ge e2; simp at *; omega) G5.has.2.2.1 (by have := hb3.size; simp at *; omega) hsw⟩
    case rest =>
      obtain ⟨q, A, c, B, d, rfl, hM⟩ := hcut
      have hA3 : ∀ b off, 0 < n3 → A3 = some ⟨b, off, none⟩ → b < wc.heap.size ∧ b ≠ s ∧ b ≠ q := fun b off hp e1 => by
        have h1 := hM.cells
        rw [e1] at h1
        obtain ⟨b', off', e2, h2, _⟩ := h1.at' hp
        injection e2 with e2
        injection e2 with e2
        subst e2
        exact ⟨h2, h1.not_row hp hM.seen (by simp), h1.not_row hp hM.out (by simp)⟩
      have r2 := hM.pb.cell 2
      have HM := Lib.hid (And.intro hM hA3)
      have L0 : MapLp s q A B n1 c n2 d L wc wc none 0 0 none 0 0 :=
        ⟨hM.out, OwnR.nil _ _ _ _, ⟨hM.seen, OwnR.nil _ _ _ _, hM.seen.lt, Nat.le_refl _⟩, Turn.refl _ _, (fun _ e1 => by cases e1), hM.out.lt, by have := hM.lt; have := hsw; omega⟩
      have HL0 := Lib.hid L0
      clear L0 hM hA3
      go_wp2_with fail
      go_loopw [29] (fun i wr => ∃ (t : Nat) (C : Option Addr) (k : Nat) (V : Option Addr) (v : Nat), i = .int .i64 (t : Nat) ∧ t ≤ n3 ∧ MapLp s q A B n1 c n2 d L wc wr C k t V v t) (fun i _ => n3 - (intOf i).toNat)
      case atStart => exact ⟨0, none, 0, none, 0, rfl, Nat.zero_le _, HL0.out⟩
      case round =>
        clear HL0 r2
        obtain ⟨t, C, k, V, v, rfl, ht, hP⟩ := hrel
        by_cases hlt : t < n3
        · obtain ⟨b, off, rfl, _, hc⟩ := HM.out.1.cells.at' (by omega)
          have g1 := (hP.tu.cell (HM.out.2 b off (by omega) rfl).1 (by have := HM.out.2 b off (by omega) rfl; rintro (h | h) <;> simp_all)).trans (hc t hlt)
          clear hc
          have z2 := hP.out.cell 2
          have hlL : t < L.length := by rw [HL.out.2.2]; exact hlt
          have hn31 := (checkC_zero HC.out).1
          have HP := Lib.hid hP
          clear hP
          obtain ⟨⟨ix, e1, e2, e3, e4, e5⟩, _, _⟩ := eiSt
          have hk1 : t + 1 ≤ maxLen := by unfold maxLen; omega
          have hk2 : (t + 1) * 16 ≤ 140737488355328 := by omega
          have hk3 : (t + 1) * 8 ≤ 140737488355328 := by omega
          have HS := Lib.hid (HP.out.drew.seen)
          go_upto_region 10 with fail
          refine wp_region_lastL (S := fun w' => w'.cell? ⟨q, 2, none⟩ = some (.slice C t k)) 8 8 (by kernel_rfl) rfl rfl rfl (by kernel_rfl) ?hS1 (fun hHeld => ?rest1)
          case hS1 => (first | assumption | exact z2 | exact z5 | exact z6 | exact z9 | go_keep)
          refine wpAnyH_takeL (i := 0) (v := ?v2) rfl (by kernel_rfl) (by kernel_rfl) (by kernel_rfl) (fun _ _ _ h => h) (by rfl) ?hy2 (by assumption) ?rest2
          case hy2 => (intro w hSw; (try dsimp only at hSw); go_simp; try with_reducible rfl)
          try simp only [Act.put, List.setIfInBounds_toArray, List.set_cons_zero, List.set_cons_succ]
          refine wpAnyH_takeL (i := 1) (v := ?v3) rfl (by kernel_rfl) (by kernel_rfl) (by kernel_rfl) (fun _ _ _ h => h) (by rfl) ?hy3 (by assumption) ?rest3
          case hy3 => (intro w hSw; (try dsimp only at hSw); go_simp; try with_reducible rfl)
          try simp only [Act.put, List.setIfInBounds_toArray, List.set_cons_zero, List.set_cons_succ]
          refine wpAnyH_takeL (i := 2) (v := ?v4) rfl (by kernel_rfl) (by kernel_rfl) (by kernel_rfl) (fun _ _ _ h => h) (by rfl) ?hy4 (by assumption) ?rest4
          case hy4 => (intro w hSw; (try dsimp only at hSw); go_simp; try with_reducible rfl)
          try simp only [Act.put, List.setIfInBounds_toArray, List.set_cons_zero, List.set_cons_succ]
          refine wpAnyH_takeL (i := 3) (v := ?v5) rfl (by kernel_rfl) (by kernel_rfl) (by kernel_rfl) (fun _ _ _ h => h) (by rfl) ?hy5 (by assumption) ?rest5
          case hy5 => (intro w hSw; (try dsimp only at hSw); go_simp; try with_reducible rfl)
          try simp only [Act.put, List.setIfInBounds_toArray, List.set_cons_zero, List.set_cons_succ]
          refine wpAnyH_ready (rs := [4]) (by kernel_rfl) (by simp) (consL rfl (fun K hK => ?step6))
          (go_simp; (refine (clo_any wc.heap.size s V t v (L.take t) (nth L t) _ HS.out hk3).mono ?_); (rintro e w5 ⟨V', v', rfl, hs5, htu5, hd5⟩); (rw [← take_snoc hlL] at hs5); (have P5 := HP.out.drew.clo hs5 htu5 hd5); (have z5 := P5.out.cell 2); (have P6 := P5.alloc (.cells #[.string (digT (t + 1))] 9)); (have z6 := P6.out.cell 2); (have hz6 := P6.seen.hb))
          refine hK.out _ _ ?hS6 (fun hHeld => ?rest6)
          case hS6 => (first | assumption | exact z2 | exact z5 | exact z6 | exact z9 | go_keep)
          clear hK K
          try simp only [Act.put, List.setIfInBounds_toArray, List.set_cons_zero, List.set_cons_succ]
          refine wpAnyH_ready (rs := [5]) (by kernel_rfl) (by simp) (consL rfl (fun K hK => ?step7))
          go_simp
          refine hK.out _ _ ?hS7 (fun hHeld => ?rest7)
          case hS7 => (first | assumption | exact z2 | exact z5 | exact z6 | exact z9 | go_keep)
          clear hK K
          try simp only [Act.put, List.setIfInBounds_toArray, List.set_cons_zero, List.set_cons_succ]
          refine wpAnyH_ready (rs := [6]) (by kernel_rfl) (by simp) (consL rfl (fun K hK => ?step8))
          (refine step_append_sl _ Value.string (fun _ => rfl) (by rfl) (.tmp 34) (.tmp 38) 31 (by rfl) wc.heap.size 9 ix (.string ⟨#[]⟩) 16 e1 e2 e3 e4 e5 (by rfl) C t k (digL t) (by rfl) P6.cells _ 1 1 [digT (t + 1)] (by rfl) (Sl.one (enc := Value.string) _ _ _) hk1 hk2 hz6 ?_; intro C9 k9 w9 ho9 hg9 hb9 hd9; have hrow9 := P6.out.below hb9 P6.hq; have z9 := hrow9.cell 2; have f9 := hrow9.frozen 2)
          refine hK.out _ _ ?hS8 (fun hHeld => ?rest8)
          case hS8 => (first | assumption | exact z2 | exact z5 | exact z6 | exact z9 | go_keep)
          clear hK K
          try simp only [Act.put, List.setIfInBounds_toArray, List.set_cons_zero, List.set_cons_succ]
          refine wpAnyH_takeL (i := 7) (v := ?v9) rfl (by kernel_rfl) (by kernel_rfl) (by kernel_rfl) (fun _ _ _ h => h) (by rfl) ?hy9 (by assumption) ?rest9
          case hy9 => (intro w hSw; (try dsimp only at hSw); go_simp; try with_reducible rfl)
          try simp only [Act.put, List.setIfInBounds_toArray, List.set_cons_zero, List.set_cons_succ]
          refine wpAnyH_done (by kernel_rfl) ?_ _
          unfold AheadOf
          go_simp
          have P7 := P6.app rfl ho9 hg9 (by first | exact hd9 | (rw [World.size_alloc]; exact hd9))
          have HR := Lib.hid P7
          clear P6 P5 P7 ho9 hg9 hb9 hd9 hs5 htu5 hd5 hrow9 z9 f9 z5 z6 z2 HS
          go_wp2_with fail
          exact ⟨⟨t + 1, C9, k9, V', v', by go_num, by omega, HR.out⟩, by simp [intOf]; omega⟩
        · obtain rfl : n3 = t := by omega
          have hsz := hP.tu.size
          have hout := hP.out
          have hne1 : ∀ g, A = some ⟨g, 0, none⟩ → ¬ (g = s ∨ g = q) := fun g e1 h => by
            have h1 := HM.out.1.tr.o1.ge e1
            rcases h with h | h
            · have := hsw; omega
            · subst h; exact HM.out.1.tr.o1.row_ne e1 HM.out.1.out (by decide)
          have hne2 : ∀ g, B = some ⟨g, 0, none⟩ → ¬ (g = s ∨ g = q) := fun g e1 h => by
            have h1 := HM.out.1.tr.o2.ge e1
            rcases h with h | h
            · have := hsw; omega
            · subst h; exact HM.out.1.tr.o2.row_ne e1 HM.out.1.out (by decide)
          have T1 : Trio (Value.int .i64) (Value.int .i64) Value.string wr w.heap.size 3 3 9 A n1 c S B n2 d Z C n3 k (digL n3) :=
            ⟨HM.out.1.tr.o1.turn hP.tu hne1, HM.out.1.tr.o2.turn hP.tu hne2, hP.cells.mono HM.out.1.bel.size, HM.out.1.tr.d12, fun g e1 e2 => by have := HM.out.1.tr.o1.ge e1; have := hP.cells.ge e2; omega, fun g e1 e2 => by have := HM.out.1.tr.o2.ge e1; have := hP.cells.ge e2; omega⟩
          have hr := HM.out.1.rb.turn hP.tu (by rintro (h | h) <;> (have := hsw; have := HM.out.1.lt; omega))
          have hfar : ∀ g, A = some ⟨g, 0, none⟩ ∨ B = some ⟨g, 0, none⟩ ∨ C = some ⟨g, 0, none⟩ → g ≠ w.heap.size + 1 := fun g e1 h => by
            subst h
            rcases e1 with e1 | e1 | e1
            · exact T1.o1.row_ne e1 hr (by decide)
            · exact T1.o2.row_ne e1 hr (by decide)
            · exact T1.o3.row_ne e1 hr (by decide)
          have hsn := hP.seen
          rw [show L.take n3 = L from List.take_of_length_le (by rw [HL.out.2.2]; exact Nat.le_refl _)] at hsn
          have T2 := ((T1.setFar (p := ⟨w.heap.size + 1, 0, none⟩) hfar (.slice A n1 c)).setFar (p := ⟨w.heap.size + 1, 1, none⟩) hfar (.slice B n2 d)).setFar (p := ⟨w.heap.size + 1, 2, none⟩) hfar (.slice C n3 k)
          have hwz : w.heap.size ≤ wc.heap.size := HM.out.1.bel.size
          have hlq := HM.out.1.lt
          have hqz := hP.hq
          have hV : ∀ g, V = some ⟨g, 0, none⟩ → g ≠ w.heap.size + 1 := fun g e1 => by have := hsn.own.ge e1; omega
          have hss : s ≠ w.heap.size + 1 := by omega
          have hs2 : Seen (((wr.setCell ⟨w.heap.size + 1, 0, none⟩ (.slice A n1 c)).setCell ⟨w.heap.size + 1, 1, none⟩ (.slice B n2 d)).setCell ⟨w.heap.size + 1, 2, none⟩ (.slice C n3 k)) w.heap.size s V n3 v L :=
            ⟨((hsn.row.far (by simpa using hss) _).far (by simpa using hss) _).far (by simpa using hss) _, (((hsn.own.setFar (p := ⟨w.heap.size + 1, 0, none⟩) hV _).setFar (p := ⟨w.heap.size + 1, 1, none⟩) hV _).setFar (p := ⟨w.heap.size + 1, 2, none⟩) hV _).mono hwz, hsw, by simp [World.setCell]; omega⟩
          have htu : Turn w (((wr.setCell ⟨w.heap.size + 1, 0, none⟩ (.slice A n1 c)).setCell ⟨w.heap.size + 1, 1, none⟩ (.slice B n2 d)).setCell ⟨w.heap.size + 1, 2, none⟩ (.slice C n3 k)) (fun x => x = s) :=
            ((((Turn.of_below HM.out.1.bel (fun x => x = s)).trans hP.tu (fun x hx h => by rcases h with h | h; exact h; omega)).setCell ⟨w.heap.size + 1, 0, none⟩ (fun h => by have h' : w.heap.size + 1 < w.heap.size := h; omega) _).setCell ⟨w.heap.size + 1, 1, none⟩ (fun h => by have h' : w.heap.size + 1 < w.heap.size := h; omega) _).setCell ⟨w.heap.size + 1, 2, none⟩ (fun h => by have h' : w.heap.size + 1 < w.heap.size := h; omega) _
          have X := ((hr.put 0 (.slice A n1 c)).put 1 (.slice B n2 d)).put 2 (.slice C n3 k)
          have c0 := hr.cell 0
          have c1 := hr.cell 1
          have c2 := hr.cell 2
          have f0 := hr.frozen 0
          have f1 := hr.frozen 1
          have f2 := hr.frozen 2
          have g0 := hP.out.cell 0
          have g1 := hP.out.cell 1
          have g2 := hP.out.cell 2
          have HE := Lib.hid (And.intro X (And.intro T2 (And.intro hs2 htu)))
          clear X T2 hs2 htu T1 hr hsn hP hout hne1 hne2 hfar hV
          go_wp2_with fail
          have y0 := HE.out.1.cell 0
          have y1 := HE.out.1.cell 1
          have y2 := HE.out.1.cell 2
          generalize ((wr.setCell ⟨w.heap.size + 1, 0, none⟩ (.slice A n1 c)).setCell ⟨w.heap.size + 1, 1, none⟩ (.slice B n2 d)).setCell ⟨w.heap.size + 1, 2, none⟩ (.slice C n3 k) = wz at *
          refine bodyPost_ret (v := .tuple #[.agg #[.slice A n1 c, .slice B n2 d, .slice C n3 k], .int .i64 0]) (by simp [results, Try.results10, go_sem, y0, y1, y2]) rfl (.inr ?_)
          obtain ⟨h1, h2, h3⟩ := HL.out
          rw [h1, h2, h3]
          exact ⟨HC.out, A, c, B, d, C, k, V, v, rfl, HE.out.2.1, HE.out.2.2.1, HE.out.2.2.2⟩
  · have HC := Lib.hid (And.intro hck (And.intro h0 H2))
    have hne : decide (ck = 0) = false := by simpa using h0
    have u0 := H2.has.1.cell 0
    have u1 := H2.has.1.cell 1
    have u2 := H2.has.1.cell 2
    have v0 := H2.has.1.frozen 0
    have v1 := H2.has.1.frozen 1
    have v2 := H2.has.1.frozen 2
    have X := ((H2.has.1.put 0 (.slice none 0 0)).put 1 (.slice none 0 0)).put 2 (.slice none 0 0)
    have hle : w.heap.size ≤ w.heap.size + 1 := Nat.le_succ _
    have BB := ((H2.bel.setCell (p := ⟨w.heap.size + 1, 0, none⟩) hle (.slice none 0 0)).setCell (p := ⟨w.heap.size + 1, 1, none⟩) hle (.slice none 0 0)).setCell (p := ⟨w.heap.size + 1, 2, none⟩) hle (.slice none 0 0)
    have HE := Lib.hid (And.intro X BB)
    clear H2 r0 r1 r2 X BB hle
    go_wp2_with fail
    have y0 := HE.out.1.cell 0
    have y1 := HE.out.1.cell 1
    have y2 := HE.out.1.cell 2
    generalize ((w1.setCell ⟨w.heap.size + 1, 0, none⟩ (.slice none 0 0)).setCell ⟨w.heap.size + 1, 1, none⟩ (.slice none 0 0)).setCell ⟨w.heap.size + 1, 2, none⟩ (.slice none 0 0) = wz at *
    refine bodyPost_ret (v := .tuple #[.agg #[.slice none 0 0, .slice none 0 0, .slice none 0 0], .int .i64 ck]) (by simp [results, Try.results10, go_sem, y0, y1, y2]) rfl (.inl ⟨?_, ?_, HE.out.2⟩)
    · rw [HL.out.2.2, HC.out.1]; exact HC.out.2.1
    · rw [HL.out.2.2, HC.out.1]
end Go.Proofs.Ytgmchedfgdgenaa
