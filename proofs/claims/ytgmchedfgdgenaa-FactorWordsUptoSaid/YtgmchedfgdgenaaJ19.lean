/- Joined by program out of: AskC, LastB. What each says stands at its own head. -/
import Derived.Test.YtgmchedfgdgenaaJ18
import Derived.Test.YtgmchedfgdgenaaSameS
import Derived.Test.YtgmchedfgdgenaaJ3
/- What the checks in asked read: the document's shape, its cells, the code's two answers. -/
namespace Go.Proofs.Ytgmchedfgdgenaa
open Go.RowKit

/-- the shape's box g, its lists A and B, the cells D, the answers' boxes ge, gf; what lies below be is older than the first answer, what lies from bf on is the second one -/
structure ChkAt (b0 be bf g ge gf : Nat) (ny : Nat) (U UZ : List Int) (Y : List ByteArray) (A : Option Addr) (c : Nat) (B : Option Addr) (d : Nat) (M : Int) (D : Option Addr) (E1 E2 E3 F1 F2 F3 : Option Addr) (e1 e2 e3 f1 f2 f3 : Nat) (wx : World) : Prop where
  rs : RowC wx g 29 [.slice A U.length c, .slice B U.length d, .int .i64 M]
  re : RowC wx ge 33 [.slice E1 U.length e1, .slice E2 U.length e2, .slice E3 ny e3]
  rf : RowC wx gf 33 [.slice F1 U.length f1, .slice F2 U.length f2, .slice F3 ny f3]
  sA : Sl (Value.int .i64) wx A U.length U
  sB : Sl (Value.int .i64) wx B U.length UZ
  sD : Sl Value.string wx D ny Y
  te : Trio (Value.int .i64) (Value.int .i64) Value.string wx be 3 3 9 E1 U.length e1 U E2 U.length e2 UZ E3 ny e3 Y
  tf : Trio (Value.int .i64) (Value.int .i64) Value.string wx bf 3 3 9 F1 U.length f1 U F2 U.length f2 UZ F3 ny f3 Y
  b0g : b0 ≤ g
  b0be : b0 ≤ be
  gbe : g < be
  sz : be ≤ wx.heap.size
  aA : 0 < U.length → ∀ x o, A = some ⟨x, o, none⟩ → x < be
  aB : 0 < U.length → ∀ x o, B = some ⟨x, o, none⟩ → x < be
  aD : 0 < ny → ∀ x o, D = some ⟨x, o, none⟩ → x < be
  aE : ∀ x, (E1 = some ⟨x, 0, none⟩ ∨ E2 = some ⟨x, 0, none⟩ ∨ E3 = some ⟨x, 0, none⟩) → be ≤ x ∧ x < bf
section
variable {b0 be bf g ge gf ny : Nat} {U UZ : List Int} {Y : List ByteArray} {A : Option Addr} {c : Nat} {B : Option Addr} {d : Nat} {M : Int} {D : Option Addr} {E1 E2 E3 F1 F2 F3 : Option Addr} {e1 e2 e3 f1 f2 f3 : Nat} {wx wy : World}
theorem ChkAt.below (h : ChkAt b0 be bf g ge gf ny U UZ Y A c B d M D E1 E2 E3 F1 F2 F3 e1 e2 e3 f1 f2 f3 wx) (hb : Below wx.heap.size wx wy) : ChkAt b0 be bf g ge gf ny U UZ Y A c B d M D E1 E2 E3 F1 F2 F3 e1 e2 e3 f1 f2 f3 wy := by
  have te := h.te
  exact ⟨h.rs.below' hb, h.re.below' hb, h.rf.below' hb, h.sA.below (Nat.le_refl _) hb, h.sB.below (Nat.le_refl _) hb, h.sD.below (Nat.le_refl _) hb,
    ⟨te.o1.below (Nat.le_refl _) hb, te.o2.below (Nat.le_refl _) hb, te.o3.below (Nat.le_refl _) hb, te.d12, te.d13, te.d23⟩,
    ⟨h.tf.o1.below (Nat.le_refl _) hb, h.tf.o2.below (Nat.le_refl _) hb, h.tf.o3.below (Nat.le_refl _) hb, h.tf.d12, h.tf.d13, h.tf.d23⟩,
    h.b0g, h.b0be, h.gbe, Nat.le_trans h.sz hb.size, h.aA, h.aB, h.aD, h.aE⟩
/-- the first answer spoilt: all but it is as it was -/
theorem ChkAt.spoil (h : ChkAt b0 be bf g ge gf ny U UZ Y A c B d M D E1 E2 E3 F1 F2 F3 e1 e2 e3 f1 f2 f3 wx) (ht : Turn wx wy (fun x => E1 = some ⟨x, 0, none⟩ ∨ E2 = some ⟨x, 0, none⟩ ∨ E3 = some ⟨x, 0, none⟩)) :
    (RowC wy g 29 [.slice A U.length c, .slice B U.length d, .int .i64 M] ∧ RowC wy ge 33 [.slice E1 U.length e1, .slice E2 U.length e2, .slice E3 ny e3] ∧ RowC wy gf 33 [.slice F1 U.length f1, .slice F2 U.length f2, .slice F3 ny f3]) ∧
    (Sl (Value.int .i64) wy A U.length U ∧ Sl (Value.int .i64) wy B U.length UZ ∧ Sl Value.string wy D ny Y) ∧
    Trio (Value.int .i64) (Value.int .i64) Value.string wy bf 3 3 9 F1 U.length f1 U F2 U.length f2 UZ F3 ny f3 Y := by
  have te := h.te
  have hne : ∀ {q : Nat} {cs : List Value}, RowC wx q 33 cs → ¬ (E1 = some ⟨q, 0, none⟩ ∨ E2 = some ⟨q, 0, none⟩ ∨ E3 = some ⟨q, 0, none⟩) := fun hr hx => by
    rcases hx with hx | hx | hx
    · exact te.o1.row_neT hx hr (by decide)
    · exact te.o2.row_neT hx hr (by decide)
    · exact te.o3.row_neT hx hr (by decide)
  refine ⟨⟨h.rs.turn ht (fun e => by have := h.aE _ e; have := h.gbe; omega), h.re.turn ht (hne h.re), h.rf.turn ht (hne h.rf)⟩, ⟨h.sA.turnC ht (fun hu x o e e2 => by have := h.aE _ e2; have := h.aA hu x o e; omega), h.sB.turnC ht (fun hu x o e e2 => by have := h.aE _ e2; have := h.aB hu x o e; omega), h.sD.turnC ht (fun hu x o e e2 => by have := h.aE _ e2; have := h.aD hu x o e; omega)⟩, ?_⟩
  exact ⟨h.tf.o1.turn ht (fun q e e2 => by have := h.aE _ e2; have := (h.tf.o1.geT e).1; omega), h.tf.o2.turn ht (fun q e e2 => by have := h.aE _ e2; have := (h.tf.o2.geT e).1; omega), h.tf.o3.turn ht (fun q e e2 => by have := h.aE _ e2; have := (h.tf.o3.geT e).1; omega), h.tf.d12, h.tf.d13, h.tf.d23⟩
end
theorem is_t (A1 A2 A3 B1 B2 C : Option Addr) (n1 c1 n2 c2 n3 c3 m1 d1 m2 d2 m3 d3 : Nat) (k : Int) (S Z : List Int) (xs : List ByteArray) (w : World)
    (h1 : Sl (Value.int .i64) w A1 n1 S) (h2 : Sl (Value.int .i64) w A2 n2 Z) (h3 : Sl Value.string w A3 n3 xs) (k1 : Sl (Value.int .i64) w B1 m1 S) (k2 : Sl (Value.int .i64) w B2 m2 Z) (k3 : Sl Value.string w C m3 xs) :
    Calls Try.prog 17 #[.iface 45 (.agg #[]), .agg #[.slice A1 n1 c1, .slice A2 n2 c2, .slice A3 n3 c3], .agg #[.slice B1 m1 d1, .slice B2 m2 d2, .int .i64 k], .slice C m3 d3] w fun e w' => e = .returned (.bool true) ∧ Below w.heap.size w w' :=
  (is_s A1 A2 A3 B1 B2 C n1 c1 n2 c2 n3 c3 m1 d1 m2 d2 m3 d3 k S Z S Z xs xs w h1 h2 h3 k1 k2 k3).mono fun _ _ h => ⟨by rw [h.1]; simp, h.2⟩
theorem RowC.apart {w : World} {g g' : Nat} {e e' : TypeId} {cs cs' : List Value} (h : RowC w g e cs) (h' : RowC w g' e' cs') (hne : e ≠ e') : g' ≠ g := by
  rintro rfl
  unfold RowC at h h'
  rw [h] at h'
  injection h' with h'
  injection h' with _ h'
  exact hne h'
theorem RowsF.turn {α : Type} [Inhabited α] {enc : α → Value} {a b : World} {base : Nat} {A : Option Addr} {n : Nat} {L : List (List α)} {S : Nat → Prop} (h : RowsF base enc a A n L) (ht : Turn a b S) (hS : ∀ x, base ≤ x → ¬ S x) : RowsF base enc b A n L := by
  obtain ⟨⟨vs, h1, h2, h3⟩, h4⟩ := h
  exact ⟨⟨vs, h1.turnC ht (fun _ g o e => hS _ (h2 g o e)), h2, fun i hi => ⟨(h3 i hi).1.turnC ht (fun _ g o e => hS _ ((h3 i hi).2.1 g o e)), (h3 i hi).2⟩⟩, h4⟩
/-- two answers told one behind the other, each laid into a box that was there: what the checks read -/
theorem chk_two {ww wr r1 wj s1 wk : World} {b1 b2 g ge gf ny : Nat} {U UZ : List Int} {Y : List ByteArray} {A : Option Addr} {c : Nat} {B : Option Addr} {d : Nat} {M : Int} {D : Option Addr} {q : Nat} {J1 J2 J3 K1 K2 K3 : Option Addr} {j1 j2 j3 k1 k2 k3 : Nat} {x1 x2 x3 z1 z2 z3 : Value}
    (hbw : Below ww.heap.size ww wr) (hg : ww.heap.size ≤ g) (hge : ge ≠ gf ∧ ww.heap.size ≤ ge ∧ ww.heap.size ≤ gf) (hlt : g < b1 ∧ ge < b1 ∧ gf < b1) (h12 : b1 ≤ b2)
    (rs : RowC wr g 29 [.slice A U.length c, .slice B U.length d, .int .i64 M]) (re : RowC wr ge 33 [x1, x2, x3]) (rf : RowC wr gf 33 [z1, z2, z3])
    (sA : OwnR (Value.int .i64) wr b1 3 A U.length c U) (sB : OwnR (Value.int .i64) wr b1 3 B U.length d UZ) (sD : OwnR Value.string wr b2 9 D ny q Y) (hU : U.length ≤ 140737488351232) (hny : ny ≤ 140737488351232)
    (TJ : Trio (Value.int .i64) (Value.int .i64) Value.string r1 wr.heap.size 3 3 9 J1 U.length j1 U J2 U.length j2 UZ J3 ny j3 Y) (hb1 : Below wr.heap.size wr r1)
    (hwj : wj = ((r1.setCell ⟨ge, 0, none⟩ (.slice J1 U.length j1)).setCell ⟨ge, 1, none⟩ (.slice J2 U.length j2)).setCell ⟨ge, 2, none⟩ (.slice J3 ny j3))
    (TK : Trio (Value.int .i64) (Value.int .i64) Value.string s1 wj.heap.size 3 3 9 K1 U.length k1 U K2 U.length k2 UZ K3 ny k3 Y) (hb2 : Below wj.heap.size wj s1)
    (hwk : wk = ((s1.setCell ⟨gf, 0, none⟩ (.slice K1 U.length k1)).setCell ⟨gf, 1, none⟩ (.slice K2 U.length k2)).setCell ⟨gf, 2, none⟩ (.slice K3 ny k3)) :
    ChkAt ww.heap.size wr.heap.size wj.heap.size g ge gf ny U UZ Y A c B d M D J1 J2 J3 K1 K2 K3 j1 j2 j3 k1 k2 k3 wk ∧ Below ww.heap.size ww wk := by
  have G1 := hbw.trans (hb1.mono hbw.size)
  have re1 := re.below' hb1
  obtain ⟨_, _, _, G2, ht1⟩ := set3 G1 re1 hge.2.1 hwj
  have re2 : RowC wj ge 33 [.slice J1 U.length j1, .slice J2 U.length j2, .slice J3 ny j3] := by rw [hwj]; exact ((re1.put 0 _).put 1 _).put 2 _
  have rs2 := (rs.below' hb1).turn ht1 (re1.apart (rs.below' hb1) (by decide))
  have rf2 := (rf.below' hb1).turn ht1 (fun e => hge.1 e.symm)
  have G3 := G2.trans (hb2.mono G2.size)
  have rf3 := rf2.below' hb2
  obtain ⟨_, _, _, G4, ht2⟩ := set3 G3 rf3 hge.2.2 hwk
  have hltr := hb1.size
  have hs2 := ht1.size
  have hs3 := hb2.size
  have hs4 := ht2.size
  have hrs := rs.lt
  have hre := re.lt
  have hrf := rf.lt
  refine ⟨⟨(rs2.below' hb2).turn ht2 (rf3.apart (rs2.below' hb2) (by decide)), (re2.below' hb2).turn ht2 (fun e => hge.1 e), by rw [hwk]; exact ((rf3.put 0 _).put 1 _).put 2 _, ?_, ?_, ?_, ?_, ?_, hg, hbw.size, hrs, by omega, ?_, ?_, ?_, ?_⟩, G4⟩
  · exact ((((sA.below (Nat.le_refl _) hb1).turn ht1 (fun y e e2 => by have := sA.geT e; omega)).below (Nat.le_refl _) hb2).turn ht2 (fun y e e2 => by have := sA.geT e; omega)).sl hU
  · exact ((((sB.below (Nat.le_refl _) hb1).turn ht1 (fun y e e2 => by have := sB.geT e; omega)).below (Nat.le_refl _) hb2).turn ht2 (fun y e e2 => by have := sB.geT e; omega)).sl hU
  · exact ((((sD.below (Nat.le_refl _) hb1).turn ht1 (fun y e e2 => by have := sD.geT e; omega)).below (Nat.le_refl _) hb2).turn ht2 (fun y e e2 => by have := sD.geT e; omega)).sl hny
  · exact ⟨((TJ.o1.turn ht1 (fun y e e2 => by have := TJ.o1.geT e; omega)).below (Nat.le_refl _) hb2).turn ht2 (fun y e e2 => by have := TJ.o1.geT e; omega),
      ((TJ.o2.turn ht1 (fun y e e2 => by have := TJ.o2.geT e; omega)).below (Nat.le_refl _) hb2).turn ht2 (fun y e e2 => by have := TJ.o2.geT e; omega),
      ((TJ.o3.turn ht1 (fun y e e2 => by have := TJ.o3.geT e; omega)).below (Nat.le_refl _) hb2).turn ht2 (fun y e e2 => by have := TJ.o3.geT e; omega), TJ.d12, TJ.d13, TJ.d23⟩
  · exact ⟨TK.o1.turn ht2 (fun y e e2 => by have := TK.o1.geT e; omega), TK.o2.turn ht2 (fun y e e2 => by have := TK.o2.geT e; omega), TK.o3.turn ht2 (fun y e e2 => by have := TK.o3.geT e; omega), TK.d12, TK.d13, TK.d23⟩
  · intro hu x o e
    obtain ⟨b, off, e3, hl, _⟩ := (sA.sl hU).at' hu
    rw [e3] at e; injection e with e; injection e with e; omega
  · intro hu x o e
    obtain ⟨b, off, e3, hl, _⟩ := (sB.sl hU).at' hu
    rw [e3] at e; injection e with e; injection e with e; omega
  · intro hu x o e
    obtain ⟨b, off, e3, hl, _⟩ := (sD.sl hny).at' hu
    rw [e3] at e; injection e with e; injection e with e; omega
  · intro x hx
    rcases hx with hx | hx | hx
    · have := TJ.o1.geT hx; omega
    · have := TJ.o2.geT hx; omega
    · have := TJ.o3.geT hx; omega
/-- between the two -/
theorem chk_mid {ww wr r1 wj : World} {ge gf : Nat} {J1 J2 J3 : Value} {x1 x2 x3 z1 z2 z3 : Value}
    (hbw : Below ww.heap.size ww wr) (hge : ge ≠ gf ∧ ww.heap.size ≤ ge ∧ ww.heap.size ≤ gf)
    (re : RowC wr ge 33 [x1, x2, x3]) (rf : RowC wr gf 33 [z1, z2, z3]) (hb1 : Below wr.heap.size wr r1)
    (hwj : wj = ((r1.setCell ⟨ge, 0, none⟩ J1).setCell ⟨ge, 1, none⟩ J2).setCell ⟨ge, 2, none⟩ J3) : Below ww.heap.size ww wj ∧ RowC wj gf 33 [z1, z2, z3] := by
  have G1 := hbw.trans (hb1.mono hbw.size)
  obtain ⟨_, _, _, G2, ht1⟩ := set3 G1 (re.below' hb1) hge.2.1 hwj
  exact ⟨G2, (rf.below' hb1).turn ht1 (fun e => hge.1 e.symm)⟩
theorem eqB_eq {a b : List ByteArray} : eqB_s a b = decide (a = b) := by
  by_cases h : a = b
  · subst h
    rw [eqB_true_s rfl (fun j _ => by simp [sameF_s])]; simp
  · rw [decide_eq_false h]
    by_cases hl : a.length = b.length
    · have hx : ∃ j, j < a.length ∧ nth a j ≠ nth b j := Classical.byContradiction fun hn => h (nth_ext hl fun j hj => Classical.byContradiction fun hne => hn ⟨j, hj, hne⟩)
      obtain ⟨j, hj, hne⟩ := hx
      refine eqB_false_s hj ?_
      simp only [sameF_s, beq_eq_false_iff_ne]
      exact fun e => hne (text_ext e)
    · exact eqB_len_s hl
theorem sameT_eq {S1 Z1 S2 Z2 : List Int} {L1 L2 : List ByteArray} : sameT_s S1 Z1 L1 S2 Z2 L2 = (decide (checkC S1 Z1 L1.length = 0) && (decide (checkC S2 Z2 L2.length = 0) && (decide (S2 = S1) && decide (Z2 = Z1) && decide (L2 = L1)))) := by
  unfold sameT_s
  rw [eqB_eq]
  have e1 : decide (S2 = S1) = decide (S1 = S2) := decide_eq_decide.2 eq_comm
  have e2 : decide (Z2 = Z1) = decide (Z1 = Z2) := decide_eq_decide.2 eq_comm
  have e3 : decide (L2 = L1) = decide (L1 = L2) := decide_eq_decide.2 eq_comm
  rw [e1, e2, e3, Bool.and_assoc]
end Go.Proofs.Ytgmchedfgdgenaa
/- As XLast, where an operation may name a later one by an order that does not bind. No condition. -/
namespace Go.Proofs.Ytgmchedfgdgenaa
open Go.RowKit

/-- number L waits for all others, none of them waits for it, and all wait for what lies ahead of them, by orders that bind -/
def lastOkB (ops : Array Oper) (L : Nat) : Bool := (List.range ops.size).all fun j => match ops[j]? with
  | none => true
  | some o => o.after.all (fun e => !(Region.binds .any e) || (decide (e.on < j) && e.on != L)) && (if j = L then (List.range ops.size).all (fun k => k == L || o.after.any (fun e => Region.binds .any e && e.on == k)) else true)
section
variable {P : Program} {ops : Array Oper} {Q : Exit → Act → World → Prop} {S : World → Prop} {L : Nat} {o : Oper}
theorem ahead_soundB (ho : ops[L]? = some o) (hg : o.guard = none) (hok : lastOkB ops L = true) : ∀ (fuel : Nat) (listed : Array Bool) (a : Act) (w : World), listed.size = ops.size → listed.getD L true = false →
    wpAnyH P .any ops (AheadOf P o Q) S fuel (listed.setIfInBounds L true) a w → wpAny P .any ops Q (fuel + 1) listed a w := by
  have hL : L < ops.size := (Array.getElem?_eq_some_iff.1 ho).1
  have h1 : ∀ k, k < ops.size → k ≠ L → ∃ e ∈ o.after, Region.binds .any e = true ∧ e.on = k := by
    intro k hk hne
    unfold lastOkB at hok
    have := List.all_eq_true.1 hok L (List.mem_range.2 hL)
    rw [ho] at this
    simp only [if_true, Bool.and_eq_true] at this
    have := List.all_eq_true.1 this.2 k (List.mem_range.2 hk)
    simp only [Bool.or_eq_true, beq_iff_eq, Array.any_eq_true] at this
    rcases this with h | ⟨i, hi, h⟩
    · exact absurd h hne
    · simp only [Bool.and_eq_true, beq_iff_eq] at h
      exact ⟨_, Array.getElem_mem hi, h.1, h.2⟩
  have h2 : ∀ (j : Nat) (x : Oper), ops[j]? = some x → ∀ e ∈ x.after, Region.binds .any e = true → e.on < j ∧ e.on ≠ L := by
    intro j x hx e he hb
    have hj : j < ops.size := (Array.getElem?_eq_some_iff.1 hx).1
    unfold lastOkB at hok
    have := List.all_eq_true.1 hok j (List.mem_range.2 hj)
    rw [hx] at this
    simp only [Bool.and_eq_true] at this
    have := Array.all_eq_true_iff_forall_mem.1 this.1 e he
    simpa [hb] using this
  have key : ∀ (listed : Array Bool), listed.size = ops.size → listed.getD L true = false →
      (L ∈ Region.ready .any ops listed ∧ Region.ready .any ops (listed.setIfInBounds L true) = [] ∧ ∀ i ∈ Region.ready .any ops listed, i = L) ∨
      ((∃ j, j ∈ Region.ready .any ops listed) ∧ ∀ i ∈ Region.ready .any ops listed, i ≠ L ∧ i ∈ Region.ready .any ops (listed.setIfInBounds L true)) := by
    intro listed hs hLf
    by_cases hall : ∀ j, j < ops.size → j ≠ L → listed.getD j true = true
    · left
      have hd : ∀ j, j < ops.size → j ≠ L → listed.getD j false = true := fun j hj hne => by
        have := hall j hj hne
        have hj' : j < listed.size := by omega
        simpa [Array.getD, hj'] using this
      have hin : ∀ i, i ∈ Region.ready .any ops listed → i = L := fun i hi => by
        obtain ⟨h0, x, hx, _⟩ := mem_ready.1 hi
        have hi' : i < ops.size := (Array.getElem?_eq_some_iff.1 hx).1
        by_cases hne : i = L
        · exact hne
        · rw [hall i hi' hne] at h0; cases h0
      refine ⟨mem_ready.2 ⟨hLf, o, ho, fun e he hb => ?_⟩, ?_, hin⟩
      · obtain ⟨h3, h4⟩ := h2 L o ho e he hb
        exact hd e.on (by omega) h4
      · refine List.eq_nil_iff_forall_not_mem.2 fun i hi => ?_
        obtain ⟨h0, x, hx, _⟩ := mem_ready.1 hi
        have hi' : i < ops.size := (Array.getElem?_eq_some_iff.1 hx).1
        by_cases hne : i = L
        · subst hne
          simp [Array.getD, hs, hi'] at h0
        · rw [getD_set_ne true (Ne.symm hne), hall i hi' hne] at h0; cases h0
    · right
      have hex : ∃ j, j < ops.size ∧ j ≠ L ∧ listed.getD j true = false := by
        refine Classical.byContradiction fun hno => hall fun j hj hne => ?_
        rcases hq : listed.getD j true with _ | _
        · exact absurd ⟨j, hj, hne, hq⟩ hno
        · rfl
      have hmin : ∃ j, (j < ops.size ∧ j ≠ L ∧ listed.getD j true = false) ∧ ∀ k, k < j → k ≠ L → listed.getD k true = true := by
        obtain ⟨j, hj⟩ := hex
        have hrec : ∀ n j, j < n → (j < ops.size ∧ j ≠ L ∧ listed.getD j true = false) → ∃ j, (j < ops.size ∧ j ≠ L ∧ listed.getD j true = false) ∧ ∀ k, k < j → k ≠ L → listed.getD k true = true := by
          intro n
          induction n with
          | zero => intro j h; omega
          | succ n ihn =>
            intro j hjn hj
            by_cases hk : ∀ k, k < j → k ≠ L → listed.getD k true = true
            · exact ⟨j, hj, hk⟩
            · obtain ⟨k, hk⟩ := Classical.not_forall.1 hk
              have hkj : k < j := Classical.byContradiction fun h => hk fun h' => absurd h' h
              have hkL : k ≠ L := Classical.byContradiction fun h => hk fun _ h' => absurd h' h
              have hkf : listed.getD k true = false := by
                rcases hq : listed.getD k true with _ | _
                · rfl
                · exact absurd (fun _ _ => hq) hk
              exact ihn k (by omega) ⟨by omega, hkL, hkf⟩
        exact hrec (j + 1) j (Nat.lt_succ_self j) hj
      obtain ⟨j, ⟨hj, hjL, hjf⟩, hlow⟩ := hmin
      refine ⟨⟨j, ?_⟩, fun i hi => ?_⟩
      · refine mem_ready.2 ⟨hjf, ops[j], Array.getElem?_eq_getElem hj, fun e he hb => ?_⟩
        obtain ⟨h3, h4⟩ := h2 j _ (Array.getElem?_eq_getElem hj) e he hb
        have := hlow e.on h3 h4
        have hj' : e.on < listed.size := by omega
        simpa [Array.getD, hj'] using this
      · have hne : i ≠ L := by
          rintro rfl
          obtain ⟨_, x, hx, hedge⟩ := mem_ready.1 hi
          rw [ho] at hx
          injection hx with hx
          subst hx
          obtain ⟨e, he, hb, hon⟩ := h1 j hj hjL
          have := hedge e he hb
          rw [hon] at this
          have hj' : j < listed.size := by omega
          simp [Array.getD, hj'] at this hjf
          rw [hjf] at this
          cases this
        exact ⟨hne, ready_mono hi hne⟩
  have hdone : ∀ (fuel : Nat) (listed : Array Bool) (a : Act) (w : World), Region.ready .any ops listed = [] → Q .normal a w → wpAny P .any ops Q fuel listed a w := by
    intro fuel listed a w h0 hq
    cases fuel with
    | zero => exact ⟨h0, hq⟩
    | succ f => exact ⟨fun _ => hq, fun i hi => by rw [h0] at hi; cases hi⟩
  have hlast : ∀ (fuel : Nat) (listed : Array Bool) (a : Act) (w : World), L ∈ Region.ready .any ops listed → Region.ready .any ops (listed.setIfInBounds L true) = [] → (∀ i ∈ Region.ready .any ops listed, i = L) → AheadOf P o Q .normal a w →
      wpAny P .any ops Q (fuel + 1) listed a w := by
    intro fuel listed a w hm hnil honly hq
    refine ⟨(fun h0 => by rw [h0] at hm; cases hm), fun i hi => ?_⟩
    obtain rfl := honly i hi
    unfold wpOp
    rw [ho]
    simp only
    rw [if_pos (by simp [Region.wanted, hg])]
    exact .inl (Oper.wp_mono (fun a w h => hdone fuel _ a w hnil h) hq)
  intro fuel
  induction fuel with
  | zero =>
    intro listed a w hs hLf h
    rcases key listed hs hLf with ⟨hm, hnil, honly⟩ | ⟨⟨j, hj⟩, hin⟩
    · exact hlast 0 listed a w hm hnil honly h.2
    · have := (hin j hj).2
      rw [h.1] at this
      cases this
  | succ fuel ih =>
    intro listed a w hs hLf h
    rcases key listed hs hLf with ⟨hm, hnil, honly⟩ | ⟨⟨j, hj⟩, hin⟩
    · exact hlast (fuel + 1) listed a w hm hnil honly (h.1 hnil)
    · refine ⟨(fun h0 => by rw [h0] at hj; cases hj), fun i hi => ?_⟩
      obtain ⟨hne, hi1⟩ := hin i hi
      refine wpOp_ahead (wpOp_mono (fun a' w' h' => ?_) (h.2 i hi1))
      refine ih (listed.setIfInBounds i true) a' w' (by simpa using hs) (by rw [getD_set_ne true hne]; exact hLf) ?_
      rw [Array.setIfInBounds_comm _ _ hne]
      exact h'.2
/-- the beginning: the last operation is put off -/
theorem wp_region_lastB {id : Nat} {a : Act} {w : World} (L n : Nat) (hm : P.follows .mixedOrders = true) (hn : ops.size = n + 1) (ho : ops[L]? = some o) (hg : o.guard = none) (hok : lastOkB ops L = true) (hS : S w.drew)
    (h : S w.drew → wpAnyH P .any ops (AheadOf P o Q) S n ((Array.replicate ops.size false).setIfInBounds L true) a w.drew) : (Code.region id ops true).wp P Q a w := by
  refine wp_region_any hm ?_
  have hL : L < ops.size := (Array.getElem?_eq_some_iff.1 ho).1
  have := ahead_soundB ho hg hok n (Array.replicate ops.size false) a w.drew (by simp) (by simp [Array.getD, hL]) (h hS)
  rw [← hn] at this
  exact this
theorem wp_region_lastLB {l : List Oper} {id : Nat} {a : Act} {w : World} (L n : Nat) (hm : P.follows .mixedOrders = true) (hn : l.length = n + 1) (ho : l[L]? = some o) (hg : o.guard = none) (hok : lastOkB l.toArray L = true) (hS : S w.drew)
    (h : S w.drew → wpAnyH P .any l.toArray (AheadOf P o Q) S n ((Array.replicate (n + 1) false).setIfInBounds L true) a w.drew) : (Code.region id l.toArray true).wp P Q a w :=
  wp_region_lastB L n hm (by simpa using hn) (by simpa using ho) hg hok hS (by
    have e : l.toArray.size = n + 1 := by simpa using hn
    rw [e]; exact h)
end
end Go.Proofs.Ytgmchedfgdgenaa
