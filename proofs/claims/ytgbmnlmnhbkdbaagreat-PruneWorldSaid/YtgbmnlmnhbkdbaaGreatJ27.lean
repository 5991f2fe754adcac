/- Joined by program out of: FracF, WBox, BitLaw. What each says stands at its own head. -/
import Derived.Test.YtgbmnlmnhbkdbaaGreatJ26
import Derived.Test.YtgbmnlmnhbkdbaaGreatJ3
import Derived.Test.YtgbmnlmnhbkdbaaGreatJ5
import Derived.Test.YtgbmnlmnhbkdbaaGreatJ2
import Derived.Test.YtgbmnlmnhbkdbaaGreatJ4
import Derived.Deep.MidRow
import Derived.OwnWalk
import Derived.Test.YtgbmnlmnhbkdbaaGreatJ20
set_option linter.unusedVariables false
set_option linter.unusedSimpArgs false
/- whole.Sub, frac.Sign, walked. Conditions: the limbs read, within Go's bound together. -/
namespace Go.Proofs.YtgbmnlmnhbkdbaaGreat
open Go.RowKit

set_option maxRecDepth 100000 in
set_option maxHeartbeats 400000 in
theorem frac_sign (u:Value) (p:Rat) (K:Nat) (w:World) (hu:RatAt w u p K):Calls Tryz.prog 11 #[u] w fun e w'=>e=.returned (.int .i64 (sgnQ p))∧Below w.heap.size w w':=by
 obtain ⟨s,A,n,c,xs,D,k,e,ds,rfl,a1,a2,a3,a4,a5,a6,rfl,a7⟩:=hu.ex
 clear hu
 have hs:=ratR_sgn s (val xs) (val ds)
 rw [← hs]
 clear hs
 have H:=((Held.init w).sl a1).new 38 [.bool s,.slice A n c,.slice D k e]
 have r0:=H.has.1.cell 0
 have r1:=H.has.1.cell 1
 have r2:=H.has.1.cell 2
 generalize hz:sgnI (sgn s (val xs))=z at *
 have HZ:=Lib.hid hz
 clear hz
 go_enter Tryz.func11,Tryz.ntmps11
 go_wp2_with fail
 refine (whole_sign s A n c xs _ H.has.2.1 a2 a3).mono ?_
 rintro e w1 ⟨rfl,hb1⟩
 rw [HZ.out]
 have HF:=Lib.hid (H.step hb1).bel
 clear H hb1 r0 r1 r2
 go_wp2_with fail
 go_ret
 exact ⟨rfl,HF.out⟩
end Go.Proofs.YtgbmnlmnhbkdbaaGreat
/- A box that holds a fraction of the call's own; fractions of small numbers; a row of fractions of the call's own. Conditions: lengths within Go's bound. -/
namespace Go.Proofs.YtgbmnlmnhbkdbaaGreat
open Go.RowKit

structure RH where
 neg:Bool
 A:Option Addr
 n:Nat
 c:Nat
 D:Option Addr
 k:Nat
 e:Nat
instance:Inhabited RH:=⟨⟨false,none,0,0,none,0,0⟩⟩
def RH.val (h:RH):Value:=.agg #[.bool h.neg,.slice h.A h.n h.c,.slice h.D h.k h.e]
theorem eiRat:EIM Tryz.prog 28 38 (.agg #[.bool false,.slice none 0 0,.slice none 0 0]) 3 56:=.mk' Tryz.underlying28 (by kernel_rfl) rfl (by omega) (by omega)
def numL (q:Rat):Nat:=(limbs q.num.natAbs).length
def denL (q:Rat):Nat:=(limbs q.den).length
theorem ratLen_eq (q:Rat):ratLen q=numL q + denL q:=rfl
theorem mk_lens (n:Int) {d:Nat} (hd:d ≠ 0):numL (mkRat n d)≤(limbs n.natAbs).length∧denL (mkRat n d)≤(limbs d).length:=by
 have h:=mk_lowest (isNeg n) n.natAbs hd
 rw [sgn_isNeg] at h
 unfold numL denL
 rw [h.1,h.2,sgn_natAbs]
 exact ⟨limbs_mono (Nat.div_le_self n.natAbs (Nat.gcd n.natAbs d)),limbs_mono (Nat.div_le_self d (Nat.gcd n.natAbs d))⟩
structure BoxQ (w:World) (base g:Nat) (q:Rat):Prop where
 ex:∃ R c D d,RowC w g 38 [.bool (isNeg q.num),.slice R (limbs q.num.natAbs).length c,.slice D (limbs q.den).length d]∧OwnR eU w base 83 R (limbs q.num.natAbs).length c (limbs q.num.natAbs)∧OwnR eU w base 83 D (limbs q.den).length d (limbs q.den) ∧
  (∀ g',R=some ⟨g',0,none⟩→D ≠ some ⟨g',0,none⟩)
theorem BoxQ.below {w w':World} {base g:Nat} {q:Rat} (h:BoxQ w base g q) (hb:Below w.heap.size w w'):BoxQ w' base g q:=by
 obtain ⟨R,c,D,d,h1,h2,h3,h4⟩:=h.ex
 exact ⟨R,c,D,d,h1.below' hb,h2.below (Nat.le_refl _) hb,h3.below (Nat.le_refl _) hb,h4⟩
instance {base g:Nat} {q:Rat}:Stable (fun w=>BoxQ w base g q):=⟨fun hb h=>h.below hb⟩
theorem ratAt_own {w:World} {base:Nat} {R D:Option Addr} {c d:Nat} {q:Rat} (h1:OwnR eU w base 83 R (limbs q.num.natAbs).length c (limbs q.num.natAbs)) (h2:OwnR eU w base 83 D (limbs q.den).length d (limbs q.den)) (hb:ratLen q≤140737488351232) :
 RatAt w (.agg #[.bool (isNeg q.num),.slice R (limbs q.num.natAbs).length c,.slice D (limbs q.den).length d]) q (ratLen q):=by
 unfold ratLen at hb
 exact ⟨_,R,_,c,_,D,_,d,_,rfl,h1.sl (by omega),h1.cap,limbs_L32 _,h2.sl (by omega),h2.cap,limbs_L32 _,by rw [val_limbs,val_limbs];exact (ratR_norm q).symm,Nat.le_refl _⟩
theorem BoxQ.store {w w2:World} {g base B:Nat} {u0 u1 u2:Value} {q:Rat} {R D:Option Addr} {c d:Nat} (hg:w.heap.size≤g) (hbox:RowC w2 g 38 [u0,u1,u2]) (hbel:Below w.heap.size w w2) (ho:OwnR eU w2 B 83 R (limbs q.num.natAbs).length c (limbs q.num.natAbs)) (hd:OwnR eU w2 B 83 D (limbs q.den).length d (limbs q.den))
 (hsep:∀ g',R=some ⟨g',0,none⟩→D ≠ some ⟨g',0,none⟩) (hB:base≤B) (hgB:g < B) :
 BoxQ (((w2.setCell ⟨g,0,none⟩ (.bool (isNeg q.num))).setCell ⟨g,1,none⟩ (.slice R (limbs q.num.natAbs).length c)).setCell ⟨g,2,none⟩ (.slice D (limbs q.den).length d)) base g q ∧
  Below w.heap.size w (((w2.setCell ⟨g,0,none⟩ (.bool (isNeg q.num))).setCell ⟨g,1,none⟩ (.slice R (limbs q.num.natAbs).length c)).setCell ⟨g,2,none⟩ (.slice D (limbs q.den).length d)):=by
 have key:∀ {R:Option Addr} {L d':Nat} {l:List Nat} {v0 v1 v2:Value},OwnR eU w2 B 83 R L d' l→OwnR eU (((w2.setCell ⟨g,0,none⟩ v0).setCell ⟨g,1,none⟩ v1).setCell ⟨g,2,none⟩ v2) base 83 R L d' l:=fun {R L d' l v0 v1 v2} ho=>by
  have hne:∀ g',R=some ⟨g',0,none⟩→g' ≠ g:=fun g' e=>by
   rcases ho.at_row with h1 | ⟨g'',h1,h2,_⟩
   ·rw [h1] at e;cases e
   ·rw [h1] at e;injection e with e;injection e with e;omega
  exact (((ho.setFar (p:=⟨g,0,none⟩) hne _).setFar (p:=⟨g,1,none⟩) hne _).setFar (p:=⟨g,2,none⟩) hne _).mono hB
 exact ⟨⟨R,c,D,d,((hbox.put 0 _).put 1 _).put 2 _,key ho,key hd,hsep⟩,((hbel.setCell (p:=⟨g,0,none⟩) hg _).setCell (p:=⟨g,1,none⟩) hg _).setCell (p:=⟨g,2,none⟩) hg _⟩
structure QAt (w:World) (base:Nat) (h:RH) (q:Rat):Prop where
 neg:h.neg=isNeg q.num
 n:h.n=(limbs q.num.natAbs).length
 k:h.k=(limbs q.den).length
 num:OwnR eU w base 83 h.A h.n h.c (limbs q.num.natAbs)
 den:OwnR eU w base 83 h.D h.k h.e (limbs q.den)
theorem QAt.below {w w':World} {base:Nat} {h:RH} {q:Rat} (x:QAt w base h q) (hb:Below w.heap.size w w'):QAt w' base h q:=
 ⟨x.neg,x.n,x.k,x.num.below (Nat.le_refl _) hb,x.den.below (Nat.le_refl _) hb⟩
theorem QAt.mono {w:World} {base b2:Nat} {h:RH} {q:Rat} (x:QAt w base h q) (hb:b2≤base):QAt w b2 h q:=⟨x.neg,x.n,x.k,x.num.mono hb,x.den.mono hb⟩
theorem QAt.setLow {w:World} {base:Nat} {h:RH} {q:Rat} (x:QAt w base h q) {p:Addr} (hp:p.block < base) (v:Value):QAt (w.setCell p v) base h q:=by
 have key:∀ {A:Option Addr} {n c:Nat} {l:List Nat},OwnR eU w base 83 A n c l→OwnR eU (w.setCell p v) base 83 A n c l:=fun {A n c l} ho =>
  ho.setFar (fun g e=>by
   rcases ho.at_row with h1 | ⟨g',h1,h2,_⟩
   ·rw [h1] at e;cases e
   ·rw [h1] at e;injection e with e;injection e with e;omega) v
 exact ⟨x.neg,x.n,x.k,key x.num,key x.den⟩
theorem QAt.at {w:World} {base:Nat} {h:RH} {q:Rat} (x:QAt w base h q) (hb:ratLen q≤140737488351232):RatAt w h.val q (ratLen q):=by
 obtain ⟨s,A,n,c,D,k,e⟩:=h
 obtain ⟨h1,h2,h3,h4,h5⟩:=x
 simp only at h1 h2 h3 h4 h5
 subst h1 h2 h3
 exact ratAt_own h4 h5 hb
theorem QAt.of {w:World} {base:Nat} {q:Rat} {R D:Option Addr} {c d:Nat} (h1:OwnR eU w base 83 R (limbs q.num.natAbs).length c (limbs q.num.natAbs)) (h2:OwnR eU w base 83 D (limbs q.den).length d (limbs q.den)) :
 QAt w base ⟨isNeg q.num,R,(limbs q.num.natAbs).length,c,D,(limbs q.den).length,d⟩ q:=⟨rfl,rfl,rfl,h1,h2⟩
def RH.cells (h:RH):List Value:=[.bool h.neg,.slice h.A h.n h.c,.slice h.D h.k h.e]
def setL:List Value→Nat→List Value→List Value
 | cs,_,[]=>cs
 | cs,o,v :: r=>setL (cs.set o v) (o + 1) r
theorem setL_length:∀ (vs cs:List Value) (o:Nat),(setL cs o vs).length=cs.length
 | [],_,_=>rfl
 | v :: r,cs,o=>by rw [setL,setL_length r];simp
theorem setL_out:∀ (vs cs:List Value) (o j:Nat),(j < o ∨ o + vs.length≤j)→(setL cs o vs)[j]?=cs[j]?
 | [],_,_,_,_=>rfl
 | v :: r,cs,o,j,h=>by
   simp only [List.length_cons] at h
   rw [setL,setL_out r _ _ j (by omega),List.getElem?_set,if_neg (by omega)]
theorem setL_in:∀ (vs cs:List Value) (o j:Nat),o + vs.length≤cs.length→j < vs.length→(setL cs o vs)[o + j]?=vs[j]?
 | v :: r,cs,o,j,h,hj=>by
   simp only [List.length_cons] at h hj
   cases j with
   | zero =>
     rw [setL,setL_out r _ _ _ (by omega),List.getElem?_set,if_pos (by omega),if_pos (by omega)]
     rfl
   | succ q =>
     rw [setL,show o + (q + 1)=o + 1 + q by omega,setL_in r _ _ q (by simp;omega) (by omega),List.getElem?_cons_succ]
theorem RowC.setL {g:Nat} {e:TypeId}:∀ (vs:List Value) {w:World} {cs:List Value} (o:Nat),RowC w g e cs→RowC (w.setCells g o vs) g e (setL cs o vs)
 | [],_,_,_,h=>h
 | v :: r,_,_,o,h=>RowC.setL r (o + 1) (h.put o v)
theorem setCells_ind {p:World→Prop} {g:Nat} (hp:∀ w o v,p w→p (w.setCell ⟨g,o,none⟩ v)):∀ (vs:List Value) (o:Nat) (w:World),p w→p (w.setCells g o vs)
 | [],_,_,h=>h
 | v :: r,o,w,h=>setCells_ind hp r (o + 1) _ (hp w o v h)
theorem belowS {B:Nat} {w0 w:World} {g:Nat} (h:Below B w0 w) (hg:B≤g) (o:Nat) (vs:List Value):Below B w0 (w.setCells g o vs):=
 setCells_ind (p:=fun w=>Below B w0 w) (fun _ _ v h=>h.setCell (p:=⟨g,_,none⟩) hg v) vs o w h
theorem QAt.farS {w:World} {base:Nat} {h:RH} {q:Rat} (x:QAt w base h q) {g:Nat} (hg:g < base) (o:Nat) (vs:List Value):QAt (w.setCells g o vs) base h q:=
 setCells_ind (p:=fun w=>QAt w base h q) (fun _ _ v h=>h.setLow (p:=⟨g,_,none⟩) hg v) vs o w x
theorem wp_store_row {P:Program} {op:Oper} {a:Act} {w:World} {K:Act→World→Prop} {Q:Exit→Act→World→Prop} (ty:TypeId) (x y:Operand) (ho:op.op=.store ty x y) (g o:Nat) (vs:List Value)
 (hx:a.eval x=.pointer (some ⟨g,o,none⟩)) (hy:a.eval y=.agg vs.toArray) {e:TypeId} {cs:List Value} (hr:RowC w g e cs) (hl:o + vs.length≤cs.length) (hi:(P.info? ty).map (·.size)=some vs.length) (h1:vs.toArray.all (·.oneCell')=true)
 (h:∀ w',w'=w.setCells g o vs→K (a.put op.dst undef) w'):op.wp P a w K Q:=
 wp_store_mid ty x y ho g o vs.toArray hx hy (fun j hj=>⟨by rw [hr.cell,List.getElem?_eq_getElem (by simp at hj;omega)];rfl,hr.frozen _⟩) (by simpa using hi) h1 (by simpa using h _ rfl)
structure Hdr3 (w:World) (b o:Nat) (h:RH):Prop where
 lt:b < w.heap.size
 c0:w.cell? ⟨b,o,none⟩=some (.bool h.neg)
 c1:w.cell? ⟨b,o + 1,none⟩=some (.slice h.A h.n h.c)
 c2:w.cell? ⟨b,o + 2,none⟩=some (.slice h.D h.k h.e)
instance {b o:Nat} {h:RH}:Stable (fun w=>Hdr3 w b o h):=⟨fun hb x=>⟨Nat.lt_of_lt_of_le x.lt hb.size,(hb.cell x.lt).trans x.c0,(hb.cell x.lt).trans x.c1,(hb.cell x.lt).trans x.c2⟩⟩
instance {base:Nat} {h:RH} {q:Rat}:Stable (fun w=>QAt w base h q):=⟨fun hb x=>x.below hb⟩
theorem mul_lens (p q:Rat):numL (p * q)≤numL p + numL q∧denL (p * q)≤denL p + denL q:=by
 have e:p * q=mkRat (p.num * q.num) (p.den * q.den):=by
  have:=ratR_mul (isNeg p.num) (isNeg q.num) p.num.natAbs q.num.natAbs p.den q.den
  rw [← sgn_mul,sgn_isNeg,sgn_isNeg,ratR_norm,ratR_norm,und_ne p.den_nz,und_ne q.den_nz] at this
  exact this.symm
 have hm:=mk_lens (p.num * q.num) (Nat.mul_ne_zero p.den_nz q.den_nz)
 rw [← e,Int.natAbs_mul] at hm
 exact ⟨Nat.le_trans hm.1 (limbs_mul_len _ _),Nat.le_trans hm.2 (limbs_mul_len _ _)⟩
theorem mul_len (p q:Rat):ratLen (p * q)≤ratLen p + ratLen q:=by
 have:=mul_lens p q
 rw [ratLen_eq,ratLen_eq,ratLen_eq]
 omega
def ZAt (w:World) (base:Nat) (h:RH) (q:Rat):Prop:=(h=⟨false,none,0,0,none,0,0⟩∧q=0) ∨ QAt w base h q
theorem ZAt.below {w w':World} {base:Nat} {h:RH} {q:Rat} (x:ZAt w base h q) (hb:Below w.heap.size w w'):ZAt w' base h q:=x.imp id fun x=>x.below hb
theorem ZAt.farS {w:World} {base:Nat} {h:RH} {q:Rat} (x:ZAt w base h q) {g:Nat} (hg:g < base) (o:Nat) (vs:List Value):ZAt (w.setCells g o vs) base h q:=x.imp id fun x=>x.farS hg o vs
theorem ZAt.at {w:World} {base:Nat} {h:RH} {q:Rat} (x:ZAt w base h q) (hb:ratLen q≤140737488351232):RatAt w h.val q (ratLen q):=by
 rcases x with ⟨rfl,rfl⟩ | x
 ·exact ⟨_,_,_,_,_,_,_,_,_,rfl,Sl.nil _ _ _,Nat.le_refl _,(by intro x hx;cases hx),Sl.nil _ _ _,Nat.le_refl _,(by intro x hx;cases hx),by rfl,Nat.zero_le _⟩
 ·exact x.at hb
structure QRow (w:World) (base g N:Nat) (qs:Nat→Rat):Prop where
 ex:∃ cs,RowC w g 38 cs∧cs.length=N * 3∧∀ i,i < N→∃ h:RH,(∀ j,j < 3→cs[i * 3 + j]?=h.cells[j]?)∧ZAt w base h (qs i)
theorem QRow.below {w w':World} {base g N:Nat} {qs:Nat→Rat} (h:QRow w base g N qs) (hb:Below w.heap.size w w'):QRow w' base g N qs:=by
 obtain ⟨cs,h1,h2,h3⟩:=h.ex
 exact ⟨cs,h1.below' hb,h2,fun i hi=>by obtain ⟨x,h4,h5⟩:=h3 i hi;exact ⟨x,h4,h5.below hb⟩⟩
instance {base g N:Nat} {qs:Nat→Rat}:Stable (fun w=>QRow w base g N qs):=⟨fun hb h=>h.below hb⟩
theorem QRow.at {w:World} {base g N:Nat} {qs:Nat→Rat} (h:QRow w base g N qs) {i:Nat} (hi:i < N):∃ x:RH,Hdr3 w g (i * 3) x∧ZAt w base x (qs i):=by
 obtain ⟨cs,h1,h2,h3⟩:=h.ex
 obtain ⟨x,h4,h5⟩:=h3 i hi
 exact ⟨x,⟨h1.lt,(h1.cell _).trans (h4 0 (by omega)),(h1.cell _).trans (h4 1 (by omega)),(h1.cell _).trans (h4 2 (by omega))⟩,h5⟩
theorem QRow.put {w:World} {base g N:Nat} {qs ps:Nat→Rat} (h:QRow w base g N qs) (hg:g < base) {k:Nat} (hk:k < N) {x:RH} (hx:QAt w base x (ps k)) (hps:∀ i,i < N→i ≠ k→ps i=qs i):QRow (w.setCells g (k * 3) x.cells) base g N ps:=by
 obtain ⟨cs,h1,h2,h3⟩:=h.ex
 have h6:x.cells.length=3:=rfl
 refine ⟨setL cs (k * 3) x.cells,h1.setL _ _,by rw [setL_length];exact h2,fun i hi=>?_⟩
 by_cases e:i=k
 ·subst e
  exact ⟨x,fun j hj=>setL_in _ _ _ _ (by omega) (by omega),.inr (hx.farS hg _ _)⟩
 ·obtain ⟨y,h4,h5⟩:=h3 i hi
  exact ⟨y,fun j hj=>by rw [setL_out _ _ _ _ (by omega)];exact h4 j hj,by rw [hps i hi e];exact h5.farS hg _ _⟩
theorem QRow.congr {w:World} {base g N:Nat} {qs ps:Nat→Rat} (h:QRow w base g N qs) (e:∀ i,i < N→ps i=qs i):QRow w base g N ps:=by
 obtain ⟨cs,h1,h2,h3⟩:=h.ex
 exact ⟨cs,h1,h2,fun i hi=>by obtain ⟨x,h4,h5⟩:=h3 i hi;exact ⟨x,h4,by rw [e i hi];exact h5⟩⟩
theorem QRow.mono {w:World} {base b2 g N:Nat} {qs:Nat→Rat} (h:QRow w base g N qs) (hb:b2≤base):QRow w b2 g N qs:=by
 obtain ⟨cs,h1,h2,h3⟩:=h.ex
 exact ⟨cs,h1,h2,fun i hi=>by obtain ⟨x,h4,h5⟩:=h3 i hi;exact ⟨x,h4,h5.imp id fun x=>x.mono hb⟩⟩
theorem made_at (n i:Nat) (hi:i < n * 3):((madeCells #[Value.bool false,.slice none 0 0,.slice none 0 0] (n * 3)).toList)[i]?=[Value.bool false,.slice none 0 0,.slice none 0 0][i % 3]?:=by
 unfold madeCells
 rw [Array.getElem?_toList,Array.getElem?_map,Array.getElem?_range,if_pos hi]
 have:i % 3=0 ∨ i % 3=1 ∨ i % 3=2:=by omega
 rcases this with e | e | e <;> simp [e]
theorem wpList_mkQ (w:World) {ops:Array Oper} {rest:List Oper} {o:Oper} {a:Act} {Q:Exit→Act→World→Prop} (hgd:o.guard=none) (l c:Operand) (ho:o.op=Op.makeSlice 28 l c) (n:Nat) (hl:a.eval l=.int .i64 (n:Int)) (hc:a.eval c=.int .i64 (n:Int)) (hb:56 * n≤281474976710656)
 (h:∀ w',QRow w' (w.heap.size + 1) w.heap.size n (fun _=>0)→Below w.heap.size w w'→w.heap.size < w'.heap.size→wpList Tryz.prog ops Q rest (a.put o.dst (.slice (some ⟨w.heap.size,0,none⟩) n n)) w'):wpList Tryz.prog ops Q (o :: rest) a w:=by
 obtain ⟨⟨i,e1,e2,e3,e4,e5⟩,hz,hp,hk⟩:=eiRat
 refine wpList_make_full w hgd l c 28 ho w.heap.size 38 i _ 3 e1 e2 e3 e4 .i64 .i64 _ _ n hl hc rfl rfl (by rw [e5];exact hb) (by unfold maxLen;omega) (Nat.le_refl _) fun w' h1 h2=>?_
 rcases h1.2 with ⟨h3,_⟩ | ⟨g,cap,cur,h3,h4,h5,h6,h7,h8,h9⟩
 ·cases h3
 ·injection h3 with e6 e7 e8
  injection e6 with e6
  injection e6 with e6
  subst e6 e8
  have hlen:cur.toList.length=n * 3:=by simpa using h8
  have hcur:cur.toList=(madeCells #[Value.bool false,.slice none 0 0,.slice none 0 0] (n * 3)).toList:=by
   rw [← List.take_of_length_le (l:=cur.toList) (i:=n * 3) (by omega)]
   exact h9
  have hrow:RowC w' w.heap.size 38 cur.toList:=by unfold RowC;rw [h5]
  refine h w' ⟨cur.toList,hrow,hlen,fun i hi=>⟨⟨false,none,0,0,none,0,0⟩,fun j hj=>?_,.inl ⟨rfl,rfl⟩⟩⟩ ⟨h2.os,h2.tape,h2.output,h2.size,fun b hb=>h2.block b hb (by simp)⟩ hrow.lt
  rw [hcur,made_at _ _ (by omega),show (i * 3 + j) % 3=j by omega]
  rfl
theorem small_len {a d:Nat} (ha:a < 4294967296) (hd:d < 4294967296) (h0:d ≠ 0):ratLen (mkRat a d)≤2:=by
 have h:=mk_lens a h0
 have h1:=limbs_one ha
 have h2:=limbs_one hd
 rw [Int.natAbs_natCast] at h
 rw [ratLen_eq]
 omega
end Go.Proofs.YtgbmnlmnhbkdbaaGreat
/- Plain law: single bits of ints; tables of eighths. No condition. -/
namespace Go.Proofs.YtgbmnlmnhbkdbaaGreat

theorem wrap_64 (n:Nat) (h:n < 2 ^ 64):IntKind.i64.wrap (n:Int)=(n:Int) ∨ IntKind.i64.wrap (n:Int)=(n:Int) - 2 ^ 64:=by
 unfold IntKind.wrap
 rw [show IntKind.i64.bits=64 from rfl]
 have:((n:Int) % 2 ^ 64)=n:=Int.emod_eq_of_lt (by omega) (by omega)
 simp only [this]
 split
 ·exact .inr rfl
 ·exact .inl rfl
theorem wrap_small (n:Nat) (h:n < 2 ^ 63):IntKind.i64.wrap (n:Int)=(n:Int):=by
 unfold IntKind.wrap
 rw [show IntKind.i64.bits=64 from rfl]
 have:((n:Int) % 2 ^ 64)=n:=Int.emod_eq_of_lt (by omega) (by omega)
 simp only [this]
 rw [if_neg]
 simp only [Bool.and_eq_true,decide_eq_true_eq,not_and]
 intro _;omega
theorem and1 (x:Int):bits .and .i64 x 1=x % 2:=by
 show IntKind.i64.wrap ((BitVec.ofInt 64 x &&& BitVec.ofInt 64 1).toNat:Int)=_
 have h:(BitVec.ofInt 64 x &&& BitVec.ofInt 64 1).toNat=(BitVec.ofInt 64 x).toNat % 2:=by
  rw [BitVec.toNat_and,show (BitVec.ofInt 64 1).toNat=1 from rfl,Nat.and_one_is_mod]
 rw [h,wrap_small _ (by omega),BitVec.toNat_ofInt]
 omega
theorem and15 (x:Int):∃ e:Nat,e < 16∧bits .and .i64 x 15=(e:Int):=by
 refine ⟨(BitVec.ofInt 64 x &&& BitVec.ofInt 64 15).toNat,?_,?_⟩
 ·rw [BitVec.toNat_and,show (BitVec.ofInt 64 15).toNat=15 from rfl]
  exact Nat.lt_of_le_of_lt Nat.and_le_right (by decide)
 ·show IntKind.i64.wrap ((BitVec.ofInt 64 x &&& BitVec.ofInt 64 15).toNat:Int)=_
  refine wrap_small _ ?_
  rw [BitVec.toNat_and,show (BitVec.ofInt 64 15).toNat=15 from rfl]
  exact Nat.lt_of_le_of_lt Nat.and_le_right (by decide)
theorem bit_of (k p:Nat):bits .and .i64 ((k:Int) / 2 ^ p) 1=((bitsA k p).toNat:Int):=by
 rw [and1]
 unfold bitsA
 rw [show ((k:Int) / 2 ^ p)=((k / 2 ^ p:Nat):Int) by push_cast;rfl,Nat.testBit_eq_decide_div_mod_eq]
 generalize k / 2 ^ p=m
 by_cases h:m % 2=1
 ·rw [decide_eq_true h];show (m:Int) % 2=1;omega
 ·rw [decide_eq_false h];show (m:Int) % 2=0;omega
def bitsZ (V:Int):Nat→Bool:=fun j=>(BitVec.ofInt 64 V).getLsbD j
theorem bit_xor (k:Nat) (V:Int) (p:Nat) (hp:p < 64):bits .and .i64 (bits .xor .i64 (k:Int) V / 2 ^ p) 1=((bitsA k p != bitsZ V p).toNat:Int):=by
 rw [and1]
 obtain ⟨N,hN⟩:∃ N:Nat,N=(BitVec.ofInt 64 (k:Int) ^^^ BitVec.ofInt 64 V).toNat:=⟨_,rfl⟩
 have h1:bits .xor .i64 (k:Int) V=IntKind.i64.wrap (N:Int):=by rw [hN];rfl
 have hlt:N < 2 ^ 64:=by rw [hN];exact BitVec.isLt _
 have hbit:N.testBit p=(bitsA k p != bitsZ V p):=by
  rw [hN,BitVec.testBit_toNat,BitVec.getLsbD_xor]
  unfold bitsA bitsZ
  have:(BitVec.ofInt 64 (k:Int)).getLsbD p=k.testBit p:=by
   rw [BitVec.ofInt_natCast,BitVec.getLsbD_ofNat];simp [hp]
  rw [this]
 have hpar:(bits .xor .i64 (k:Int) V / 2 ^ p) % 2=((N / 2 ^ p % 2:Nat):Int):=by
  rw [h1]
  rcases wrap_64 N hlt with e | e
  ·rw [e];push_cast;rfl
  ·rw [e]
   have h2:((2:Int) ^ 64)=2 ^ (64 - p) * 2 ^ p:=by rw [← Int.pow_add,show 64 - p + p=64 by omega]
   have h3:((N:Int) - 2 ^ 64) / 2 ^ p=(N:Int) / 2 ^ p - 2 ^ (64 - p):=by
    rw [h2,Int.sub_mul_ediv_right _ _ (Int.ne_of_gt (Int.pow_pos (by decide)))]
   rw [h3]
   have h4:((2:Int) ^ (64 - p))=2 * 2 ^ (63 - p):=by
    rw [show 64 - p=(63 - p) + 1 by omega,Int.pow_succ,Int.mul_comm]
   rw [h4]
   push_cast
   omega
 rw [hpar,← hbit,Nat.testBit_eq_decide_div_mod_eq]
 generalize N / 2 ^ p=m
 by_cases h:m % 2=1
 ·rw [decide_eq_true h];show ((m % 2:Nat):Int)=1;omega
 ·rw [decide_eq_false h];show ((m % 2:Nat):Int)=0;omega
def eig (Ts:List (List Int)) (v row:Nat):Nat:=
 let e:=if row < (nth Ts v).length then (bits .and .i64 (nth (nth Ts v) row) 15).toNat else 3
 if 8 < e then 16 - e else e
theorem eig_le (Ts:List (List Int)) (v row:Nat):eig Ts v row≤8:=by
 have h:(if row < (nth Ts v).length then (bits .and .i64 (nth (nth Ts v) row) 15).toNat else 3)≤15:=by
  split
  ·obtain ⟨e,h1,h2⟩:=and15 (nth (nth Ts v) row);rw [h2];omega
  ·omega
 show (if 8 < (if row < (nth Ts v).length then (bits .and .i64 (nth (nth Ts v) row) 15).toNat else 3) then 16 - (if row < (nth Ts v).length then (bits .and .i64 (nth (nth Ts v) row) 15).toNat else 3) else (if row < (nth Ts v).length then (bits .and .i64 (nth (nth Ts v) row) 15).toNat else 3))≤8
 generalize (if row < (nth Ts v).length then (bits .and .i64 (nth (nth Ts v) row) 15).toNat else 3)=e at *
 split <;> omega
def entN (Ts Ps:List (List Int)) (v:Nat) (x:Asg):Nat:=if x v then eig Ts v (placeA (nth Ps v) x) else 8 - eig Ts v (placeA (nth Ps v) x)
def entQ (Ts Ps:List (List Int)) (v:Nat) (x:Asg):Rat:=mkRat (entN Ts Ps v x) 8
theorem entN_le (Ts Ps:List (List Int)) (v:Nat) (x:Asg):entN Ts Ps v x≤8:=by
 unfold entN
 have:=eig_le Ts v (placeA (nth Ps v) x)
 split <;> omega
theorem placeA_snoc (l:List Int) (y:Int) (x:Asg):placeA (l ++ [y]) x=2 * placeA l x + (x y.toNat).toNat:=by unfold placeA;rw [List.foldl_append];rfl
theorem placeA_lt (l:List Int) (x:Asg):placeA l x < 2 ^ l.length:=by
 have:∀ p k,p < 2 ^ k→l.foldl (fun p y=>2 * p + (x y.toNat).toNat) p < 2 ^ (k + l.length):=by
  induction l with
  | nil=>exact fun p k h=>h
  | cons y l ih =>
    intro p k h
    rw [List.foldl_cons,List.length_cons,show k + (l.length + 1)=(k + 1) + l.length by omega]
    refine ih _ _ ?_
    rw [Nat.pow_succ]
    have:(x y.toNat).toNat≤1:=by cases x y.toNat <;> decide
    omega
 have:=this 0 0 (by decide)
 rwa [Nat.zero_add] at this
theorem ent_wld {Ps Ts:List (List Int)} (hc:checkP Ps=0):Wld Ps (entQ Ts Ps):=by
 obtain ⟨h1,_,r,hr⟩:=checkP_ok hc
 have hself:∀ v,v < Ps.length→∀ y,y ∈ nth Ps v→y.toNat ≠ v:=fun v hv y hy e=>by
  have:=hr v (by rw [toG_length];exact hv) v (by rw [nth_toG hv];exact List.mem_map.2 ⟨y,hy,e⟩)
  omega
 refine ⟨fun v hv j hjv hjp x b=>?_,fun v hv x=>?_⟩
 ·unfold entQ entN
  rw [upd_other _ _ (Ne.symm hjv),placeA_free fun y hy e=>hjp (by rw [nth_toG hv];exact List.mem_map.2 ⟨y,hy,e⟩)]
 ·unfold entQ entN
  rw [placeA_free (hself v hv),placeA_free (hself v hv),upd_same,upd_same]
  simp only [Bool.false_eq_true,if_false,if_true]
  have:=eig_le Ts v (placeA (nth Ps v) x)
  generalize eig Ts v (placeA (nth Ps v) x)=e at *
  rw [Rat.mkRat_add_mkRat _ _ (by decide) (by decide)]
  rw [show (((8 - e:Nat):Int) * ((8:Nat):Int) + (e:Int) * ((8:Nat):Int))=64 by omega]
  rfl
end Go.Proofs.YtgbmnlmnhbkdbaaGreat
