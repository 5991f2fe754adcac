/- Joined by program out of: LinesM, Fam, FamN. What each says stands at its own head. -/
import Derived.Test.YtmncjibcoffmfaaGreatJ20
import Derived.Deep.MidRow
import Derived.Test.YtmncjibcoffmfaaGreatJ3
import Derived.Maps.AppendAt
set_option linter.unusedVariables false
set_option linter.unusedSimpArgs false
/- Memory for a place's lines and a network's rows: fractions in rows of the call's own, several cells stored at a place of a row in one step. -/
namespace Go.Proofs.YtmncjibcoffmfaaGreat
open Go.RowKit

structure QAt (w:World) (base:Nat) (h:RH) (q:Rat):Prop where
 neg:h.neg=isNeg q.num
 n:h.n=(limbs q.num.natAbs).length
 k:h.k=(limbs q.den).length
 num:OwnR eU w base 54 h.A h.n h.c (limbs q.num.natAbs)
 den:OwnR eU w base 54 h.D h.k h.e (limbs q.den)
theorem QAt.below {w w':World} {base:Nat} {h:RH} {q:Rat} (x:QAt w base h q) (hb:Below w.heap.size w w'):QAt w' base h q:=
 ⟨x.neg,x.n,x.k,x.num.below (Nat.le_refl _) hb,x.den.below (Nat.le_refl _) hb⟩
theorem QAt.mono {w:World} {base b2:Nat} {h:RH} {q:Rat} (x:QAt w base h q) (hb:b2≤base):QAt w b2 h q:=⟨x.neg,x.n,x.k,x.num.mono hb,x.den.mono hb⟩
theorem QAt.setLow {w:World} {base:Nat} {h:RH} {q:Rat} (x:QAt w base h q) {p:Addr} (hp:p.block < base) (v:Value):QAt (w.setCell p v) base h q:=by
 have key:∀ {A:Option Addr} {n c:Nat} {l:List Nat},OwnR eU w base 54 A n c l→OwnR eU (w.setCell p v) base 54 A n c l:=fun {A n c l} ho =>
  ho.setFar (fun g e=>by
   rcases ho.at_row with h1 | ⟨g',h1,h2,_⟩
   ·rw [h1] at e;cases e
   ·rw [h1] at e;injection e with e;injection e with e;omega) v
 exact ⟨x.neg,x.n,x.k,key x.num,key x.den⟩
theorem QAt.at {w:World} {base:Nat} {h:RH} {q:Rat} (x:QAt w base h q) (hb:ratLen q≤140737488351232):RatAt w h.val q (ratLen q):=by
 obtain ⟨s,A,n,c,D,k,e⟩:=h
 obtain ⟨h1,h2,h3,h4,h5⟩:=x
 simp only at h1 h2 h3 h4 h5
 subst h1 h2 h3
 exact ratAt_own h4 h5 hb
theorem QAt.of {w:World} {base:Nat} {q:Rat} {R D:Option Addr} {c d:Nat} (h1:OwnR eU w base 54 R (limbs q.num.natAbs).length c (limbs q.num.natAbs)) (h2:OwnR eU w base 54 D (limbs q.den).length d (limbs q.den)) :
 QAt w base ⟨isNeg q.num,R,(limbs q.num.natAbs).length,c,D,(limbs q.den).length,d⟩ q:=⟨rfl,rfl,rfl,h1,h2⟩
theorem QAt.cast {w:World} {base:Nat} {h:RH} {p q:Rat} (x:QAt w base h p) (e:p=q):QAt w base h q:=e ▸ x
def RH.cells (h:RH):List Value:=[.bool h.neg,.slice h.A h.n h.c,.slice h.D h.k h.e]
def lineA (N:NetV) (v row value k:Nat):Rat:=if k=value then 0 else shareQ N v row value k
def lineB (N:NetV) (v row value k:Nat):Rat:=if k=value then 1 else -shareQ N v row value k
theorem line_new (N:NetV) (v row value k:Nat) (x:Rat):lineA N v row value k + lineB N v row value k * x=newQ N v row value x k:=by
 unfold lineA lineB newQ
 split
 ·rw [Rat.one_mul,Rat.zero_add]
 ·exact share_line _ _
def lineC (ha hb:RH):List Value:=ha.cells ++ hb.cells
structure LinesTo (w:World) (g:Nat) (cs:List Value) (N:NetV) (v row value k:Nat):Prop where
 box:RowC w g 64 cs
 len:cs.length=nth N.Z v * 6
 at':∀ i,i < k→∃ ha hb:RH,(∀ j,j < 6→cs[i * 6 + j]?=(lineC ha hb)[j]?)∧QAt w (g + 1) ha (lineA N v row value i)∧QAt w (g + 1) hb (lineB N v row value i)
theorem LinesTo.below {w w':World} {g:Nat} {cs:List Value} {N:NetV} {v row value k:Nat} (h:LinesTo w g cs N v row value k) (hb:Below w.heap.size w w'):LinesTo w' g cs N v row value k:=
 ⟨h.box.below' hb,h.len,fun i hi=>by obtain ⟨ha,hb',h1,h2,h3⟩:=h.at' i hi;exact ⟨ha,hb',h1,h2.below hb,h3.below hb⟩⟩
def setL:List Value→Nat→List Value→List Value
 | cs,_,[]=>cs
 | cs,o,v :: r=>setL (cs.set o v) (o + 1) r
theorem setL_length:∀ (vs cs:List Value) (o:Nat),(setL cs o vs).length=cs.length
 | [],_,_=>rfl
 | v :: r,cs,o=>by rw [setL,setL_length r];simp
theorem setL_out:∀ (vs cs:List Value) (o j:Nat),(j < o ∨ o + vs.length≤j)→(setL cs o vs)[j]?=cs[j]?
 | [],_,_,_,_=>rfl
 | v :: r,cs,o,j,h=>by
   simp only [List.length_cons] at h
   rw [setL,setL_out r _ _ j (by omega),List.getElem?_set,if_neg (by omega)]
theorem setL_in:∀ (vs cs:List Value) (o j:Nat),o + vs.length≤cs.length→j < vs.length→(setL cs o vs)[o + j]?=vs[j]?
 | v :: r,cs,o,j,h,hj=>by
   simp only [List.length_cons] at h hj
   cases j with
   | zero =>
     rw [setL,setL_out r _ _ _ (by omega),List.getElem?_set,if_pos (by omega),if_pos (by omega)]
     rfl
   | succ q =>
     rw [setL,show o + (q + 1)=o + 1 + q by omega,setL_in r _ _ q (by simp;omega) (by omega),List.getElem?_cons_succ]
theorem RowC.setL {g:Nat} {e:TypeId}:∀ (vs:List Value) {w:World} {cs:List Value} (o:Nat),RowC w g e cs→RowC (w.setCells g o vs) g e (setL cs o vs)
 | [],_,_,_,h=>h
 | v :: r,_,_,o,h=>RowC.setL r (o + 1) (h.put o v)
theorem setCells_ind {p:World→Prop} {g:Nat} (hp:∀ w o v,p w→p (w.setCell ⟨g,o,none⟩ v)):∀ (vs:List Value) (o:Nat) (w:World),p w→p (w.setCells g o vs)
 | [],_,_,h=>h
 | v :: r,o,w,h=>setCells_ind hp r (o + 1) _ (hp w o v h)
theorem RowC.farS {w:World} {g x:Nat} {e:TypeId} {cs:List Value} (h:RowC w x e cs) (hx:x ≠ g) (o:Nat) (vs:List Value):RowC (w.setCells g o vs) x e cs:=
 setCells_ind (p:=fun w=>RowC w x e cs) (fun _ _ v h=>h.far (p:=⟨g,_,none⟩) hx v) vs o w h
theorem belowS {B:Nat} {w0 w:World} {g:Nat} (h:Below B w0 w) (hg:B≤g) (o:Nat) (vs:List Value):Below B w0 (w.setCells g o vs):=
 setCells_ind (p:=fun w=>Below B w0 w) (fun _ _ v h=>h.setCell (p:=⟨g,_,none⟩) hg v) vs o w h
theorem turnS {S:Nat→Prop} {w0 w:World} {g:Nat} (h:Turn w0 w S) (hg:g < w0.heap.size→S g) (o:Nat) (vs:List Value):Turn w0 (w.setCells g o vs) S:=
 setCells_ind (p:=fun w=>Turn w0 w S) (fun _ o v h=>h.setCell ⟨g,o,none⟩ hg v) vs o w h
theorem OwnR.farS {α:Type} {enc:α→Value} {w:World} {base:Nat} {e:TypeId} {A:Option Addr} {n c:Nat} {l:List α} (ho:OwnR enc w base e A n c l) {g:Nat} (hg:∀ x,A=some ⟨x,0,none⟩→x ≠ g) (o:Nat) (vs:List Value):OwnR enc (w.setCells g o vs) base e A n c l:=
 setCells_ind (p:=fun w=>OwnR enc w base e A n c l) (fun _ _ v h=>h.setFar (p:=⟨g,_,none⟩) hg v) vs o w ho
theorem QAt.farS {w:World} {base:Nat} {h:RH} {q:Rat} (x:QAt w base h q) {g:Nat} (hg:g < base) (o:Nat) (vs:List Value):QAt (w.setCells g o vs) base h q:=
 setCells_ind (p:=fun w=>QAt w base h q) (fun _ _ v h=>h.setLow (p:=⟨g,_,none⟩) hg v) vs o w x
theorem BoxQ.farS {w:World} {base gl:Nat} {q:Rat} (x:BoxQ w base gl q) {g:Nat} (hg:g < base) (hne:gl ≠ g) (o:Nat) (vs:List Value):BoxQ (w.setCells g o vs) base gl q:=by
 obtain ⟨R,c,D,d,h1,h2,h3,h4⟩:=x.ex
 have hk:=(QAt.of h2 h3).farS hg o vs
 exact ⟨R,c,D,d,h1.farS hne o vs,hk.num,hk.den,h4⟩
theorem run_build_op {P:Program} {S:World→Prop} {op:Oper} {a:Act} (t:TypeId) (parts:Array (Nat × Operand)) (ho:op.op=.build t parts) (cells:Array Value) (h:P.built t (parts.map fun (i,x)=>(i,a.eval x)).toList=some cells) :
 ∀ w,S w→(execOp a.eval op).run P w=.ok (.value (.agg cells)) w:=fun w _=>by
 unfold execOp
 simp only [ho,Sem.run_bind,run_build w t _ cells h,Result.andThen_ok]
 rfl
theorem wpL_atBuild {P:Program} {ops:Array Oper} {rest:List Oper} {op:Oper} {a:Act} {w:World} {Q:Exit→Act→World→Prop} {t:TypeId} {parts:Array (Nat × Operand)} (_:op.op=.build t parts) (h:wpList P ops Q (op :: rest) a w):wpList P ops Q (op :: rest) a w:=h
theorem wp_store_row {P:Program} {op:Oper} {a:Act} {w:World} {K:Act→World→Prop} {Q:Exit→Act→World→Prop} (ty:TypeId) (x y:Operand) (ho:op.op=.store ty x y) (g o:Nat) (vs:List Value)
 (hx:a.eval x=.pointer (some ⟨g,o,none⟩)) (hy:a.eval y=.agg vs.toArray) {e:TypeId} {cs:List Value} (hr:RowC w g e cs) (hl:o + vs.length≤cs.length) (hi:(P.info? ty).map (·.size)=some vs.length) (h1:vs.toArray.all (·.oneCell')=true)
 (h:∀ w',w'=w.setCells g o vs→K (a.put op.dst undef) w'):op.wp P a w K Q:=
 wp_store_mid ty x y ho g o vs.toArray hx hy (fun j hj=>⟨by rw [hr.cell,List.getElem?_eq_getElem (by simp at hj;omega)];rfl,hr.frozen _⟩) (by simpa using hi) h1 (by simpa using h _ rfl)
theorem wpL_store_row {P:Program} {ops:Array Oper} {rest:List Oper} {op:Oper} {a:Act} {w:World} {Q:Exit→Act→World→Prop} (hgd:op.guard=none) (ty:TypeId) (x y:Operand) (ho:op.op=.store ty x y) (g o:Nat) (vs:List Value)
 (hx:a.eval x=.pointer (some ⟨g,o,none⟩)) (hy:a.eval y=.agg vs.toArray) {e:TypeId} {cs:List Value} (hr:RowC w g e cs) (hl:o + vs.length≤cs.length) (hi:(P.info? ty).map (·.size)=some vs.length) (h1:vs.toArray.all (·.oneCell')=true)
 (h:∀ w',w'=w.setCells g o vs→wpList P ops Q rest (a.put op.dst undef) w'):wpList P ops Q (op :: rest) a w:=
 wpList_store_mid hgd ty x y ho g o vs.toArray hx hy (fun j hj=>⟨by rw [hr.cell,List.getElem?_eq_getElem (by simp at hj;omega)];rfl,hr.frozen _⟩) (by simpa using hi) h1 (by simpa using h _ rfl)
theorem LinesTo.put {w:World} {g:Nat} {cs:List Value} {N:NetV} {v row value i:Nat} (h:LinesTo w g cs N v row value i) (hi:i < nth N.Z v) {ha hb:RH} (h1:QAt w (g + 1) ha (lineA N v row value i)) (h2:QAt w (g + 1) hb (lineB N v row value i)) :
 LinesTo (w.setCells g (i * 6) (lineC ha hb)) g (setL cs (i * 6) (lineC ha hb)) N v row value (i + 1):=by
 have keep:∀ {h:RH} {q:Rat},QAt w (g + 1) h q→QAt (w.setCells g (i * 6) (lineC ha hb)) (g + 1) h q:=fun {h q} x=>x.farS (Nat.lt_succ_self g) _ _
 have hlen:=h.len
 have h6:(lineC ha hb).length=6:=rfl
 refine ⟨h.box.setL _ _,by rw [setL_length];exact hlen,fun q hq=>?_⟩
 by_cases hqi:q=i
 ·subst hqi
  exact ⟨ha,hb,fun j hj=>setL_in _ _ _ _ (by omega) (by omega),keep h1,keep h2⟩
 ·obtain ⟨ha',hb',e1,e2,e3⟩:=h.at' q (by omega)
  exact ⟨ha',hb',fun j hj=>by rw [setL_out _ _ _ _ (by omega)];exact e1 j hj,keep e2,keep e3⟩
theorem eiSlope:EIM Tryz.prog 61 64 (.agg #[.bool false,.slice none 0 0,.slice none 0 0,.bool false,.slice none 0 0,.slice none 0 0]) 6 112:=.mk' Tryz.underlying61 (by kernel_rfl) rfl (by omega) (by omega)
theorem wpList_mkM {P:Program} (w:World) {k:Nat} {t e:TypeId} {z:Value} {bytes:Nat} (I:EIM P t e z k bytes) {ops:Array Oper} {rest:List Oper} {o:Oper} {a:Act} {Q:Exit→Act→World→Prop} (hgd:o.guard=none) (l c:Operand)
 (ho:o.op=Op.makeSlice t l c) (n:Nat) (hl:a.eval l=.int .i64 (n:Int)) (hc:a.eval c=.int .i64 (n:Int)) (hb:bytes * n≤281474976710656)
 (h:∀ w' cs,RowC w' w.heap.size e cs→cs.length=n * k→Below w.heap.size w w'→wpList P ops Q rest (a.put o.dst (.slice (some ⟨w.heap.size,0,none⟩) n n)) w'):wpList P ops Q (o :: rest) a w:=by
 obtain ⟨⟨i,e1,e2,e3,e4,e5⟩,hz,hp,hk⟩:=I
 have hn:1 * n≤bytes * n:=Nat.mul_le_mul_right _ hp
 refine wpList_make_full w hgd l c t ho w.heap.size e i z k e1 e2 e3 e4 .i64 .i64 _ _ n hl hc rfl rfl (by rw [e5];exact hb) (by unfold maxLen;omega) (Nat.le_refl _) fun w' h1 h2=>?_
 rcases h1.2 with ⟨h3,_⟩ | ⟨g,cap,cur,h3,h4,h5,h6,h7,h8,h9⟩
 ·cases h3
 ·injection h3 with e6 e7 e8
  injection e6 with e6
  injection e6 with e6
  subst e6 e8
  exact h w' cur.toList (by unfold RowC;rw [h5]) (by simpa using h8) ⟨h2.os,h2.tape,h2.output,h2.size,fun b hb=>h2.block b hb (by simp)⟩
structure Hdr3 (w:World) (b o:Nat) (h:RH):Prop where
 lt:b < w.heap.size
 c0:w.cell? ⟨b,o,none⟩=some (.bool h.neg)
 c1:w.cell? ⟨b,o + 1,none⟩=some (.slice h.A h.n h.c)
 c2:w.cell? ⟨b,o + 2,none⟩=some (.slice h.D h.k h.e)
instance {b o:Nat} {h:RH}:Stable (fun w=>Hdr3 w b o h):=⟨fun hb x=>⟨Nat.lt_of_lt_of_le x.lt hb.size,(hb.cell x.lt).trans x.c0,(hb.cell x.lt).trans x.c1,(hb.cell x.lt).trans x.c2⟩⟩
instance {g:Nat} {cs:List Value} {N:NetV} {v row value k:Nat}:Stable (fun w=>LinesTo w g cs N v row value k):=⟨fun hb h=>h.below hb⟩
instance {base:Nat} {h:RH} {q:Rat}:Stable (fun w=>QAt w base h q):=⟨fun hb x=>x.below hb⟩
theorem mul_lens (p q:Rat):numL (p * q)≤numL p + numL q∧denL (p * q)≤denL p + denL q:=by
 have e:p * q=mkRat (p.num * q.num) (p.den * q.den):=by
  have:=ratR_mul (isNeg p.num) (isNeg q.num) p.num.natAbs q.num.natAbs p.den q.den
  rw [← sgn_mul,sgn_isNeg,sgn_isNeg,ratR_norm,ratR_norm,und_ne p.den_nz,und_ne q.den_nz] at this
  exact this.symm
 have hm:=mk_lens (p.num * q.num) (Nat.mul_ne_zero p.den_nz q.den_nz)
 rw [← e,Int.natAbs_mul] at hm
 exact ⟨Nat.le_trans hm.1 (limbs_mul_len _ _),Nat.le_trans hm.2 (limbs_mul_len _ _)⟩
theorem mul_len (p q:Rat):ratLen (p * q)≤ratLen p + ratLen q:=by
 have:=mul_lens p q
 rw [ratLen_eq,ratLen_eq,ratLen_eq]
 omega
theorem div_len (p q:Rat) (hq:q ≠ 0):ratLen (p / q)≤ratLen p + ratLen q:=by
 have hn:q.num.natAbs ≠ 0:=fun h=>hq (Rat.num_eq_zero.1 (Int.natAbs_eq_zero.1 h))
 have e:=ratR_div (isNeg p.num) (isNeg q.num) p.num.natAbs q.num.natAbs p.den q.den hn
 rw [ratR_norm,ratR_norm,und_ne p.den_nz,und_ne q.den_nz] at e
 have hm:=mk_lens (sgn (isNeg p.num != isNeg q.num) (p.num.natAbs * q.den)) (Nat.mul_ne_zero p.den_nz hn)
 rw [e,sgn_natAbs] at hm
 have h1:=limbs_mul_len p.num.natAbs q.den
 have h2:=limbs_mul_len p.den q.num.natAbs
 unfold ratLen numL denL at *
 omega
theorem add_len (p q:Rat):ratLen (p + q)≤2 * (ratLen p + ratLen q) + 1:=by
 have h:=add_lens p q (k:=ratLen p + ratLen q) (by rw [ratLen_eq,ratLen_eq];omega) (by rw [ratLen_eq,ratLen_eq];omega)
 rw [ratLen_eq,ratLen_eq,ratLen_eq] at *
 omega
theorem sub_len (p q:Rat):ratLen (p - q)≤2 * (ratLen p + ratLen q) + 1:=by
 rw [Rat.sub_eq_add_neg]
 have:=add_len p (-q)
 rw [ratLen_neg] at this
 exact this
end Go.Proofs.YtmncjibcoffmfaaGreat
/- The lists of a network in memory of its own, as one family by keys: each in a block of its own; what steps keep of it. No condition. -/
namespace Go.Proofs.YtmncjibcoffmfaaGreat
open Go.RowKit

structure Lst where
 e:TypeId
 s:Nat
 A:Option Addr
 n:Nat
 c:Nat
 cs:List Value
def Lst.val (l:Lst):Value:=.slice l.A l.n l.c
def Lst.own (l:Lst) (w:World) (base:Nat):Prop:=w.ownsRow base l.e l.s l.val l.n l.cs
theorem Lst.own.lt {l:Lst} {w:World} {base:Nat} (h:l.own w base) {b:Nat} (hb:l.val.ownBlock=some b):base≤b∧b < w.heap.size:=World.ownsRow.lt h b hb
theorem Lst.own.mono {l:Lst} {w:World} {base b2:Nat} (h:l.own w base) (hb:b2≤base):l.own w b2:=by
 refine ⟨h.1,?_⟩
 rcases h.2 with h2 | ⟨g,cap,cur,h1,hg,r⟩
 ·exact .inl h2
 ·exact .inr ⟨g,cap,cur,h1,Nat.le_trans hb hg,r⟩
theorem Lst.own.turn {l:Lst} {w w':World} {base:Nat} {S:Nat→Prop} (h:l.own w base) (ht:Turn w w' S) (hS:∀ b,l.val.ownBlock=some b→¬ S b):l.own w' base:=by
 refine ⟨h.1,?_⟩
 rcases h.2 with h2 | ⟨g,cap,cur,h1,hg,hh,r⟩
 ·exact .inl h2
 ·exact .inr ⟨g,cap,cur,h1,hg,(ht.block g (Array.getElem?_eq_some_iff.1 hh).1 (hS g (by rw [h1];rfl))).trans hh,r⟩
theorem Lst.own.below {l:Lst} {w w':World} {base:Nat} (h:l.own w base) (hb:Below w.heap.size w w'):l.own w' base:=h.turn (Turn.of_below hb (fun _=>False)) fun _ _ x=>x
theorem Lst.own.addr {l:Lst} {w:World} {base:Nat} (h:l.own w base):(l.A=none∧l.n=0∧l.c=0∧l.cs=[]) ∨ ∃ g,l.A=some ⟨g,0,none⟩∧l.val.ownBlock=some g∧base≤g∧g < w.heap.size:=by
 rcases h.2 with ⟨h1,h2⟩ | ⟨g,cap,cur,h1,hg,hh,_⟩
 ·unfold Lst.val at h1
  injection h1 with e1 e2 e3
  exact .inl ⟨e1,h2,e3,List.eq_nil_of_length_eq_zero (by rw [h.1,h2,Nat.zero_mul])⟩
 ·have h1':=h1
  unfold Lst.val at h1'
  injection h1' with e1 e2 e3
  exact .inr ⟨g,e1,by rw [h1];rfl,hg,(Array.getElem?_eq_some_iff.1 hh).1⟩
theorem Lst.own.row {l:Lst} {w:World} {base g:Nat} (h:l.own w base) (hg:l.val.ownBlock=some g):∃ cs,RowC w g l.e cs∧cs.length=l.c * l.s∧l.n≤l.c∧cs.take (l.n * l.s)=l.cs:=by
 rcases h.2 with ⟨h1,h2⟩ | ⟨g',cap,cur,h1,_,hh,h3,h4,h5,h6⟩
 ·rw [h1] at hg;cases hg
 ·rw [h1] at hg
  injection hg with hg
  simp only at hg
  subst hg
  unfold Lst.val at h1
  injection h1 with e1 e2 e3
  subst e3
  exact ⟨cur.toList,by unfold RowC;rw [hh],by simpa using h5,h3,h6⟩
theorem Lst.own.cell {l:Lst} {w:World} {base g:Nat} (h:l.own w base) (hg:l.A=some ⟨g,0,none⟩) {j:Nat} (hj:j < l.n * l.s):w.cell? ⟨g,j,none⟩=l.cs[j]?:=by
 have hb:l.val.ownBlock=some g:=by unfold Lst.val;rw [hg];rfl
 obtain ⟨cs,h1,h2,h3,h4⟩:=h.row hb
 rw [h1.cell,← h4,List.getElem?_take,if_pos hj]
theorem Lst.own.len {l:Lst} {w:World} {base:Nat} (h:l.own w base):l.cs.length=l.n * l.s:=h.1
theorem Lst.own.cap {l:Lst} {w:World} {base:Nat} (h:l.own w base):l.n≤l.c:=by
 rcases h.2 with ⟨h1,h2⟩ | ⟨g',cap,cur,h1,_,hh,h3,h4,h5,h6⟩
 ·omega
 ·unfold Lst.val at h1
  injection h1 with e1 e2 e3
  omega
theorem Lst.own.big {l:Lst} {w:World} {base:Nat} (h:l.own w base):l.c≤maxLen:=by
 rcases h.2 with ⟨h1,h2⟩ | ⟨g',cap,cur,h1,_,hh,h3,h4,h5,h6⟩
 ·unfold Lst.val at h1
  injection h1 with e1 e2 e3
  omega
 ·unfold Lst.val at h1
  injection h1 with e1 e2 e3
  omega
theorem Lst.own.cut {l:Lst} {w:World} {base n:Nat} (h:l.own w base) (hn:n≤l.n) (hA:l.A ≠ none):(⟨l.e,l.s,l.A,n,l.c,l.cs.take (n * l.s)⟩:Lst).own w base:=by
 rcases h.2 with ⟨h1,h2⟩ | ⟨g',cap,cur,h1,hb,hh,h3,h4,h5,h6⟩
 ·unfold Lst.val at h1
  injection h1 with e1 e2 e3
  exact absurd e1 hA
 ·unfold Lst.val at h1
  injection h1 with e1 e2 e3
  have hm:n * l.s≤l.n * l.s:=Nat.mul_le_mul_right _ hn
  refine ⟨by simp only [List.length_take];rw [h.1];omega,.inr ⟨g',cap,cur,?_,hb,hh,by simp only;omega,h4,h5,?_⟩⟩
  ·simp only [Lst.val];rw [e1,e3]
  ·simp only
   rw [← h6,List.take_take,Nat.min_eq_left hm]
theorem Lst.own.put {l:Lst} {w:World} {base g:Nat} (h:l.own w base) (hg:l.A=some ⟨g,0,none⟩) (vs:List Value) (o:Nat):(⟨l.e,l.s,l.A,l.n,l.c,setL l.cs o vs⟩:Lst).own (w.setCells g o vs) base:=by
 induction vs generalizing l w o with
 | nil=>exact h
 | cons v r ih =>
   obtain ⟨e,s,A,n,c,cs⟩:=l
   simp only at hg
   subst hg
   exact ih (l:=⟨e,s,some ⟨g,0,none⟩,n,c,cs.set o v⟩) (World.ownsRow.stored h o v).1 rfl (o + 1)
theorem RowC.turnSet {w:World} {g:Nat} (o:Nat) (vs:List Value):Turn w (w.setCells g o vs) (fun b=>b=g):=turnS (Turn.refl w (fun b=>b=g)) (fun _=>rfl) o vs
theorem OwnM.lst {α:Type} {k:Nat} {E:Enc α k} {w:World} {base:Nat} {e:TypeId} {A:Option Addr} {n c:Nat} {xs:List α} (h:OwnM E w base e A n c xs):(⟨e,k,A,n,c,xs.flatMap E.cells⟩:Lst).own w base:=h
theorem Lst.own.ownR {α:Type} {enc:α→Value} {l:Lst} {w:World} {base:Nat} {xs:List α} (h:l.own w base) (hs:l.s=1) (hc:l.cs=xs.map enc):OwnR enc w base l.e l.A l.n l.c xs:=by
 have h2:=h
 unfold Lst.own at h2
 rw [hs,hc] at h2
 exact h2
theorem Lst.own.ownM {α:Type} {k:Nat} {E:Enc α k} {l:Lst} {w:World} {base:Nat} {xs:List α} (h:l.own w base) (hs:l.s=k) (hc:l.cs=xs.flatMap E.cells):OwnM E w base l.e l.A l.n l.c xs:=by
 have h2:=h
 unfold Lst.own at h2
 rw [hs,hc] at h2
 exact h2

abbrev Key:=Nat × Nat × Nat
structure Fam (w:World) (lo:Nat) (M:Key→Lst):Prop where
 own:∀ k,(M k).own w lo
 apart:∀ k k' b,(M k).val.ownBlock=some b→(M k').val.ownBlock=some b→k=k'
def upd (M:Key→Lst) (k:Key) (L:Lst):Key→Lst:=fun q=>if q=k then L else M q
theorem upd_same (M:Key→Lst) (k:Key) (L:Lst):upd M k L k=L:=if_pos rfl
theorem upd_ne (M:Key→Lst) {k q:Key} (L:Lst) (h:q ≠ k):upd M k L q=M q:=if_neg h
section
variable {w w':World} {lo:Nat} {M:Key→Lst}
theorem Fam.lt (h:Fam w lo M) {k:Key} {b:Nat} (hb:(M k).val.ownBlock=some b):lo≤b∧b < w.heap.size:=(h.own k).lt hb
theorem Fam.turn {S:Nat→Prop} (h:Fam w lo M) (ht:Turn w w' S) (hS:∀ k b,(M k).val.ownBlock=some b→¬ S b):Fam w' lo M:=⟨fun k=>(h.own k).turn ht (hS k),h.apart⟩
theorem Fam.below (h:Fam w lo M) (hb:Below w.heap.size w w'):Fam w' lo M:=⟨fun k=>(h.own k).below hb,h.apart⟩
instance:Stable (fun w=>Fam w lo M):=⟨fun hb h=>h.below hb⟩
theorem Fam.mono (h:Fam w lo M) {l2:Nat} (hl:l2≤lo):Fam w l2 M:=⟨fun k=>(h.own k).mono hl,h.apart⟩
theorem Fam.setLow (h:Fam w lo M) {p:Addr} (hp:p.block < lo) (v:Value):Fam (w.setCell p v) lo M:=
 h.turn (S:=fun b=>b=p.block) ((Turn.refl w (fun b=>b=p.block)).setCell p (fun _=>rfl) v) fun k b hb e=>by have:=(h.lt hb).1;omega
theorem Fam.setLowS (h:Fam w lo M) {g:Nat} (hg:g < lo) (o:Nat) (vs:List Value):Fam (w.setCells g o vs) lo M:=
 h.turn (S:=fun b=>b=g) (RowC.turnSet o vs) fun k b hb e=>by have:=(h.lt hb).1;omega
theorem Fam.set (h:Fam w lo M) (k:Key) {L:Lst} (ho:L.own w lo) (hs:∀ q b,q ≠ k→L.val.ownBlock=some b→(M q).val.ownBlock ≠ some b):Fam w lo (upd M k L):=by
 refine ⟨fun q=>?_,fun q q' b h1 h2=>?_⟩
 ·by_cases e:q=k
  ·subst e;rw [upd_same];exact ho
  ·rw [upd_ne M L e];exact h.own q
 ·by_cases e:q=k
  ·by_cases e':q'=k
   ·rw [e,e']
   ·rw [e,upd_same] at h1
    rw [upd_ne M L e'] at h2
    exact absurd h2 (hs q' b e' h1)
  ·rw [upd_ne M L e] at h1
   by_cases e':q'=k
   ·rw [e',upd_same] at h2
    exact absurd h1 (hs q b e h2)
   ·rw [upd_ne M L e'] at h2
    exact h.apart q q' b h1 h2
theorem Fam.new (h:Fam w lo M) (hb:Below w.heap.size w w') (k:Key) {L:Lst} (ho:L.own w' w.heap.size) (hl:lo≤w.heap.size):Fam w' lo (upd M k L):=
 (h.below hb).set k (ho.mono hl) fun q b _ h1 h2=>by
   have e1:=(ho.lt h1).1
   have e2:=(h.lt h2).2
   omega
theorem Fam.app (h:Fam w lo M) (k:Key) (hg:w.grownBy w' (M k).val.ownBlock) {L:Lst} (ho:L.own w' lo) (hat:L.val.ownBlock=(M k).val.ownBlock ∨ L.val.ownBlock=some w.heap.size):Fam w' lo (upd M k L):=by
 have hq:∀ q,q ≠ k→(M q).own w' lo:=fun q e=>(h.own q).turn (Turn.of_grown hg) fun b h1 h2=>e (h.apart q k b h1 h2)
 refine ⟨fun q=>?_,fun q q' b h1 h2=>?_⟩
 ·by_cases e:q=k
  ·subst e;rw [upd_same];exact ho
  ·rw [upd_ne M L e];exact hq q e
 ·have key:∀ q,q ≠ k→L.val.ownBlock=some b→(M q).val.ownBlock ≠ some b:=fun q e h3 h4=>by
   rcases hat with h5 | h5
   ·rw [h5] at h3;exact e (h.apart q k b h4 h3)
   ·rw [h5] at h3
    injection h3 with h3
    have:=(h.lt h4).2
    omega
  by_cases e:q=k
  ·by_cases e':q'=k
   ·rw [e,e']
   ·rw [e,upd_same] at h1
    rw [upd_ne M L e'] at h2
    exact absurd h2 (key q' e' h1)
  ·rw [upd_ne M L e] at h1
   by_cases e':q'=k
   ·rw [e',upd_same] at h2
    exact absurd h1 (key q e h2)
   ·rw [upd_ne M L e'] at h2
    exact h.apart q q' b h1 h2
def Lst.over (l:Lst) (o:Nat) (vs:List Value):Lst:=⟨l.e,l.s,l.A,l.n,l.c,setL l.cs o vs⟩
theorem Fam.put (h:Fam w lo M) (k:Key) {g:Nat} (hg:(M k).A=some ⟨g,0,none⟩) (o:Nat) (vs:List Value):Fam (w.setCells g o vs) lo (upd M k ((M k).over o vs)):=by
 have hb:(M k).val.ownBlock=some g:=by unfold Lst.val;rw [hg];rfl
 have hq:∀ q,q ≠ k→(M q).own (w.setCells g o vs) lo:=fun q e=>(h.own q).turn (RowC.turnSet o vs) fun b h1 h2=>e (h.apart q k b h1 (by rw [h2];exact hb))
 refine ⟨fun q=>?_,fun q q' b h1 h2=>?_⟩
 ·by_cases e:q=k
  ·subst e;rw [upd_same];exact (h.own q).put hg vs o
  ·rw [upd_ne M _ e];exact hq q e
 ·have key:∀ q,(upd M k ((M k).over o vs) q).val=(M q).val:=fun q=>by
   by_cases e:q=k
   ·subst e;rw [upd_same];rfl
   ·rw [upd_ne M _ e]
  rw [key] at h1 h2
  exact h.apart q q' b h1 h2
theorem Fam.slack (h:Fam w lo M) (k:Key) (ht:Turn w w' (fun b=>(M k).val.ownBlock=some b)) (ho:(M k).own w' lo):Fam w' lo M:=
 ⟨fun q=>by
   by_cases e:q=k
   ·subst e;exact ho
   ·exact (h.own q).turn ht fun b h1 h2=>e (h.apart q k b h1 h2),h.apart⟩
end
theorem Fam.none (w:World) (lo:Nat) (M:Key→Lst) (h:∀ k,(M k).A=none∧(M k).n=0∧(M k).c=0∧(M k).cs=[]):Fam w lo M:=
 ⟨fun k=>by
   obtain ⟨h1,h2,h3,h4⟩:=h k
   refine ⟨by rw [h4,h2];simp,.inl ⟨?_,h2⟩⟩
   unfold Lst.val;rw [h1,h2,h3],fun k k' b e=>by
   unfold Lst.val at e;rw [(h k).1] at e;cases e⟩
def noneM:Key→Lst:=fun _=>⟨0,1,none,0,0,[]⟩

section
variable {P:Program} (w:World)
theorem wp_app_raw {t:TypeId} {z:Value} {L:Lst} {bytes:Nat} (I:EIM P t L.e z L.s bytes) {o:Oper} {a:Act} {K:Act→World→Prop} {Q:Exit→Act→World→Prop} (s x:Operand)
 (ho:o.op=.call { callee:=.builtin .append,args:=#[s,x],argTypes:=#[t,t] }) (base:Nat) (hs:a.eval s=L.val) (hown:L.own w base)
 (ad:Addr) (m d:Nat) (news:List Value) (hx:a.eval x=.slice (some ad) m d) (hl:news.length=m * L.s) (hy:∀ j u,news[j]?=some u→w.cell? (ad.add j)=some u) (h1:∀ u ∈ news,u.oneCell'=true) (hbytes:(L.n + m) * bytes≤140737488355328) (hbase:base≤w.heap.size) (hm:0 < m)
 (h:∀ A' c' w',(⟨L.e,L.s,A',L.n + m,c',L.cs ++ news⟩:Lst).own w' base→w.grownBy w' L.val.ownBlock→Below base w w' →
   ((Value.slice A' (L.n + m) c').ownBlock=L.val.ownBlock ∨ (Value.slice A' (L.n + m) c').ownBlock=some w.heap.size)→K (a.put o.dst (.slice A' (L.n + m) c')) w'):o.wp P a w K Q:=by
 obtain ⟨⟨i,e1,e2,e3,e4,e5⟩,hz,hp,hk⟩:=I
 have hrow:∀ q,L.val.ownBlock=some q→base≤q:=fun q hq=>(hown.lt hq).1
 have h63:L.n + m≤maxLen:=by
  have:(L.n + m) * 1≤(L.n + m) * bytes:=Nat.mul_le_mul_left _ hp
  unfold maxLen;omega
 obtain ⟨v',w',hrun,h2,h3,h4,h5⟩:=run_append_own_at (P:=P) w base t o.type L.e i z L.s bytes e1 e2 e3 e4 e5 hz hk L.val L.n L.cs hown ad m d news hl hy h1 h63 hbytes hbase
 have hv:∃ A' c',v'=.slice A' (L.n + m) c':=by
  rcases h2.2 with ⟨_,h0⟩ | ⟨g,cap,cur,rfl,_⟩
  ·omega
  ·exact ⟨_,cap,rfl⟩
 obtain ⟨A',c',rfl⟩:=hv
 unfold Oper.wp execOp
 simp only [ho,resolve,invoke,builtin,Sem.run_bind,Sem.run_pure,Result.andThen_ok,List.map_toArray,List.map_cons,List.map_nil,hs,hx,hrun]
 exact h A' c' w' h2 h3 ((Below.refl _ _).grown h3 hbase hrow) h5
theorem wpList_app_raw {t:TypeId} {z:Value} {L:Lst} {bytes:Nat} (I:EIM P t L.e z L.s bytes) {ops:Array Oper} {rest:List Oper} {o:Oper} {a:Act} {Q:Exit→Act→World→Prop} (hgd:o.guard=none) (s x:Operand)
 (ho:o.op=.call { callee:=.builtin .append,args:=#[s,x],argTypes:=#[t,t] }) (base:Nat) (hs:a.eval s=L.val) (hown:L.own w base)
 (ad:Addr) (m d:Nat) (news:List Value) (hx:a.eval x=.slice (some ad) m d) (hl:news.length=m * L.s) (hy:∀ j u,news[j]?=some u→w.cell? (ad.add j)=some u) (h1:∀ u ∈ news,u.oneCell'=true) (hbytes:(L.n + m) * bytes≤140737488355328) (hbase:base≤w.heap.size) (hm:0 < m)
 (h:∀ A' c' w',(⟨L.e,L.s,A',L.n + m,c',L.cs ++ news⟩:Lst).own w' base→w.grownBy w' L.val.ownBlock→Below base w w' →
   ((Value.slice A' (L.n + m) c').ownBlock=L.val.ownBlock ∨ (Value.slice A' (L.n + m) c').ownBlock=some w.heap.size)→wpList P ops Q rest (a.put o.dst (.slice A' (L.n + m) c')) w'):wpList P ops Q (o :: rest) a w:=by
 refine wpList_plain hgd fun K hK=>?_
 exact wp_app_raw w I s x ho base hs hown ad m d news hx hl hy h1 hbytes hbase hm fun A' c' w' a1 a2 a3 a4=>hK _ _ (h A' c' w' a1 a2 a3 a4)
theorem step_appR {α:Type} [Inhabited α] {t e:TypeId} {z:Value} {bytes:Nat} (E:EI P t e z bytes) (enc:α→Value) (h1:∀ x,(enc x).oneCell'=true) {ops:Array Oper} {o:Oper} {a:Act} {K:Act→World→Prop} {Q:Exit→Act→World→Prop} {F:Prop} (hgd:o.guard=none) (s x:Operand)
 (ho:o.op=.call { callee:=.builtin .append,args:=#[s,x],argTypes:=#[t,t] }) (base:Nat) (A:Option Addr) (n c:Nat) (xs:List α) (hs:a.eval s=.slice A n c) (hown:OwnR enc w base e A n c xs)
 (B:Option Addr) (m d:Nat) (ys:List α) (hx:a.eval x=.slice B m d) (hy:Sl enc w B m ys) (hbytes:(n + m) * bytes≤140737488355328) (hbase:base≤w.heap.size)
 (h:∀ A' c' w',OwnR enc w' base e A' (n + m) c' (xs ++ ys)→w.grownBy w' (Value.slice A n c).ownBlock→Below base w w' →
   ((Value.slice A' (n + m) c').ownBlock=(Value.slice A n c).ownBlock ∨ (Value.slice A' (n + m) c').ownBlock=some w.heap.size)→K (a.put o.dst (.slice A' (n + m) c')) w') :
 if Region.wanted o (yielded ops a.tmps)=true then Oper.wp P o a w K Q else F:=by
 obtain ⟨⟨i,e1,e2,e3,e4,e5⟩,hz,hp⟩:=E
 refine step_append_sl w enc h1 hgd s x t ho base e i z bytes e1 e2 e3 e4 e5 (by rw [hz];rfl) A n c xs hs hown B m d ys hx hy ?_ hbytes hbase h
 have:(n + m) * 1≤(n + m) * bytes:=Nat.mul_le_mul_left _ hp
 unfold maxLen;omega
theorem step_app_raw {t:TypeId} {z:Value} {L:Lst} {bytes:Nat} (I:EIM P t L.e z L.s bytes) {ops:Array Oper} {o:Oper} {a:Act} {K:Act→World→Prop} {Q:Exit→Act→World→Prop} {F:Prop} (hgd:o.guard=none) (s x:Operand)
 (ho:o.op=.call { callee:=.builtin .append,args:=#[s,x],argTypes:=#[t,t] }) (base:Nat) (hs:a.eval s=L.val) (hown:L.own w base)
 (ad:Addr) (m d:Nat) (news:List Value) (hx:a.eval x=.slice (some ad) m d) (hl:news.length=m * L.s) (hy:∀ j u,news[j]?=some u→w.cell? (ad.add j)=some u) (h1:∀ u ∈ news,u.oneCell'=true) (hbytes:(L.n + m) * bytes≤140737488355328) (hbase:base≤w.heap.size) (hm:0 < m)
 (h:∀ A' c' w',(⟨L.e,L.s,A',L.n + m,c',L.cs ++ news⟩:Lst).own w' base→w.grownBy w' L.val.ownBlock→Below base w w' →
   ((Value.slice A' (L.n + m) c').ownBlock=L.val.ownBlock ∨ (Value.slice A' (L.n + m) c').ownBlock=some w.heap.size)→K (a.put o.dst (.slice A' (L.n + m) c')) w') :
 if Region.wanted o (yielded ops a.tmps)=true then Oper.wp P o a w K Q else F:=by
 have hw:Region.wanted o (yielded ops a.tmps)=true:=by simp [Region.wanted,hgd]
 rw [if_pos hw]
 exact wp_app_raw w I s x ho base hs hown ad m d news hx hl hy h1 hbytes hbase hm h
end
theorem newCells (w:World) (e:TypeId) (cs:List Value):∀ j u,cs[j]?=some u→(w.alloc (.cells cs.toArray e)).cell? ((⟨w.heap.size,0,none⟩:Addr).add j)=some u:=fun j u h=>by
 rw [show (⟨w.heap.size,0,none⟩:Addr).add j=⟨w.heap.size,0 + j,none⟩ from Addr.add_lit _ _ _,cell_of_row _ _ _ _ _ _ (heap_alloc_new w _),Nat.zero_add]
 simpa using h
theorem eimStr:EIM Tryz.prog 22 9 (.string ByteArray.empty) 1 16:=.mk' Tryz.underlying22 (by kernel_rfl) rfl (by omega) (by omega)
theorem eimInt:EIM Tryz.prog 53 3 (.int .i64 0) 1 8:=.mk' Tryz.underlying53 (by kernel_rfl) rfl (by omega) (by omega)
end Go.Proofs.YtmncjibcoffmfaaGreat
/- A network in memory of its own as a family of lists: what its lists hold, by how many of them stand; it reads as a network. No condition. -/
namespace Go.Proofs.YtmncjibcoffmfaaGreat
open Go.RowKit

theorem eimSS:EIM Tryz.prog 23 22 (.slice none 0 0) 1 24:=.mk' Tryz.underlying23 (by kernel_rfl) rfl (by omega) (by omega)
theorem eimII:EIM Tryz.prog 24 53 (.slice none 0 0) 1 24:=.mk' Tryz.underlying24 (by kernel_rfl) rfl (by omega) (by omega)
theorem eimRR:EIM Tryz.prog 25 45 (.slice none 0 0) 1 24:=.mk' Tryz.underlying25 (by kernel_rfl) rfl (by omega) (by omega)
abbrev kN:Key:=(0,0,0)
abbrev kV:Key:=(1,0,0)
abbrev kP:Key:=(2,0,0)
abbrev kT:Key:=(3,0,0)
abbrev kv (i:Nat):Key:=(4,i,0)
abbrev kp (i:Nat):Key:=(5,i,0)
abbrev kt (i:Nat):Key:=(6,i,0)
abbrev kn (i j:Nat):Key:=(7,i,j)
abbrev kd (i j:Nat):Key:=(8,i,j)
theorem kne {a b:Nat} {x y:Nat × Nat} (h:a ≠ b):((a,x):Key) ≠ (b,y):=fun e=>h (congrArg Prod.fst e)
theorem kni {a b c d x y:Nat} (h:a ≠ b):((c,a,x):Key) ≠ (d,b,y):=fun e=>h (congrArg (fun q:Key=>q.2.1) e)
theorem knj {a b c d x y:Nat} (h:a ≠ b):((c,x,a):Key) ≠ (d,y,b):=fun e=>h (congrArg (fun q:Key=>q.2.2) e)
structure Is (L:Lst) (e:TypeId) (s n:Nat) (cs:List Value):Prop where
 e:L.e=e
 s:L.s=s
 n:L.n=n
 cs:L.cs=cs
def hdr (M:Key→Lst) (T:Nat→Nat→Rat) (i j:Nat):RH:=⟨isNeg (T i j).num,(M (kn i j)).A,(M (kn i j)).n,(M (kn i j)).c,(M (kd i j)).A,(M (kd i j)).n,(M (kd i j)).c⟩
def hdrs (M:Key→Lst) (T:Nat→Nat→Rat) (i m:Nat):List RH:=(List.range m).map (hdr M T i)
structure Tab (M:Key→Lst) (T:Nat→Nat→Rat) (i m:Nat):Prop where
 row:Is (M (kt i)) 36 3 m ((hdrs M T i m).flatMap ratE.cells)
 num:∀ j,j < m→Is (M (kn i j)) 54 1 (limbs (T i j).num.natAbs).length ((limbs (T i j).num.natAbs).map eU)
 den:∀ j,j < m→Is (M (kd i j)) 54 1 (limbs (T i j).den).length ((limbs (T i j).den).map eU)
section
variable {M:Key→Lst} {T T':Nat→Nat→Rat} {i m:Nat}
theorem hdrs_congr {M':Key→Lst} (h:∀ j,j < m→M' (kn i j)=M (kn i j)∧M' (kd i j)=M (kd i j)) (hT:∀ j,j < m→T' i j=T i j):hdrs M' T' i m=hdrs M T i m:=by
 unfold hdrs
 refine List.map_congr_left fun j hj=>?_
 have hj:=List.mem_range.1 hj
 unfold hdr
 rw [(h j hj).1,(h j hj).2,hT j hj]
theorem Tab.congr {M':Key→Lst} (h:Tab M T i m) (h0:M' (kt i)=M (kt i)) (h1:∀ j,j < m→M' (kn i j)=M (kn i j)∧M' (kd i j)=M (kd i j)) (hT:∀ j,j < m→T' i j=T i j):Tab M' T' i m:=
 ⟨by rw [h0,hdrs_congr h1 hT];exact h.row,fun j hj=>by rw [(h1 j hj).1,hT j hj];exact h.num j hj,fun j hj=>by rw [(h1 j hj).2,hT j hj];exact h.den j hj⟩
theorem Tab.upd (h:Tab M T i m) {k:Key} (L:Lst) (h0:kt i ≠ k) (h1:∀ j,j < m→kn i j ≠ k∧kd i j ≠ k):Tab (upd M k L) T i m:=
 h.congr (upd_ne M L h0) (fun j hj=>⟨upd_ne M L (h1 j hj).1,upd_ne M L (h1 j hj).2⟩) fun _ _=>rfl
theorem Tab.zero (h:Is (M (kt i)) 36 3 0 []):Tab M T i 0:=⟨h,fun _ hj=>absurd hj (Nat.not_lt_zero _),fun _ hj=>absurd hj (Nat.not_lt_zero _)⟩
def numL' (R:Option Addr) (c:Nat) (q:Rat):Lst:=⟨54,1,R,(limbs q.num.natAbs).length,c,(limbs q.num.natAbs).map eU⟩
def denL' (D:Option Addr) (d:Nat) (q:Rat):Lst:=⟨54,1,D,(limbs q.den).length,d,(limbs q.den).map eU⟩
def rhL (R:Option Addr) (c:Nat) (D:Option Addr) (d:Nat) (q:Rat):RH:=⟨isNeg q.num,R,(limbs q.num.natAbs).length,c,D,(limbs q.den).length,d⟩
theorem Fam.new2 {w w':World} {lo:Nat} {M:Key→Lst} (h:Fam w lo M) (hb:Below w.heap.size w w') (k k':Key) {L L':Lst} (ho:L.own w' w.heap.size) (ho':L'.own w' w.heap.size) (hs:∀ b,L.val.ownBlock=some b→L'.val.ownBlock ≠ some b) (hl:lo≤w.heap.size):Fam w' lo (Go.Proofs.YtmncjibcoffmfaaGreat.upd (Go.Proofs.YtmncjibcoffmfaaGreat.upd M k L) k' L'):=by
 refine (h.new hb k ho hl).set k' (ho'.mono hl) fun q b hq h1 h2=>?_
 by_cases e:q=k
 ·subst e
  rw [upd_same] at h2
  exact hs b h2 h1
 ·rw [upd_ne _ _ e] at h2
  have e1:=(ho'.lt h1).1
  have e2:=(h.lt h2).2
  omega
theorem Tab.push (h:Tab M T i m) (R:Option Addr) (c:Nat) (D:Option Addr) (d:Nat) (A:Option Addr) (n' cap:Nat) (hn:n'=(M (kt i)).n + 1) (s:Nat) (hs:s=(M (kt i)).s) (e:TypeId) (he:e=(M (kt i)).e) :
 Tab (Go.Proofs.YtmncjibcoffmfaaGreat.upd (Go.Proofs.YtmncjibcoffmfaaGreat.upd (Go.Proofs.YtmncjibcoffmfaaGreat.upd M (kn i m) (numL' R c (T i m))) (kd i m) (denL' D d (T i m))) (kt i) ⟨e,s,A,n',cap,(M (kt i)).cs ++ (rhL R c D d (T i m)).cells⟩) T i (m + 1):=by
 have eT:∀ j,j < m→Go.Proofs.YtmncjibcoffmfaaGreat.upd (Go.Proofs.YtmncjibcoffmfaaGreat.upd (Go.Proofs.YtmncjibcoffmfaaGreat.upd M (kn i m) (numL' R c (T i m))) (kd i m) (denL' D d (T i m))) (kt i) ⟨e,s,A,n',cap,(M (kt i)).cs ++ (rhL R c D d (T i m)).cells⟩ (kn i j)=M (kn i j) ∧
  Go.Proofs.YtmncjibcoffmfaaGreat.upd (Go.Proofs.YtmncjibcoffmfaaGreat.upd (Go.Proofs.YtmncjibcoffmfaaGreat.upd M (kn i m) (numL' R c (T i m))) (kd i m) (denL' D d (T i m))) (kt i) ⟨e,s,A,n',cap,(M (kt i)).cs ++ (rhL R c D d (T i m)).cells⟩ (kd i j)=M (kd i j):=fun j hj=>by
  constructor
  ·rw [upd_ne _ _ (kne (by omega)),upd_ne _ _ (kne (by omega)),upd_ne _ _ (knj (by omega))]
  ·rw [upd_ne _ _ (kne (by omega)),upd_ne _ _ (knj (by omega)),upd_ne _ _ (kne (by omega))]
 have e1:Go.Proofs.YtmncjibcoffmfaaGreat.upd (Go.Proofs.YtmncjibcoffmfaaGreat.upd (Go.Proofs.YtmncjibcoffmfaaGreat.upd M (kn i m) (numL' R c (T i m))) (kd i m) (denL' D d (T i m))) (kt i) ⟨e,s,A,n',cap,(M (kt i)).cs ++ (rhL R c D d (T i m)).cells⟩ (kn i m)=numL' R c (T i m):=by
  rw [upd_ne _ _ (kne (by omega)),upd_ne _ _ (kne (by omega)),upd_same]
 have e2:Go.Proofs.YtmncjibcoffmfaaGreat.upd (Go.Proofs.YtmncjibcoffmfaaGreat.upd (Go.Proofs.YtmncjibcoffmfaaGreat.upd M (kn i m) (numL' R c (T i m))) (kd i m) (denL' D d (T i m))) (kt i) ⟨e,s,A,n',cap,(M (kt i)).cs ++ (rhL R c D d (T i m)).cells⟩ (kd i m)=denL' D d (T i m):=by
  rw [upd_ne _ _ (kne (by omega)),upd_same]
 have e3:Go.Proofs.YtmncjibcoffmfaaGreat.upd (Go.Proofs.YtmncjibcoffmfaaGreat.upd (Go.Proofs.YtmncjibcoffmfaaGreat.upd M (kn i m) (numL' R c (T i m))) (kd i m) (denL' D d (T i m))) (kt i) ⟨e,s,A,n',cap,(M (kt i)).cs ++ (rhL R c D d (T i m)).cells⟩ (kt i)=⟨e,s,A,n',cap,(M (kt i)).cs ++ (rhL R c D d (T i m)).cells⟩:=upd_same _ _ _
 generalize Go.Proofs.YtmncjibcoffmfaaGreat.upd (Go.Proofs.YtmncjibcoffmfaaGreat.upd (Go.Proofs.YtmncjibcoffmfaaGreat.upd M (kn i m) (numL' R c (T i m))) (kd i m) (denL' D d (T i m))) (kt i) ⟨e,s,A,n',cap,(M (kt i)).cs ++ (rhL R c D d (T i m)).cells⟩=M' at eT e1 e2 e3 ⊢
 refine ⟨?_,fun j hj=>?_,fun j hj=>?_⟩
 ·rw [e3]
  refine ⟨he.trans h.row.e,hs.trans h.row.s,by simp only;rw [hn,h.row.n],?_⟩
  simp only
  rw [h.row.cs]
  unfold hdrs
  rw [List.range_succ,List.map_append,List.flatMap_append]
  have e4:hdrs M' T i m=hdrs M T i m:=hdrs_congr eT fun _ _=>rfl
  unfold hdrs at e4
  rw [e4]
  congr 1
  simp only [List.map_cons,List.map_nil,List.flatMap_cons,List.flatMap_nil,List.append_nil]
  unfold hdr
  rw [e1,e2]
  rfl
 ·by_cases e:j=m
  ·subst e;rw [e1];exact ⟨rfl,rfl,rfl,rfl⟩
  ·rw [(eT j (by omega)).1];exact h.num j (by omega)
 ·by_cases e:j=m
  ·subst e;rw [e2];exact ⟨rfl,rfl,rfl,rfl⟩
  ·rw [(eT j (by omega)).2];exact h.den j (by omega)
theorem flat_set {α:Type} [Inhabited α] {k:Nat} (E:Enc α k) (hk:0 < k) (xs ys:List α) (at':Nat) (hat:at' < xs.length) (hl:ys.length=xs.length) (h:∀ j,j < xs.length→j ≠ at'→nth ys j=nth xs j):setL (xs.flatMap E.cells) (at' * k) (E.cells (nth ys at'))=ys.flatMap E.cells:=by
 refine List.ext_getElem? fun q=>?_
 have hq:q=q / k * k + q % k:=by rw [Nat.mul_comm];exact (Nat.div_add_mod q k).symm
 have hr:q % k < k:=Nat.mod_lt _ hk
 have hx:=flat_length E xs
 have hy:=flat_length E ys
 have hm:at' * k + k≤xs.length * k:=by rw [← Nat.succ_mul];exact Nat.mul_le_mul_right _ hat
 by_cases hlt:q < xs.length * k
 ·have hd:q / k < xs.length:=by rw [Nat.div_lt_iff_lt_mul hk];exact hlt
  by_cases e:q / k=at'
  ·rw [hq,e,setL_in _ _ _ _ (by rw [E.len,hx];omega) (by rw [E.len];exact hr),flat_nth E ys at' (q % k) (by omega) hr]
  ·have:q < at' * k ∨ at' * k + k≤q:=by
    rcases Nat.lt_or_ge (q / k) at' with h1 | h1
    ·left
     have:=Nat.mul_le_mul_right k h1
     rw [Nat.succ_mul] at this
     omega
    ·right
     have:=Nat.mul_le_mul_right k (show at' + 1≤q / k by omega)
     rw [Nat.add_mul,Nat.one_mul] at this
     omega
   rw [setL_out _ _ _ _ (by rw [E.len];exact this),hq,flat_nth E xs _ _ hd hr,flat_nth E ys _ _ (by omega) hr,h _ hd e]
 ·rw [List.getElem?_eq_none (by rw [setL_length,hx];omega),List.getElem?_eq_none (by rw [hy,hl];omega)]
theorem Tab.put {M':Key→Lst} (h:Tab M T i m) (at':Nat) (hat:at' < m) (R:Option Addr) (c:Nat) (D:Option Addr) (d:Nat) (q:Rat)
 (hM:M'=Go.Proofs.YtmncjibcoffmfaaGreat.upd (Go.Proofs.YtmncjibcoffmfaaGreat.upd (Go.Proofs.YtmncjibcoffmfaaGreat.upd M (kn i at') (numL' R c q)) (kd i at') (denL' D d q)) (kt i) ((M (kt i)).over (at' * 3) (rhL R c D d q).cells)) (hq:T' i at'=q) (hT:∀ j,j < m→j ≠ at'→T' i j=T i j):Tab M' T' i m:=by
 have eT:∀ j,j ≠ at'→M' (kn i j)=M (kn i j)∧M' (kd i j)=M (kd i j):=fun j hj=>by
  rw [hM]
  constructor
  ·rw [upd_ne _ _ (kne (by omega)),upd_ne _ _ (kne (by omega)),upd_ne _ _ (knj (by omega))]
  ·rw [upd_ne _ _ (kne (by omega)),upd_ne _ _ (knj (by omega)),upd_ne _ _ (kne (by omega))]
 have e1:M' (kn i at')=numL' R c q:=by rw [hM,upd_ne _ _ (kne (by omega)),upd_ne _ _ (kne (by omega)),upd_same]
 have e2:M' (kd i at')=denL' D d q:=by rw [hM,upd_ne _ _ (kne (by omega)),upd_same]
 have e3:M' (kt i)=(M (kt i)).over (at' * 3) (rhL R c D d q).cells:=by rw [hM,upd_same]
 clear hM
 refine ⟨?_,fun j hj=>?_,fun j hj=>?_⟩
 ·rw [e3]
  refine ⟨h.row.e,h.row.s,h.row.n,?_⟩
  unfold Lst.over
  simp only
  rw [h.row.cs]
  have hl1:(hdrs M T i m).length=m:=by simp [hdrs]
  have hl2:(hdrs M' T' i m).length=m:=by simp [hdrs]
  have hn:∀ (M:Key→Lst) (T:Nat→Nat→Rat) (j:Nat),j < m→nth (hdrs M T i m) j=hdr M T i j:=fun M T j hj=>by
   unfold hdrs
   rw [nth_map _ (by simpa using hj)]
   congr 1
   simp [nth,List.getD,List.getElem?_range hj]
  have e4:(rhL R c D d q).cells=ratE.cells (nth (hdrs M' T' i m) at'):=by
   rw [hn _ _ _ hat]
   unfold hdr
   rw [e1,e2,hq]
   rfl
  rw [e4]
  refine flat_set ratE (by omega) _ _ at' (by omega) (by omega) fun j hj hne=>?_
  rw [hn _ _ _ (by omega),hn _ _ _ (by omega)]
  unfold hdr
  rw [(eT j hne).1,(eT j hne).2,hT j (by omega) hne]
 ·by_cases e:j=at'
  ·subst e;rw [e1,hq];exact ⟨rfl,rfl,rfl,rfl⟩
  ·rw [(eT j e).1,hT j hj e];exact h.num j hj
 ·by_cases e:j=at'
  ·subst e;rw [e2,hq];exact ⟨rfl,rfl,rfl,rfl⟩
  ·rw [(eT j e).2,hT j hj e];exact h.den j hj
end
def heads (M:Key→Lst) (f:Nat→Key) (n:Nat):List Value:=(List.range n).map fun i=>(M (f i)).val
theorem heads_congr {M M':Key→Lst} {f:Nat→Key} {n:Nat} (h:∀ i,i < n→M' (f i)=M (f i)):heads M' f n=heads M f n:=by
 unfold heads
 exact List.map_congr_left fun i hi=>by rw [h i (List.mem_range.1 hi)]
theorem heads_succ (M:Key→Lst) (f:Nat→Key) (n:Nat):heads M f (n + 1)=heads M f n ++ [(M (f n)).val]:=by
 unfold heads
 rw [List.range_succ,List.map_append];rfl
structure Lists2 (M:Key→Lst) (k:Key) (f:Nat→Key) (e1 e2:TypeId) (n:Nat) (X:Nat→List Value):Prop where
 out:Is (M k) e1 1 n (heads M f n)
 row:∀ i,i < n→Is (M (f i)) e2 1 (X i).length (X i)
section
variable {M:Key→Lst} {k:Key} {f:Nat→Key} {e1 e2:TypeId} {n:Nat} {X:Nat→List Value}
theorem Lists2.upd (h:Lists2 M k f e1 e2 n X) {q:Key} (L:Lst) (h0:k ≠ q) (h1:∀ i,i < n→f i ≠ q):Lists2 (upd M q L) k f e1 e2 n X:=
 ⟨by rw [upd_ne M L h0,heads_congr fun i hi=>upd_ne M L (h1 i hi)];exact h.out,fun i hi=>by rw [upd_ne M L (h1 i hi)];exact h.row i hi⟩
theorem Lists2.push (h:Lists2 M k f e1 e2 n X) (hf:∀ i,f i ≠ k) (hinj:∀ i,i < n→f i ≠ f n) (L:Lst) (hL:Is L e2 1 (X n).length (X n)) (A:Option Addr) (n' c:Nat) (hn:n'=(M k).n + 1) (s:Nat) (hs:s=(M k).s) (e:TypeId) (he:e=(M k).e) :
 Lists2 (Go.Proofs.YtmncjibcoffmfaaGreat.upd (Go.Proofs.YtmncjibcoffmfaaGreat.upd M (f n) L) k ⟨e,s,A,n',c,(M k).cs ++ [L.val]⟩) k f e1 e2 (n + 1) X:=by
 have a1:∀ i,i < n→Go.Proofs.YtmncjibcoffmfaaGreat.upd (Go.Proofs.YtmncjibcoffmfaaGreat.upd M (f n) L) k ⟨e,s,A,n',c,(M k).cs ++ [L.val]⟩ (f i)=M (f i):=fun i hi=>by rw [upd_ne _ _ (hf i),upd_ne _ _ (hinj i hi)]
 have a2:Go.Proofs.YtmncjibcoffmfaaGreat.upd (Go.Proofs.YtmncjibcoffmfaaGreat.upd M (f n) L) k ⟨e,s,A,n',c,(M k).cs ++ [L.val]⟩ (f n)=L:=by rw [upd_ne _ _ (hf n),upd_same]
 have a3:Go.Proofs.YtmncjibcoffmfaaGreat.upd (Go.Proofs.YtmncjibcoffmfaaGreat.upd M (f n) L) k ⟨e,s,A,n',c,(M k).cs ++ [L.val]⟩ k=⟨e,s,A,n',c,(M k).cs ++ [L.val]⟩:=upd_same _ _ _
 generalize Go.Proofs.YtmncjibcoffmfaaGreat.upd (Go.Proofs.YtmncjibcoffmfaaGreat.upd M (f n) L) k ⟨e,s,A,n',c,(M k).cs ++ [L.val]⟩=M' at a1 a2 a3 ⊢
 refine ⟨?_,fun i hi=>?_⟩
 ·rw [a3,heads_succ,heads_congr a1,a2]
  exact ⟨he.trans h.out.e,hs.trans h.out.s,by simp only;rw [hn,h.out.n],by simp only;rw [h.out.cs]⟩
 ·by_cases e:i=n
  ·subst e;rw [a2];exact hL
  ·rw [a1 i (by omega)];exact h.row i (by omega)
end
structure Link (M:Key→Lst) (N:NetV) (T:Nat→Nat→Rat) (n p m:Nat):Prop where
 names:Is (M kN) 9 1 N.names.length (N.names.map .string)
 vals:Lists2 M kV kv 22 9 n fun i=>(nth N.values i).map .string
 pars:Lists2 M kP kp 53 3 p fun i=>(nth N.parents i).map (.int .i64)
 tO:Is (M kT) 45 1 m (heads M kt m)
 tab:∀ i,i < m→Tab M T i (nth N.tables i).length
section
variable {M:Key→Lst} {N:NetV} {T T':Nat→Nat→Rat} {n p m:Nat}
theorem Link.updT (h:Link M N T n p m) {k:Key} (L:Lst) (hk:6≤k.1) (hi:m≤k.2.1):Link (upd M k L) N T n p m:=by
 have hA:∀ (a:Nat) (x:Nat × Nat),a < 6→((a,x):Key) ≠ k:=fun a x ha e=>by subst e;simp only at hk;omega
 have hB:∀ a i j:Nat,i < m→((a,i,j):Key) ≠ k:=fun a i j ha e=>by subst e;simp only at hi;omega
 exact ⟨by rw [upd_ne _ _ (hA _ _ (by omega))];exact h.names,h.vals.upd L (hA _ _ (by omega)) fun i _=>hA _ _ (by omega),h.pars.upd L (hA _ _ (by omega)) fun i _=>hA _ _ (by omega),
  by rw [upd_ne _ _ (hA _ _ (by omega)),heads_congr fun i hi'=>upd_ne M L (hB _ _ _ hi')];exact h.tO,
  fun i hi'=>(h.tab i hi').upd L (hB _ _ _ hi') fun j _=>⟨hB _ _ _ hi',hB _ _ _ hi'⟩⟩
theorem Link.pushV (h:Link M N T n p m) (B:Option Addr) (d:Nat) (A:Option Addr) (n' c s:Nat) (e:TypeId) (he:e=(M kV).e) (hs:s=(M kV).s) (hn:n'=(M kV).n + 1) (m':Nat) (hm:m'=(nth N.values n).length) :
 Link (upd (upd M (kv n) ⟨9,1,B,m',d,(nth N.values n).map .string⟩) kV ⟨e,s,A,n',c,(M kV).cs ++ [.slice B m' d]⟩) N T (n + 1) p m:=by
 refine ⟨by rw [upd_ne _ _ (kne (by omega)),upd_ne _ _ (kne (by omega))];exact h.names,?_,(h.pars.upd _ (kne (by omega)) fun i _=>kne (by omega)).upd _ (kne (by omega)) fun i _=>kne (by omega),?_,fun i hi=>?_⟩
 ·exact h.vals.push (f:=kv) (fun i=>kne (by omega)) (fun i hi=>kni (by omega)) ⟨9,1,B,m',d,(nth N.values n).map .string⟩ ⟨rfl,rfl,by simp [hm],rfl⟩ A n' c hn s hs e he
 ·rw [upd_ne _ _ (kne (by omega)),upd_ne _ _ (kne (by omega)),heads_congr fun i _=>(upd_ne _ _ (kne (by omega))).trans (upd_ne _ _ (kne (by omega)))]
  exact h.tO
 ·exact ((h.tab i hi).upd _ (kne (by omega)) fun j _=>⟨kne (by omega),kne (by omega)⟩).upd _ (kne (by omega)) fun j _=>⟨kne (by omega),kne (by omega)⟩
theorem Link.pushP (h:Link M N T n p m) (B:Option Addr) (d:Nat) (A:Option Addr) (n' c s:Nat) (e:TypeId) (he:e=(M kP).e) (hs:s=(M kP).s) (hn:n'=(M kP).n + 1) (m':Nat) (hm:m'=(nth N.parents p).length) :
 Link (upd (upd M (kp p) ⟨3,1,B,m',d,(nth N.parents p).map (.int .i64)⟩) kP ⟨e,s,A,n',c,(M kP).cs ++ [.slice B m' d]⟩) N T n (p + 1) m:=by
 refine ⟨by rw [upd_ne _ _ (kne (by omega)),upd_ne _ _ (kne (by omega))];exact h.names,(h.vals.upd _ (kne (by omega)) fun i _=>kne (by omega)).upd _ (kne (by omega)) fun i _=>kne (by omega),?_,?_,fun i hi=>?_⟩
 ·exact h.pars.push (f:=kp) (fun i=>kne (by omega)) (fun i hi=>kni (by omega)) ⟨3,1,B,m',d,(nth N.parents p).map (.int .i64)⟩ ⟨rfl,rfl,by simp [hm],rfl⟩ A n' c hn s hs e he
 ·rw [upd_ne _ _ (kne (by omega)),upd_ne _ _ (kne (by omega)),heads_congr fun i _=>(upd_ne _ _ (kne (by omega))).trans (upd_ne _ _ (kne (by omega)))]
  exact h.tO
 ·exact ((h.tab i hi).upd _ (kne (by omega)) fun j _=>⟨kne (by omega),kne (by omega)⟩).upd _ (kne (by omega)) fun j _=>⟨kne (by omega),kne (by omega)⟩
theorem Link.pushT (h:Link M N T n p m) (ht:Tab M T m (nth N.tables m).length) (A:Option Addr) (n' c s:Nat) (e:TypeId) (he:e=(M kT).e) (hs:s=(M kT).s) (hn:n'=(M kT).n + 1) :
 Link (upd M kT ⟨e,s,A,n',c,(M kT).cs ++ [(M (kt m)).val]⟩) N T n p (m + 1):=by
 refine ⟨by rw [upd_ne _ _ (kne (by omega))];exact h.names,h.vals.upd _ (kne (by omega)) fun i _=>kne (by omega),h.pars.upd _ (kne (by omega)) fun i _=>kne (by omega),?_,fun i hi=>?_⟩
 ·rw [upd_same,heads_congr (fun i _=>upd_ne _ _ (kne (by omega)):∀ i,i < m + 1→upd M kT ⟨e,s,A,n',c,(M kT).cs ++ [(M (kt m)).val]⟩ (kt i)=M (kt i)),heads_succ]
  exact ⟨he.trans h.tO.e,hs.trans h.tO.s,by simp only;rw [hn,h.tO.n],by simp only;rw [h.tO.cs]⟩
 ·by_cases e:i=m
  ·subst e;exact ht.upd _ (kne (by omega)) fun j _=>⟨kne (by omega),kne (by omega)⟩
  ·exact (h.tab i (by omega)).upd _ (kne (by omega)) fun j _=>⟨kne (by omega),kne (by omega)⟩
end
end Go.Proofs.YtmncjibcoffmfaaGreat
