/- Joined by program out of: NetFit, NetChunk. What each says stands at its own head. -/
import Derived.Test.YtmncjibcoffmfaaGreatJ17
import Derived.Test.YtmncjibcoffmfaaGreatJ3
import Derived.RangeFuncNested
import Derived.RangeFuncBound
import Derived.RangeFuncCalls
import Derived.RangeFuncLeaves
import Derived.RangeFuncBox
import Derived.Shelf.Abstract
import Derived.Shelf.RegionOpen
import Derived.WalkKit
import Derived.OwnWalkIn
import Derived.TacticsInMore
import Derived.LoopNIn
import Derived.LoopIn
set_option linter.unusedVariables false
set_option linter.unusedSimpArgs false
/- model.fitting, fittings, walked: fractions with a denominator of 0 counting as 1. Conditions: the row reads, within Go's bound. -/
namespace Go.Proofs.YtmncjibcoffmfaaGreat
open Go.RowKit

def fitR (r:RawR):RawR:=if val r.den=0 then ⟨r.neg,r.num,[1]⟩ else r
theorem fitR_q (r:RawR):(fitR r).q=r.q:=by
 unfold fitR
 split
 ·rename_i h
  unfold RawR.q ratR
  rw [h]
  rfl
 ·rfl
theorem fitR_sz (r:RawR):(fitR r).sz≤r.sz + 1:=by
 unfold fitR
 split
 ·unfold RawR.sz
  simp
 ·omega
theorem wpList_mk0M {P:Program} (w:World) {α:Type} {k:Nat} {t e:TypeId} {z:Value} {bytes:Nat} (I:EIM P t e z k bytes) (E:Enc α k) {ops:Array Oper} {rest:List Oper} {o:Oper} {a:Act} {Q:Exit→Act→World→Prop} (hgd:o.guard=none) (l c:Operand)
 (ho:o.op=Op.makeSlice t l c) (n:Nat) (hl:a.eval l=.int .i64 0) (hc:a.eval c=.int .i64 (n:Int)) (hb:bytes * n≤281474976710656)
 (h:∀ w',OwnM E w' w.heap.size e (some ⟨w.heap.size,0,none⟩) 0 n []→Below w.heap.size w w'→wpList P ops Q rest (a.put o.dst (.slice (some ⟨w.heap.size,0,none⟩) 0 n)) w'):wpList P ops Q (o :: rest) a w:=by
 obtain ⟨⟨i,e1,e2,e3,e4,e5⟩,hz,hp,hk⟩:=I
 have hn:1 * n≤bytes * n:=Nat.mul_le_mul_right _ hp
 refine wpList_make_own w hgd l c t ho w.heap.size e i z k e1 e2 e3 e4 .i64 .i64 _ n hl hc rfl (by rw [e5];exact hb) (by unfold maxLen;omega) (Nat.le_refl _) fun w' h1 h2=>h w' ?_ ⟨h2.os,h2.tape,h2.output,h2.size,fun b hb=>h2.block b hb (by simp)⟩
 unfold OwnM
 simpa using h1
theorem Sl.turnN {α:Type} [Inhabited α] {enc:α→Value} {a b:World} {S:Nat→Prop} {A:Option Addr} {n:Nat} {xs:List α} (h:Sl enc a A n xs) (ht:Turn a b S) (hS:0 < n→∀ g o,A=some ⟨g,o,none⟩→¬ S g):Sl enc b A n xs:=
 ⟨h.len,h.big,fun hn=>by
   obtain ⟨g,off,e,hlt,hc⟩:=h.at' hn
   refine ⟨g,off,e,Nat.lt_of_lt_of_le hlt ht.size,fun j hj=>?_⟩
   have:b.cell? ⟨g,off + j,none⟩=a.cell? ⟨g,off + j,none⟩:=by simp only [World.cell?,ht.block g hlt (hS hn g off e)]
   exact this.trans (hc j hj)⟩
theorem RawAt.turn {a b:World} {S:Nat→Prop} {h:RH} {r:RawR} (x:RawAt a h r) (ht:Turn a b S) (h1:0 < h.n→∀ g o,h.A=some ⟨g,o,none⟩→¬ S g) (h2:0 < h.k→∀ g o,h.D=some ⟨g,o,none⟩→¬ S g):RawAt b h r:=
 ⟨x.neg,x.num.turnN ht h1,x.nc,x.nl,x.den.turnN ht h2,x.dc,x.dl⟩
def RH.off (h:RH) (S:Nat→Prop):Prop:=(0 < h.n→∀ g o,h.A=some ⟨g,o,none⟩→¬ S g)∧(0 < h.k→∀ g o,h.D=some ⟨g,o,none⟩→¬ S g)
theorem RawAt.lts {w:World} {h:RH} {r:RawR} (x:RawAt w h r):h.off (fun g=>w.heap.size≤g):=
 ⟨fun hn g o e=>by
   obtain ⟨b,off,e2,hlt,_⟩:=x.num.at' hn
   rw [e2] at e;injection e with e;injection e with e;omega,
  fun hn g o e=>by
   obtain ⟨b,off,e2,hlt,_⟩:=x.den.at' hn
   rw [e2] at e;injection e with e;injection e with e;omega⟩
theorem RH.off.mono {h:RH} {S T:Nat→Prop} (x:h.off S) (hT:∀ g,T g→S g):h.off T:=⟨fun hn g o e t=>x.1 hn g o e (hT g t),fun hn g o e t=>x.2 hn g o e (hT g t)⟩
set_option maxRecDepth 100000 in
set_option maxHeartbeats 800000 in
theorem fitting_any (h:RH) (r:RawR) (w:World) (hr:RawAt w h r) (hb:r.sz≤10000000000) :
 Calls Tryz.prog 110 #[h.val] w fun e w'=>∃ h':RH,e=.returned h'.val∧RawAt w' h' (fitR r)∧(h'.A=h.A∧h'.n=h.n)∧(h'.D=h.D∧h'.k=h.k ∨ Fr w.heap.size h'.D)∧Below w.heap.size w w':=by
 obtain ⟨s,A,n,c,D,k,e⟩:=h
 have hd:=hr.den
 have hlen:k≤10000000000:=by have:=hr.den.len;unfold RawR.sz at hb;simp only at this;omega
 have H1:=((Held.init w).and (Q:=fun w=>RawAt w ⟨s,A,n,c,D,k,e⟩ r) hr).new 36 [.bool s,.slice A n c,.slice D k e]
 have H2:=H1.new 36 [.bool false,.slice none 0 0,.slice none 0 0]
 rw [show (w.alloc (.cells [.bool s,.slice A n c,.slice D k e].toArray 36)).heap.size=w.heap.size + 1 from by simp] at H2
 unfold RH.val
 have r0:=H2.has.2.1.cell 0
 have r1:=H2.has.2.1.cell 1
 have r2:=H2.has.2.1.cell 2
 have hraw:=H2.has.2.2.1
 have HR0:=Lib.hid (And.intro hr hb)
 clear hd H1 hr
 go_enter Tryz.func110,Tryz.ntmps110
 go_wp2_with fail
 refine (nat_norm D k e r.den _ hraw.den hraw.dc hraw.dl (by omega)).mono ?_
 rintro e' w1 ⟨R,dr,rfl,ho,hb1⟩
 have H3:=H2.step hb1
 clear H2 hraw hb1 r0 r1 r2
 by_cases h0:val r.den=0
 ·rw [h0,limbs_zero]
  have hz0:([]:List Nat).length=0:=rfl
  have HF:=Lib.hid (And.intro h0 H3)
  have f0:=H3.has.2.1.frozen 0
  clear ho h0 H3
  go_wp2_with fail
  refine (nat_of 1 _ (by decide)).mono ?_
  rintro e' w2 ⟨R2,d2,rfl,ho,hb1⟩
  rw [limbs_one1] at ho ⊢
  have H4:=HF.out.2.step hb1
  have hs1:=ho.sl (by decide)
  have hcap:=ho.cap
  have f0:=H4.has.2.1.frozen 2
  have q0:=H4.has.2.1.cell 0
  have q1:=H4.has.2.1.cell 1
  have q2:=H4.has.2.1.cell 2
  have t0:=H4.has.1.cell 0
  have t1:=H4.has.1.cell 1
  have t2:=H4.has.1.cell 2
  have g0:=H4.has.1.frozen 0
  have g1:=H4.has.1.frozen 1
  have g2:=H4.has.1.frozen 2
  have k1:=H4.has.2.1.put 2 (.slice R2 1 d2)
  have k0:=H4.has.1.far (p:=⟨w.heap.size,2,none⟩) (show w.heap.size + 1 ≠ w.heap.size by omega) (.slice R2 1 d2)
  have k2:=((k0.put 0 (.bool s)).put 1 (.slice A n c)).put 2 (.slice R2 1 d2)
  have c0:=k2.cell 0
  have c1:=k2.cell 1
  have c2:=k2.cell 2
  have hbel:=(((H4.bel.setCell (p:=⟨w.heap.size,2,none⟩) (Nat.le_refl _) (.slice R2 1 d2)).setCell (p:=⟨w.heap.size + 1,0,none⟩) (by simp) (.bool s)).setCell (p:=⟨w.heap.size + 1,1,none⟩) (by simp) (.slice A n c)).setCell (p:=⟨w.heap.size + 1,2,none⟩) (by simp) (.slice R2 1 d2)
  have hlt:=HF.out.2.has.1.lt
  have hs2:=((((hs1.setLow ho.fr (p:=⟨w.heap.size,2,none⟩) (show w.heap.size < w1.heap.size by omega) (.slice R2 1 d2)).setLow ho.fr (p:=⟨w.heap.size + 1,0,none⟩) hlt (.bool s)).setLow ho.fr (p:=⟨w.heap.size + 1,1,none⟩) hlt (.slice A n c)).setLow ho.fr (p:=⟨w.heap.size + 1,2,none⟩) hlt (.slice R2 1 d2))
  have hold:=HR0.out.1.below (Nat.le_refl _) hbel
  have hnew:RawAt _ ⟨s,A,n,c,R2,1,d2⟩ (fitR r):=⟨by unfold fitR;rw [if_pos HF.out.1];exact hold.neg,by unfold fitR;rw [if_pos HF.out.1];exact hold.num,hold.nc,by unfold fitR;rw [if_pos HF.out.1];exact hold.nl,by unfold fitR;rw [if_pos HF.out.1];exact hs2,hcap,by unfold fitR;rw [if_pos HF.out.1];exact L32.cons (by decide) L32.nil⟩
  have HG:=Lib.hid (And.intro hnew (And.intro (ho.fr.mono (show w.heap.size≤w1.heap.size by omega)) hbel))
  clear hs1 hs2 hold hnew hbel ho hcap hb1 H4 k0 k1 k2
  go_wp2_with fail
  exact bodyPost_ret (v:=.agg #[.bool s,.slice A n c,.slice R2 1 d2]) (by simp [results,Tryz.results110,go_sem,c0,c1,c2]) rfl ⟨⟨s,A,n,c,R2,1,d2⟩,rfl,HG.out.1,⟨rfl,rfl⟩,.inr HG.out.2.1,HG.out.2.2⟩
 ·have hp:¬ (limbs (val r.den)).length=0:=fun h1=>h0 (limbs_nil.1 (List.eq_nil_of_length_eq_zero h1))
  have hf:fitR r=r:=by unfold fitR;rw [if_neg h0]
  generalize (limbs (val r.den)).length=L at *
  have hp2:(((L:Nat):Int) == 0)=false:=beq_eq_false_iff_ne.2 (by omega)
  have q0:=H3.has.2.1.cell 0
  have q1:=H3.has.2.1.cell 1
  have q2:=H3.has.2.1.cell 2
  have t0:=H3.has.1.cell 0
  have t1:=H3.has.1.cell 1
  have t2:=H3.has.1.cell 2
  have g0:=H3.has.1.frozen 0
  have g1:=H3.has.1.frozen 1
  have g2:=H3.has.1.frozen 2
  have k2:=((H3.has.1.put 0 (.bool s)).put 1 (.slice A n c)).put 2 (.slice D k e)
  have c0:=k2.cell 0
  have c1:=k2.cell 1
  have c2:=k2.cell 2
  have hbel:=((H3.bel.setCell (p:=⟨w.heap.size + 1,0,none⟩) (by simp) (.bool s)).setCell (p:=⟨w.heap.size + 1,1,none⟩) (by simp) (.slice A n c)).setCell (p:=⟨w.heap.size + 1,2,none⟩) (by simp) (.slice D k e)
  have hold:=HR0.out.1.below (Nat.le_refl _) hbel
  have HG:=Lib.hid (And.intro hold (And.intro hbel hf))
  clear hold hbel ho H3 k2 h0 hf
  go_wp2_with fail
  exact bodyPost_ret (v:=.agg #[.bool s,.slice A n c,.slice D k e]) (by simp [results,Tryz.results110,go_sem,c0,c1,c2]) rfl ⟨⟨s,A,n,c,D,k,e⟩,rfl,by rw [HG.out.2.2];exact HG.out.1,⟨rfl,rfl⟩,.inl ⟨rfl,rfl⟩,HG.out.2.1⟩
theorem OwnM.capM {α:Type} {k:Nat} {E:Enc α k} {w:World} {base:Nat} {e:TypeId} {A:Option Addr} {n c:Nat} {xs:List α} (h:OwnM E w base e A n c xs):n≤c:=by
 rcases h.2 with ⟨h1,h2⟩ | ⟨g,cap,cur,h1,_,_,h2,_⟩
 ·injection h1 with _ _ h1;omega
 ·injection h1 with _ _ h1;omega
set_option maxRecDepth 100000 in
set_option maxHeartbeats 1600000 in
theorem fittings_any (A:Option Addr) (n c:Nat) (l:List RawR) (w:World) (h:RRow w A n l) (hn:n≤1048576) (hz:∀ i,i < n→(nth l i).sz≤10000000000) :
 Calls Tryz.prog 76 #[.slice A n c] w fun e w'=>∃ R d,e=.returned (.slice R n d)∧RRow w' R n (l.map fitR)∧n≤d∧Below w.heap.size w w':=by
 have HI:=Lib.hid (And.intro h (And.intro hz h.len))
 clear h hz
 go_enter Tryz.func76,Tryz.ntmps76
 go_wp2_with (first
  | (refine wpList_mk0M _ eiRat ratE rfl _ _ rfl n rfl rfl (by omega) ?_)
  | fail)
 intro w1 ho0 hb0
 have HO:=Lib.hid (And.intro ho0 hb0)
 obtain ⟨g,hg⟩:∃ g,g=w.heap.size:=⟨_,rfl⟩
 have HG:=Lib.hid hg
 rw [← hg]
 clear ho0 hb0 hg
 go_wp2_with fail
 go_loopw [11,3] (fun i s wr=>∃ (k:Nat) (R:Option Addr) (d:Nat) (hs:List RH),k≤n∧i=.int .i64 (k:Nat)∧s=.slice R k d∧OwnM ratE wr w.heap.size 36 R k d hs∧(∀ j,j < k→RawAt wr (nth hs j) (fitR (nth l j))∧(nth hs j).off (fun x=>(Value.slice R k d).ownBlock=some x))∧Below w.heap.size w wr) (fun i _ _=>n - (intOf i).toNat)
 case atStart=>exact ⟨0,_,_,[],by omega,rfl,rfl,by rw [HG.out];exact HO.out.1,fun j hj=>absurd hj (by omega),HO.out.2⟩
 case round =>
  obtain ⟨k,R,d,hs,hk,rfl,rfl,ho,hraws,hbr⟩:=hrel
  obtain ⟨wo,hwo⟩:∃ wo:World,wo=wr:=⟨_,rfl⟩
  subst hwo
  have hsz:=hbr.size
  by_cases hkn:k < n
  ·as_aux_lemma =>
   obtain ⟨b,off,hd,rfl,hblt,g0,g1,g2,hraw⟩:=(HI.out.1.below (Nat.le_refl _) hbr).at hkn
   have hzk:=HI.out.2.1 k hkn
   obtain ⟨b0,off0,hd0,e0,hblt0,q0,q1,q2,hraw0⟩:=HI.out.1.at hkn
   injection e0 with e0
   injection e0 with e0 e0'
   subst e0 e0'
   have hsame:hd=hd0:=by
    have p0:=bc hbr q0 hblt0
    have p1:=bc hbr q1 hblt0
    have p2:=bc hbr q2 hblt0
    rw [g0] at p0;rw [g1] at p1;rw [g2] at p2
    cases hd0;cases hd
    simp_all
   subst hsame
   have HL:=Lib.hid hraw0.lts
   clear q0 q1 q2 hraw0 hblt0
   have hal:Below wo.heap.size wo (wo.alloc (.cells #[.bool hd.neg,.slice hd.A hd.n hd.c,.slice hd.D hd.k hd.e] 36)):=(Below.refl _ _).alloc (Nat.le_refl _) _
   have hfit:=fitting_any hd (nth l k) _ (hraw.below (Nat.le_refl _) hal) hzk
   unfold RH.val at hfit
   have HH:=Lib.hid (And.intro ho (And.intro hraws (And.intro hbr hal)))
   clear ho hraws hbr hal hraw
   go_wp2_with fail
   refine hfit.mono ?_
   rintro e w2 ⟨h',rfl,hr',hA',hD',hb2⟩
   have HAD:=Lib.hid (And.intro hA' hD')
   clear hA' hD'
   have hbel:=HH.out.2.2.2.trans (hb2.mono (by simp))
   have ho1:=(HH.out.1.below (Nat.le_refl _) hbel).alloc (.cells #[.bool h'.neg,.slice h'.A h'.n h'.c,.slice h'.D h'.k h'.e] 36)
   have hal2:Below w2.heap.size w2 (w2.alloc (.cells #[.bool h'.neg,.slice h'.A h'.n h'.c,.slice h'.D h'.k h'.e] 36)):=(Below.refl _ _).alloc (Nat.le_refl _) _
   have hsz2:=(hbel.trans (hal2.mono hbel.size)).size
   have hr2:=hr'.below (Nat.le_refl _) hal2
   have hq8:(k + 1) * 56≤140737488355328:=by omega
   have hbase:w.heap.size≤(w2.alloc (.cells #[.bool h'.neg,.slice h'.A h'.n h'.c,.slice h'.D h'.k h'.e] 36)).heap.size:=by omega
   have HB:=Lib.hid (And.intro hr2 (And.intro (hbel.trans (hal2.mono hbel.size)) (HH.out.2.2.1.trans ((hbel.trans (hal2.mono hbel.size)).mono hsz))))
   clear hr2 hbel hal2 hr' hb2 hfit hsz2
   go_wp2_with (first
    | (at_builtin;refine wpList_appM _ eiRat ratE rfl _ _ rfl w.heap.size _ _ _ _ rfl ho1 _ _ h' rfl (newM ratE _ _ h') hq8 hbase ?_)
    | fail)
   intro C9 k9 w9 ho9 hg9 hb9 hd9
   obtain ⟨hA',hD'⟩:=HAD.out
   have hlen:=HH.out.1.length (by omega)
   have hown:∀ x,(Value.slice R k d).ownBlock=some x→w.heap.size≤x∧x < wo.heap.size:=fun x hx=>World.ownsRow.lt HH.out.1 x hx
   have hoff:h'.off (fun x=>(Value.slice R k d).ownBlock=some x):=by
    refine ⟨fun hn g o e hx=>?_,fun hn g o e hx=>?_⟩
    ·rw [hA'.1] at e;rw [hA'.2] at hn
     exact HL.out.1 hn g o e (hown g hx).1
    ·rcases hD' with h3 | h3
     ·rw [h3.1] at e;rw [h3.2] at hn
      exact HL.out.2 hn g o e (hown g hx).1
     ·have h4:=h3 g o e
      have h5:=(hown g hx).2
      simp at h4
      omega
   have hnew:∀ j,j < k + 1→RawAt w9 (nth (hs ++ [h']) j) (fitR (nth l j))∧(nth (hs ++ [h']) j).off (fun x=>(Value.slice C9 (k + 1) k9).ownBlock=some x):=fun j hj=>by
    have key:RawAt (w2.alloc (.cells #[.bool h'.neg,.slice h'.A h'.n h'.c,.slice h'.D h'.k h'.e] 36)) (nth (hs ++ [h']) j) (fitR (nth l j))∧(nth (hs ++ [h']) j).off (fun x=>(Value.slice R k d).ownBlock=some x):=by
     by_cases hjk:j < k
     ·rw [nth_append_left (by omega)]
      have h3:=HH.out.2.1 j hjk
      exact ⟨h3.1.below (Nat.le_refl _) HB.out.2.1,h3.2⟩
     ·obtain rfl:j=k:=by omega
      rw [show nth (hs ++ [h']) j=h' by unfold nth List.getD;rw [List.getElem?_append_right (by omega),hlen];simp]
      exact ⟨HB.out.1,hoff⟩
    refine ⟨key.1.turn (Turn.of_grown hg9) key.2.1 key.2.2,?_⟩
    rcases hd9 with h3 | h3
    ·rw [h3];exact key.2
    ·rw [h3];exact key.1.lts.mono fun g e=>by have:=Option.some.inj e;simp at this ⊢;omega
   have HR:=Lib.hid (And.intro ho9 (And.intro hnew (HB.out.2.2.trans hb9)))
   clear ho9 hnew hb9 hg9 hd9 ho1 hoff hown hA' hD' HAD
   go_wp2_with fail
   exact ⟨⟨k + 1,C9,k9,hs ++ [h'],by omega,by go_num,rfl,HR.out.1,HR.out.2.1,HR.out.2.2⟩,by simp [intOf];omega⟩
  ·as_aux_lemma =>
   obtain rfl:n=k:=by omega
   have hl:=HI.out.2.2
   have hrow:RRow wo R n (l.map fitR):=⟨⟨hs,ho.sl (by omega) (by omega),fun j hj=>by rw [nth_map _ (by omega)];exact (hraws j hj).1⟩,by rw [List.length_map];exact hl⟩
   have HE:=Lib.hid (And.intro hrow (And.intro (ho.capM) hbr))
   clear hrow ho hraws hbr
   go_wp2_with fail
   go_ret
   exact ⟨R,d,rfl,HE.out.1,HE.out.2.1,HE.out.2.2⟩
end Go.Proofs.YtmncjibcoffmfaaGreat
/- slices.Chunk over fractions: what its function hands to a loop's body. Conditions: the row's length is a whole number of chunks, one at least. -/
namespace Go.Proofs.YtmncjibcoffmfaaGreat
open Go.RowKit Go.Shelf
attribute [local go_sem] Oper.semAt_some

abbrev Rd (n:Nat):={ j:Nat // j < n }
def Came (n k:Nat) (pre:List (Rd n)):Prop:=pre.map Subtype.val=List.range k
theorem Came.length {n k:Nat} {pre:List (Rd n)} (h:Came n k pre):pre.length=k:=by have:=congrArg List.length h;simpa using this
theorem Came.snoc {n k:Nat} {pre:List (Rd n)} (h:Came n k pre) (hk:k < n):Came n (k + 1) (pre ++ [⟨k,hk⟩]):=by
 unfold Came at *;rw [List.map_append,h,List.range_succ];rfl
theorem Came.back {n k:Nat} {pre:List (Rd n)} {x:Rd n} (h:Came n k (pre ++ [x])):k=pre.length + 1∧Came n pre.length pre∧x.1=pre.length:=by
 have hl:=h.length
 rw [List.length_append,List.length_singleton] at hl
 subst hl
 unfold Came at *
 rw [List.range_succ,List.map_append] at h
 have:=List.append_inj h (by simp)
 exact ⟨rfl,this.1,by have:=this.2;simpa using this⟩
def chunkE (b off v N:Nat) (j:Rd N):Array Value:=#[.slice (some ⟨b,off + j.1 * v * 3,none⟩) v v]
def KeepC (n₀ Bs Bn:Nat) (W W':World):Prop:=Below n₀ W W'∧(Bs < W.heap.size→W'.heap[Bs]?=W.heap[Bs]?)∧(Bn < W.heap.size→W'.heap[Bn]?=W.heap[Bn]?)
theorem KeepC.refl (n₀ Bs Bn:Nat) (W:World):KeepC n₀ Bs Bn W W:=⟨Below.refl _ _,fun _=>rfl,fun _=>rfl⟩
theorem keepC_t {n₀ Bs Bn:Nat} {A B C:World} (h:KeepC n₀ Bs Bn A B) (k:KeepC n₀ Bs Bn B C):KeepC n₀ Bs Bn A C:=
 ⟨h.1.trans k.1,fun hl=>(k.2.1 (Nat.lt_of_lt_of_le hl h.1.size)).trans (h.2.1 hl),fun hl=>(k.2.2 (Nat.lt_of_lt_of_le hl h.1.size)).trans (h.2.2 hl)⟩
theorem keepC_b {n₀ Bs Bn:Nat} {w:World} (hn:n₀≤w.heap.size) (hB:Bs < w.heap.size) (hC:Bn < w.heap.size) (W:World) (l:Nat) (o o':Obj) (hl:w.heap.size≤l) (h:W.heap[l]?=some o) (h1:o.isCells=false) (h2:o.isWalk=false):KeepC n₀ Bs Bn W (W.putObj l o'):=
 ⟨belowK_b hn W l o o' hl h h1 h2,fun _=>World.putObj_heap_other (by omega),fun _=>World.putObj_heap_other (by omega)⟩
theorem KeepC.below {n₀ Bs Bn:Nat} {A C:World} (h:Below A.heap.size A C) (hn:n₀≤A.heap.size):KeepC n₀ Bs Bn A C:=⟨h.mono hn,fun hl=>h.block _ hl,fun hl=>h.block _ hl⟩
set_option maxRecDepth 100000 in
set_option maxHeartbeats 2000000 in
theorem chunk1_in (n:Nat) (hn:1≤n) (l Bs Bn n₀ b off cap v N L:Nat) (hL:L=N * v) (hv:1≤v) (hLb:L≤1048576) (hcap:L≤cap) (J Jx:List (Rd N)→World→Prop) (hJd:∀ s A k,J s A→J s (World.drewN A k))
 (hY:∀ pre x W,J pre W→pre.length < N→YieldAt Fence.wide (n - 1) Tryz.prog l (chunkE b off v N x) W fun e W' =>
   (e=.returned (.bool true)∧J (pre ++ [x]) W'∧KeepC n₀ Bs Bn W W') ∨ (e=.returned (.bool false)∧Jx (pre ++ [x]) W'))
 (W:World) (hBs:RowC W Bs 45 [.slice (some ⟨b,off,none⟩) L cap]) (hBn:RowC W Bn 3 [.int .i64 (v:Nat)]) (h0:J [] W) :
 CallsIn Fence.wide n Tryz.prog 133 #[.func (.yield l) #[] #[],.pointer (some ⟨Bs,0,none⟩),.pointer (some ⟨Bn,0,none⟩)] W fun e W'=>(∃ u,e=.returned u) ∧
  ((∃ ys,Came N N ys∧J ys W') ∨ (∃ pre,(∃ k,k≤N∧Came N k pre)∧Jx pre W')):=by
 refine callsIn_of_wp Tryz.func133 rfl trivial ?_ rfl
 simp only [Tryz.ntmps133,List.size_toArray,List.length_cons,List.length_nil,Nat.reduceAdd,Nat.reduceSub,Array.replicate_succ,Array.replicate_zero,List.push_toArray,List.append_toArray,List.nil_append,List.cons_append]
 have HLn:=Lib.hid hL
 have HB:=Lib.hid (And.intro hBs hBn)
 clear hL hBs hBn
 gi_wp2
 gi_loopw [4] (fun i wr=>∃ (k m:Nat) (pre:List (Rd N)),k≤N∧m=k * v∧i=.int .i64 (m:Nat)∧Came N k pre∧J pre wr∧KeepC n₀ Bs Bn W wr)
  (fun i _=>L - (intOf i).toNat)
 case atStart=>exact ⟨0,0,[],Nat.zero_le _,by omega,rfl,rfl,h0,KeepC.refl _ _ _ _⟩
 case round =>
  obtain ⟨k,m,pre,hk,hm,rfl,hcame,hJs,hnx⟩:=hrel
  have hcs:RowC wr Bs 45 [.slice (some ⟨b,off,none⟩) L cap]:=(hnx.2.1 HB.out.1.lt).trans HB.out.1
  have hcn:RowC wr Bn 3 [.int .i64 (v:Nat)]:=(hnx.2.2 HB.out.2.lt).trans HB.out.2
  have r1:=hcs.cell 0
  have r2:=hcn.cell 0
  by_cases hlt:k < N
  ·have hmv:m + v≤L:=by rw [hm,HLn.out];have:=Nat.mul_le_mul_right v (show k + 1≤N from hlt);rw [Nat.add_mul,Nat.one_mul] at this;exact this
   have HY:=Lib.hid (fun W' (h:J pre W')=>hY pre ⟨k,hlt⟩ W' h (by rw [hcame.length];exact hlt))
   have he:chunkE b off v N ⟨k,hlt⟩=#[.slice (some ⟨b,off + m * 3,none⟩) v v]:=by unfold chunkE;rw [hm]
   have HM:=Lib.hid (And.intro hm (And.intro (hcame.snoc hlt) he))
   have HN:=Lib.hid hnx
   clear hm hcame he hnx
   have i1:(m:Int) < (L:Int):=by omega
   gi_wp2
   have i2:(m:Int)≤(L:Int):=by omega
   have i3:(0:Int)≤(m:Int):=by omega
   have i4:(L:Int) - (m:Int)=((L - m:Nat):Int):=by omega
   have i5:min (v:Int) ((L - m:Nat):Int)=(v:Int):=by omega
   refine wpIn_wide.2 ?_
   go_quiet (fail)
   obtain ⟨fn,tmps,assign,body,hy,hR⟩:=HY.out (wr.drewN nq) (hJd _ _ _ hJs)
   rw [HM.out.2.2] at hy
   have r1:=(hcs.drewN nq).cell 0
   have r2:=(hcn.drewN nq).cell 0
   have hnx2:KeepC n₀ Bs Bn W (wr.drewN nq):=keepC_t HN.out ⟨below_refl_drewN _ _ _,fun _=>rfl,fun _=>rfl⟩
   have HN2:=Lib.hid hnx2
   clear hcs hcn hnx2
   obtain ⟨wd,hwd⟩:∃ wd,wd=wr.drewN nq:=⟨_,rfl⟩
   rw [← hwd] at hy hR r1 r2 HN2 ⊢
   clear hwd
   have i6:IntKind.i64.wrap ((m:Int) + (v:Int))=((m + v:Nat):Int):=by simp [IntKind.wrap,IntKind.bits,IntKind.signed];omega
   have i7:((m + v:Nat):Int)≤(cap:Int):=by omega
   have i8:(m:Int)≤((m + v:Nat):Int):=by omega
   have i9:m + v - m=v:=by omega
   gi_wp2
   refine hR.mono ?_
   rintro e W3 (⟨rfl,hJ3,hk3⟩ | ⟨rfl,hJx3⟩)
   ·have hcs3:RowC W3 Bs 45 [.slice (some ⟨b,off,none⟩) L cap]:=((keepC_t HN2.out hk3).2.1 HB.out.1.lt).trans HB.out.1
    have hcn3:RowC W3 Bn 3 [.int .i64 (v:Nat)]:=((keepC_t HN2.out hk3).2.2 HB.out.2.lt).trans HB.out.2
    have r3:=hcs3.cell 0
    have r4:=hcn3.cell 0
    have HK:=Lib.hid (keepC_t HN2.out hk3)
    clear hk3 hcs3 hcn3
    gi_wp2
    go_roundw
    case rel=>exact ⟨k + 1,m + v,_,by omega,by rw [HM.out.1,Nat.add_mul,Nat.one_mul],by go_num,HM.out.2.1,hJ3,HK.out⟩
    case measure=>simp [intOf];omega
   ·gi_wp2
    refine bodyPost_ret (results_none rfl _ _ _) rfl ?_
    exact ⟨⟨_,rfl⟩,.inr ⟨_,⟨k + 1,by omega,HM.out.2.1⟩,hJx3⟩⟩
  ·have hm2:m=L:=by rw [hm,HLn.out,show k=N by omega]
   subst hm2
   have hkN:k=N:=by omega
   subst hkN
   gi_wp2
   go_end0
   exact ⟨⟨_,rfl⟩,.inl ⟨_,hcame,hJs⟩⟩
set_option maxHeartbeats 1000000 in
theorem chunk_any (a:Option Addr) (len cap v:Nat) (hv:1≤v) (w:World):Calls Tryz.prog 112 #[.slice a len cap,.int .i64 (v:Nat)] w fun e w'=>e=.returned (.func (.func 133) #[] #[.pointer (some ⟨w.heap.size,0,none⟩),.pointer (some ⟨w.heap.size + 1,0,none⟩)])∧w'=(w.alloc (.cells #[.slice a len cap] 45)).alloc (.cells #[.int .i64 (v:Nat)] 3):=by
 have h1:¬ (v:Int) < 1:=by omega
 go_enter Tryz.func112,Tryz.ntmps112
 go_wp2_with fail
 go_ret
 exact ⟨rfl,rfl⟩
theorem chunk_stops (n:Nat) (hn:1≤n) (Bs Bn n₀ b off cap v N L:Nat) (hL:L=N * v) (hv:1≤v) (hLb:L≤1048576) (hcap:L≤cap) (w:World) (hBs:RowC w Bs 45 [.slice (some ⟨b,off,none⟩) L cap]) (hBn:RowC w Bn 3 [.int .i64 (v:Nat)]) :
 SeqStopsK Fence.wide n Tryz.prog 133 #[.pointer (some ⟨Bs,0,none⟩),.pointer (some ⟨Bn,0,none⟩)] (chunkE b off v N) (KeepC n₀ Bs Bn) (fun ys=>Came N N ys)
  (fun pre=>∃ k,k≤N∧Came N k pre) N w:=fun l J Jx W hW hJ _ hY h0 =>
 chunk1_in n hn l Bs Bn n₀ b off cap v N L hL hv hLb hcap J Jx (fun s A k h=>hJ s A (A.drewN k) none h ⟨rfl,rfl,rfl,Nat.le_refl _,fun _ _ _=>rfl⟩ (fun r e=>by cases e)) hY W (hBs.below' hW) (hBn.below' hW) h0
theorem listIn_of {P:Program} {n r:Nat} {ops:Array Oper} {Q:Exit→Act→World→Prop} (hno:¬ LetsOut Q):∀ (l:List Oper) (a:Act) (w:World),(∀ o,o ∈ l→∀ c,o.op ≠ .defer c)→wpList P ops Q l a w→wpListIn (Fence.wide.inRound r) n P ops Q l a w
 | [],_,_,_,h=>h
 | o :: l,a,w,hd,h=>by
   unfold wpListIn
   unfold wpList at h
   split at h
   ·rename_i hw
    rw [if_pos hw]
    rcases h with h | h
    ·exact Oper.wpIn_mono (fun a w h3=>listIn_of hno l a w (fun o ho=>hd o (List.mem_cons_of_mem _ ho)) h3) (operIn_of (hd o (List.mem_cons_self ..)) h)
    ·exact absurd h.2 hno
   ·rename_i hw
    rw [if_neg hw]
    exact ⟨fun _ _=>trivial,listIn_of hno l _ w (fun o ho=>hd o (List.mem_cons_of_mem _ ho)) h⟩
end Go.Proofs.YtmncjibcoffmfaaGreat
