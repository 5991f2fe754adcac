/- sense.find, credenceref29.Check, walked, where no fixes are given. Conditions: the network reads, within Go's bound. Printed by wip/gen/sfind.py. -/
import Derived.Test.YtmncjibcoffmfaaGreatJ20
set_option linter.unusedVariables false
set_option linter.unusedSimpArgs false
namespace Go.Proofs.YtmncjibcoffmfaaGreat
open Go.RowKit

theorem box4_put {w w1:World} {g:Nat} {e:TypeId} {v0 v1 v2 v3 u0 u1 u2 u3:Value} (hg:w.heap.size≤g) (hbox:RowC w1 g e [u0,u1,u2,u3]) (hbel:Below w.heap.size w w1) :
 RowC ((((w1.setCell ⟨g,0,none⟩ v0).setCell ⟨g,1,none⟩ v1).setCell ⟨g,2,none⟩ v2).setCell ⟨g,3,none⟩ v3) g e [v0,v1,v2,v3]∧Below w.heap.size w ((((w1.setCell ⟨g,0,none⟩ v0).setCell ⟨g,1,none⟩ v1).setCell ⟨g,2,none⟩ v2).setCell ⟨g,3,none⟩ v3):=
 ⟨(((hbox.put 0 _).put 1 _).put 2 _).put 3 _,(((hbel.setCell (p:=⟨g,0,none⟩) hg _).setCell (p:=⟨g,1,none⟩) hg _).setCell (p:=⟨g,2,none⟩) hg _).setCell (p:=⟨g,3,none⟩) hg _⟩
set_option maxRecDepth 100000 in
set_option maxHeartbeats 40000000 in
theorem find_place (N:NetV) (A1 A2 A3 A4:Option Addr) (c1 c2 c3 c4:Nat) (v row value:Int) (w:World) (h:NetAt w N A1 A2 A3 A4 c1 c2 c3 c4) (hB:NetB N) :
 Calls Tryz.prog 20 #[.agg (netC N A1 A2 A3 A4 c1 c2 c3 c4).toArray,.int .i64 v,.int .i64 row,.int .i64 value,.slice none 0 0] w fun e w'=>∃ p0 p1 p2 p3:Int,e=.returned (.tuple #[.agg #[.int .i64 p0,.int .i64 p1,.int .i64 p2,.int .i64 p3],.int .i64 (placeE N v row value)]) ∧
  (placeE N v row value=0→p0=v∧p1=row * ((nth N.Z v.toNat:Nat):Int) + value∧p2=row * ((nth N.Z v.toNat:Nat):Int)∧p3=((nth N.Z v.toNat:Nat):Int))∧Below w.heap.size w w':=by
 have H1:=(Held.init w).new 27 (netC N A1 A2 A3 A4 c1 c2 c3 c4)
 have H:=H1.new 56 [.int .i64 0,.int .i64 0,.int .i64 0,.int .i64 0]
 rw [show (w.alloc (.cells (netC N A1 A2 A3 A4 c1 c2 c3 c4).toArray 27)).heap.size=w.heap.size + 1 from by simp] at H
 unfold netC at H H1 ⊢
 obtain ⟨wq,hwq⟩:∃ wq:World,wq=(w.alloc (.cells #[.string N.name,.slice A1 N.names.length c1,.slice A2 N.values.length c2,.slice A3 N.parents.length c3,.slice A4 N.tables.length c4] 27)).alloc (.cells #[.int .i64 0,.int .i64 0,.int .i64 0,.int .i64 0] 56):=⟨_,rfl⟩
 rw [← hwq] at H
 have HX:NetBox w wq N A1 A2 A3 A4 c1 c2 c3 c4:=⟨H.has.2.1,h.below (Nat.le_refl _) H.bel,H.bel⟩
 have hpl:RowC wq (w.heap.size + 1) 56 [.int .i64 0,.int .i64 0,.int .i64 0,.int .i64 0]:=H.has.1
 have hchk:=check_model N A1 A2 A3 A4 c1 c2 c3 c4 wq HX.net hB
 unfold netC at hchk
 have hpe:placeE N v row value=if checkN N ≠ 0 then checkN N else if v < 0 ∨ (N.names.length:Int)≤v then 3
  else if nth N.Z v.toNat < 2 ∨ row < 0 ∨ (((nth N.tables v.toNat).length / nth N.Z v.toNat:Nat):Int)≤row ∨ value < 0 ∨ ((nth N.Z v.toNat:Nat):Int)≤value then 3 else 0:=rfl
 obtain ⟨r0,r1,r2,r3,r4⟩:=HX.cells
 have HB:=Lib.hid hB
 have HC:=Lib.hid hchk
 have HX0:=Lib.hid (And.intro HX hpl)
 clear hchk HX hpl H H1 h hB
 obtain ⟨P,hP⟩:∃ P,P=placeE N v row value:=⟨_,rfl⟩
 rw [← hP] at hpe ⊢
 have HP:=Lib.hid hpe
 clear hP hpe
 go_enter Tryz.func20,Tryz.ntmps20
 go_upto_region 1 with fail
 rw [← hwq]
 clear hwq
 go_wp2_with fail
 refine HC.out.mono ?_
 rintro e w1 ⟨rfl,hb1⟩
 have HY:=HX0.out.1.step hb1
 have hpl:=HX0.out.2.below' hb1
 clear r0 r1 r2 r3 r4 hb1
 obtain ⟨r0,r1,r2,r3,r4⟩:=HY.cells
 have t0:=hpl.cell 0
 have t1:=hpl.cell 1
 have t2:=hpl.cell 2
 have t3:=hpl.cell 3
 have f0:=hpl.frozen 0
 have f1:=hpl.frozen 1
 have f2:=hpl.frozen 2
 have f3:=hpl.frozen 3
 have hz:=box4_put (v0:=.int .i64 0) (v1:=.int .i64 0) (v2:=.int .i64 0) (v3:=.int .i64 0) (g:=w.heap.size + 1) (by omega) hpl HY.bel
 have z0:=hz.1.cell 0
 have z1:=hz.1.cell 1
 have z2:=hz.1.cell 2
 have z3:=hz.1.cell 3
 have HZ:=Lib.hid hz.2
 have HYY:=Lib.hid (And.intro HY hpl)
 clear hz HY hpl
 by_cases hc:checkN N=0
 rotate_left
 ·as_aux_lemma =>
  have HE:=Lib.hid (show P=checkN N by rw [HP.out,if_pos hc])
  generalize checkN N=F at *
  have d2:(F == 0)=false:=beq_eq_false_iff_ne.2 hc
  have HF:=Lib.hid hc
  go_wp2_with fail
  exact bodyPost_ret (v:=.tuple #[.agg #[.int .i64 0,.int .i64 0,.int .i64 0,.int .i64 0],.int .i64 F]) (by simp [results,Tryz.results20,go_sem,z0,z1,z2,z3]) rfl ⟨0,0,0,0,by rw [HE.out],fun h0=>absurd (HE.out.symm.trans h0) HF.out,HZ.out⟩
 have hck:=check_ok hc
 rw [hc]
 have hpe:=HP.out
 rw [if_neg (by rw [hc];decide)] at hpe
 have HP1:=Lib.hid hpe
 clear hpe HP
 by_cases hv0:v < 0
 ·as_aux_lemma =>
  have HE:=Lib.hid (show P=3 by rw [HP1.out,if_pos (.inl hv0)])
  have HK:=Lib.hid hck
  clear hck hc
  go_wp2_with fail
  exact bodyPost_ret (v:=.tuple #[.agg #[.int .i64 0,.int .i64 0,.int .i64 0,.int .i64 0],.int .i64 3]) (by simp [results,Tryz.results20,go_sem,z0,z1,z2,z3]) rfl ⟨0,0,0,0,by rw [HE.out],fun h0=>absurd (HE.out.symm.trans h0) (by decide),HZ.out⟩
 by_cases hv1:(N.names.length:Int)≤v
 ·as_aux_lemma =>
  have HE:=Lib.hid (show P=3 by rw [HP1.out,if_pos (.inr hv1)])
  have HK:=Lib.hid hck
  clear hck hc
  go_wp2_with fail
  exact bodyPost_ret (v:=.tuple #[.agg #[.int .i64 0,.int .i64 0,.int .i64 0,.int .i64 0],.int .i64 3]) (by simp [results,Tryz.results20,go_sem,z0,z1,z2,z3]) rfl ⟨0,0,0,0,by rw [HE.out],fun h0=>absurd (HE.out.symm.trans h0) (by decide),HZ.out⟩
 obtain ⟨u,rfl⟩:∃ u:Nat,v=u:=⟨v.toNat,by omega⟩
 have hpe:=HP1.out
 rw [if_neg (by omega),show (u:Int).toNat=u from rfl] at hpe
 have hun:u < N.names.length:=by omega
 obtain ⟨b2,o2,B2,m2,d2,rfl,hb2,g2,hrow2⟩:=HYY.out.1.net.n2.row (i:=u) (by omega)
 obtain ⟨b4,o4,B4,m4,d4,rfl,hb4,g4,hrow4,_⟩:=HYY.out.1.net.n4.row (i:=u) (by omega)
 have hzk:nth N.Z u=m2:=by rw [NetV.nth_Z (by omega)];exact hrow2.len
 have hm4:=hrow4.len
 rw [hzk,hm4] at hpe
 have hm2b:=HB.out.z u
 rw [hzk] at hm2b
 have hm4c:=hrow4.big
 have hlen:=rows_len hck.2.2.2.2.2 hun
 rw [hzk,hm4] at hlen
 have hrle:rowsV N u≤1099511627776:=rowsTo_le _ _ _
 have HP2:=Lib.hid hpe
 have HK:=Lib.hid (And.intro hck (And.intro hlen hzk))
 have i1:(u:Int) < (N.values.length:Int):=by have:=hck.1;omega
 have i2:(u:Int) < (N.tables.length:Int):=by have:=hck.2.2.1;omega
 have i3:(u:Int) < (N.names.length:Int):=by omega
 clear hpe hv0 hv1 hc hck hzk hm4 hlen hrow2 hrow4 hun HP1
 go_upto_region 7 with fail
 by_cases hw2:m2 < 2
 ·as_aux_lemma =>
  have HE:=Lib.hid (show P=3 by rw [HP2.out,if_pos (.inl hw2)])
  have d5:(m2:Int) < 2:=by omega
  go_wp2_with fail
  exact bodyPost_ret (v:=.tuple #[.agg #[.int .i64 0,.int .i64 0,.int .i64 0,.int .i64 0],.int .i64 3]) (by simp [results,Tryz.results20,go_sem,z0,z1,z2,z3]) rfl ⟨0,0,0,0,by rw [HE.out],fun h0=>absurd (HE.out.symm.trans h0) (by decide),HZ.out⟩
 have d5:¬ (m2:Int) < 2:=by omega
 by_cases hr0:row < 0
 ·as_aux_lemma =>
  have HE:=Lib.hid (show P=3 by rw [HP2.out,if_pos (.inr (.inl hr0))])
  go_wp2_with fail
  exact bodyPost_ret (v:=.tuple #[.agg #[.int .i64 0,.int .i64 0,.int .i64 0,.int .i64 0],.int .i64 3]) (by simp [results,Tryz.results20,go_sem,z0,z1,z2,z3]) rfl ⟨0,0,0,0,by rw [HE.out],fun h0=>absurd (HE.out.symm.trans h0) (by decide),HZ.out⟩
 obtain ⟨r,rfl⟩:∃ r:Nat,row=r:=⟨row.toNat,by omega⟩
 have e1:(m4:Int) / (m2:Int)=((m4 / m2:Nat):Int):=(Int.natCast_ediv m4 m2).symm
 have e2:(m4:Int).tdiv (m2:Int)=((m4 / m2:Nat):Int):=by rw [Int.tdiv_eq_ediv_of_nonneg (by omega),e1]
 have hdl:m4 / m2≤m4:=Nat.div_le_self _ _
 have hdq:m4 / m2=rowsV N u:=by rw [HK.out.2.1,Nat.mul_div_cancel _ (by omega)]
 have d6:¬ (m2:Int)=0:=by omega
 have hpe:=HP2.out
 have HQ:=Lib.hid hdq
 generalize m4 / m2=y at *
 have HP3:=Lib.hid hpe
 clear hpe hdq HP2 hr0
 by_cases hr1:(y:Int)≤(r:Int)
 ·as_aux_lemma =>
  have HE:=Lib.hid (show P=3 by rw [HP3.out,if_pos (.inr (.inr (.inl hr1)))])
  have hr2:y≤r:=by omega
  go_wp2_with fail
  exact bodyPost_ret (v:=.tuple #[.agg #[.int .i64 0,.int .i64 0,.int .i64 0,.int .i64 0],.int .i64 3]) (by simp [results,Tryz.results20,go_sem,z0,z1,z2,z3]) rfl ⟨0,0,0,0,by rw [HE.out],fun h0=>absurd (HE.out.symm.trans h0) (by decide),HZ.out⟩
 have d7:decide ((y:Int)≤(r:Int))=false:=decide_eq_false hr1
 have d8:decide (y≤r)=false:=decide_eq_false (by omega)
 have hry:r < y:=by omega
 have HRY:=Lib.hid hry
 clear hr1 hry
 by_cases hx0:value < 0
 ·as_aux_lemma =>
  have HE:=Lib.hid (show P=3 by rw [HP3.out,if_pos (.inr (.inr (.inr (.inl hx0))))])
  go_wp2_with fail
  exact bodyPost_ret (v:=.tuple #[.agg #[.int .i64 0,.int .i64 0,.int .i64 0,.int .i64 0],.int .i64 3]) (by simp [results,Tryz.results20,go_sem,z0,z1,z2,z3]) rfl ⟨0,0,0,0,by rw [HE.out],fun h0=>absurd (HE.out.symm.trans h0) (by decide),HZ.out⟩
 obtain ⟨x,rfl⟩:∃ r:Nat,value=r:=⟨value.toNat,by omega⟩
 by_cases hx1:(m2:Int)≤(x:Int)
 ·as_aux_lemma =>
  have HE:=Lib.hid (show P=3 by rw [HP3.out,if_pos (.inr (.inr (.inr (.inr hx1))))])
  have hx2:m2≤x:=by omega
  go_wp2_with fail
  exact bodyPost_ret (v:=.tuple #[.agg #[.int .i64 0,.int .i64 0,.int .i64 0,.int .i64 0],.int .i64 3]) (by simp [results,Tryz.results20,go_sem,z0,z1,z2,z3]) rfl ⟨0,0,0,0,by rw [HE.out],fun h0=>absurd (HE.out.symm.trans h0) (by decide),HZ.out⟩
 have HE:=Lib.hid (show P=0 by rw [HP3.out,if_neg (by have:=HRY.out;omega)])
 have hx2:¬ m2≤x:=by omega
 have hmul:r * m2≤1099511627776 * 1048576:=Nat.mul_le_mul (by have:=HQ.out;have:=HRY.out;omega) hm2b
 obtain ⟨rm,hrm⟩:∃ rm,rm=r * m2:=⟨_,rfl⟩
 rw [← hrm] at hmul
 have e3:(r:Int) * (m2:Int)=(rm:Int):=by rw [hrm];exact (Int.natCast_mul _ _).symm
 have hmm:=fun (w:World)=>run_makeMap (P:=Tryz.prog) 80 w
 have hd:=(HYY.out.1.bel.alloc HYY.out.1.bel.size (.map #[] 0))
 have hpl2:=HYY.out.2.alloc (.map #[] 0)
 have hq:=box4_put (v0:=.int .i64 (u:Int)) (v1:=.int .i64 ((rm:Int) + (x:Int))) (v2:=.int .i64 (rm:Int)) (v3:=.int .i64 (m2:Int)) (g:=w.heap.size + 1) (by omega) hpl2 hd
 have t0:=hpl2.cell 0
 have t1:=hpl2.cell 1
 have t2:=hpl2.cell 2
 have t3:=hpl2.cell 3
 have f0:=hpl2.frozen 0
 have f1:=hpl2.frozen 1
 have f2:=hpl2.frozen 2
 have f3:=hpl2.frozen 3
 have q0:=hq.1.cell 0
 have q1:=hq.1.cell 1
 have q2:=hq.1.cell 2
 have q3:=hq.1.cell 3
 have HQQ:=Lib.hid (And.intro hq.2 e3)
 clear hq hd hpl2 hrm z0 z1 z2 z3 HZ hx1 hx0
 go_wp2_with fail
 go_loopw [71] (fun i wr=>i=.int .i64 0∧wr=w1) (fun _ _=>0)
 case atStart=>exact ⟨rfl,rfl⟩
 case round =>
  obtain ⟨rfl,hwr⟩:=hrel
  have hwr:=hwr.symm
  subst hwr
  go_wp2_with fail
  go_loopw [108] (fun i wr=>i=.int .i64 0∧wr=w1.alloc (.map #[] 0)) (fun _ _=>0)
  case atStart=>exact ⟨rfl,rfl⟩
  case round =>
   obtain ⟨rfl,rfl⟩:=hrel
   go_wp2_with fail
   exact bodyPost_ret (v:=.tuple #[.agg #[.int .i64 (u:Int),.int .i64 ((rm:Int) + (x:Int)),.int .i64 (rm:Int),.int .i64 (m2:Int)],.int .i64 0]) (by simp [results,Tryz.results20,go_sem,q0,q1,q2,q3]) rfl ⟨_,_,_,_,by rw [HE.out],fun _=>by rw [show (u:Int).toNat=u from rfl,HK.out.2.2,HQQ.out.2];exact ⟨rfl,rfl,rfl,rfl⟩,HQQ.out.1⟩
end Go.Proofs.YtmncjibcoffmfaaGreat
