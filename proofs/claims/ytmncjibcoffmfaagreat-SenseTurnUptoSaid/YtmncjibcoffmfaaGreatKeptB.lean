/- credenceref20.Kept, walked, of a network that was lent. Conditions: within Go's bound. -/
import Derived.Test.YtmncjibcoffmfaaGreatJ23
set_option linter.unusedVariables false
set_option linter.unusedSimpArgs false
namespace Go.Proofs.YtmncjibcoffmfaaGreat
open Go.RowKit

set_option maxRecDepth 100000 in
set_option maxHeartbeats 4000000 in
theorem kept_any (N:NetV) (lo:Nat) (A1 A2 A3 A4:Option Addr) (c1 c2 c3 c4:Nat) (B1 B2 B3 B4:Option Addr) (d1 d2 d3 d4:Nat) (w:World) (x:LentN w lo N A1 A2 A3 A4 c1 c2 c3 c4) (y:NetAt w N B1 B2 B3 B4 d1 d2 d3 d4) (hB:NetB N) :
 Calls Tryz.prog 10 #[.agg (netC N A1 A2 A3 A4 c1 c2 c3 c4).toArray,.agg (netC N B1 B2 B3 B4 d1 d2 d3 d4).toArray] w fun e w'=>e=.returned (.bool true)∧Below w.heap.size w w':=by
 have H1:=(Held.init w).new 27 (netC N A1 A2 A3 A4 c1 c2 c3 c4)
 have H2:=H1.new 27 (netC N B1 B2 B3 B4 d1 d2 d3 d4)
 rw [show (w.alloc (.cells (netC N A1 A2 A3 A4 c1 c2 c3 c4).toArray 27)).heap.size=w.heap.size + 1 from by simp] at H2
 unfold netC at H2 ⊢
 obtain ⟨wq,hwq⟩:∃ wq:World,wq=(w.alloc (.cells #[.string N.name,.slice A1 N.names.length c1,.slice A2 N.values.length c2,.slice A3 N.parents.length c3,.slice A4 N.tables.length c4] 27)).alloc (.cells #[.string N.name,.slice B1 N.names.length d1,.slice B2 N.values.length d2,.slice B3 N.parents.length d3,.slice B4 N.tables.length d4] 27):=⟨_,rfl⟩
 rw [← hwq] at H2
 have hbq:=H2.bel
 have ra:RowC wq w.heap.size 27 [.string N.name,.slice A1 N.names.length c1,.slice A2 N.values.length c2,.slice A3 N.parents.length c3,.slice A4 N.tables.length c4]:=by
  have HG:=H2;exact (bg HG)
 have rb:RowC wq (w.heap.size + 1) 27 [.string N.name,.slice B1 N.names.length d1,.slice B2 N.values.length d2,.slice B3 N.parents.length d3,.slice B4 N.tables.length d4]:=H2.has.1
 have hx:=x.below hbq
 have hy:=y.below (Nat.le_refl _) hbq
 have hnn:=hB.names
 have ht1:=texts_any A1 B1 N.names.length c1 d1 lo N.names _ _ wq hx.names hy.n1 (by omega)
 have a0:=ra.cell 0
 have a1:=ra.cell 1
 have a2:=ra.cell 2
 have a3:=ra.cell 3
 have a4:=ra.cell 4
 have b0:=rb.cell 0
 have b1:=rb.cell 1
 have b2:=rb.cell 2
 have b3:=rb.cell 3
 have b4:=rb.cell 4
 have HXY:=Lib.hid (And.intro x (And.intro y (And.intro hB (And.intro ra (And.intro rb hbq)))))
 have HT1:=Lib.hid ht1
 clear H1 H2 hx hy ht1 x y hB ra rb hbq
 go_enter Tryz.func10,Tryz.ntmps10
 go_upto_region 1 with fail
 rw [← hwq]
 clear hwq
 go_wp2_with fail
 refine HT1.out.mono ?_
 rintro e w1 ⟨rfl,hb1⟩
 have HW:=Lib.hid hb1
 clear a0 a1 a2 a3 a4 b0 b1 b2 b3 b4
 have ra:=HXY.out.2.2.2.1.below' hb1
 have rb:=HXY.out.2.2.2.2.1.below' hb1
 have b2:=rb.cell 2
 clear hb1 ra
 go_wp2_with fail
 go_loopw [5] (fun i wr=>∃ j:Nat,j≤N.values.length∧i=.int .i64 (j:Nat)∧Below wq.heap.size wq wr) (fun i _=>N.values.length - (intOf i).toNat)
 case atStart=>exact ⟨0,by omega,rfl,HW.out⟩
 case round =>
  clear b2 rb
  obtain ⟨j,hj,rfl,hbr⟩:=hrel
  have ra:=HXY.out.2.2.2.1.below' hbr
  have rb:=HXY.out.2.2.2.2.1.below' hbr
  have hl1:=ra.lt
  have hl2:=rb.lt
  have b2:=rb.cell 2
  by_cases hjn:j < N.values.length
  ·as_aux_lemma =>
   have a2:=ra.cell 2
   have hbw:=HXY.out.2.2.2.2.2.trans (hbr.mono HXY.out.2.2.2.2.2.size)
   have hxr:=HXY.out.1.below hbw
   have hyr:=HXY.out.2.1.below (Nat.le_refl _) hbw
   have hvl:=(HXY.out.2.2.1.val _ (nth_mem hjn)).1
   have hvv:=HXY.out.2.2.1.vals
   obtain ⟨hs,hLH⟩:=hxr.vals
   obtain ⟨gV,oV,rfl,hl3,hcV⟩:=(hLH.out.sl (by omega)).at' (by omega)
   have q1:=hcV j hjn
   have hLX:=hLH.row j hjn
   obtain ⟨bV,pV,BV,mV,dV,rfl,hl4,q2,hsl,_⟩:=hyr.n2.rowC hjn
   generalize nth hs j=hh at q1 hLX
   obtain ⟨hA,m,hc⟩:=hh
   have hm:m=(nth N.values j).length:=hLX.n
   have hmV:mV=m:=by rw [hm];exact hsl.len.symm
   subst hmV
   have ht:=fun y (hb:Below wr.heap.size wr y)=>texts_any hA BV mV hc dV lo (nth N.values j) _ _ y (hLX.below hb) (hsl.below (Nat.le_refl _) hb) (by omega)
   have HT:=Lib.hid ht
   have HB:=Lib.hid hbr
   have hjI:(j:Int) < (N.values.length:Int):=by omega
   clear ht hLX hsl hcV hLH hm hbr hbw hxr hyr ra rb
   go_upto_region 6 with fail
   refine wp_region_held_drew (S:=fun w'=>w'.cell? ⟨w.heap.size,2,none⟩=some (.slice (some ⟨gV,oV,none⟩) N.values.length c2)∧w'.cell? ⟨w.heap.size + 1,2,none⟩=some (.slice (some ⟨bV,pV,none⟩) N.values.length d2)∧w'.cell? ⟨gV,oV + j,none⟩=some (.slice hA mV hc)∧w'.cell? ⟨bV,pV + j,none⟩=some (.slice BV mV dV)) (by kernel_rfl) ?hS1 (fun hHeld=>?rest1)
   case hS1=>(first | exact ⟨a2,b2,q1,q2⟩ | assumption | go_keep)
   refine tk 0 rfl ?_
   try simp only [Act.put,sp]
   refine tk 1 rfl ?_
   try simp only [Act.put,sp]
   refine tk 2 rfl ?_
   try simp only [Act.put,sp]
   refine tk 3 rfl ?_
   try simp only [Act.put,sp]
   refine tk 4 rfl ?_
   try simp only [Act.put,sp]
   refine tk 5 rfl ?_
   try simp only [Act.put,sp]
   refine tk 6 rfl ?_
   try simp only [Act.put,sp]
   refine tk 7 rfl ?_
   try simp only [Act.put,sp]
   refine tk 8 rfl ?_
   try simp only [Act.put,sp]
   refine tk 9 rfl ?_
   try simp only [Act.put,sp]
   refine wpAnyH_ready (rs:=[10]) (by kernel_rfl) (by simp) (consL rfl (fun K hK=>?step12))
   (go_simp;(refine (HT.out _ (below_refl_drewN _ _ 1)).mono ?_);(rintro e1 y1 ⟨rfl,hb1⟩);(have hbs:Below wr.heap.size wr y1:=(below_refl_drewN _ _ 1).trans hb1);(have a2:=bc hbs a2 hl1);(have b2:=bc hbs b2 hl2);(have q1:=bc hbs q1 hl3);(have q2:=bc hbs q2 hl4))
   refine hK.out _ _ ?hS12 (fun hHeld=>?rest12)
   case hS12=>(first | exact ⟨a2,b2,q1,q2⟩ | assumption | go_keep)
   clear hK K
   try simp only [Act.put,sp]
   refine tk 11 rfl ?_
   try simp only [Act.put,sp]
   refine wpAnyH_done (by kernel_rfl) ?_ _
   go_simp
   go_simp
   (try go_wp2_with fail)
   exact ⟨⟨j + 1,by omega,by go_num,HB.out.trans (hbs.mono HB.out.size)⟩,by simp [intOf];omega⟩
  ·obtain rfl:N.values.length=j:=by omega
   have HW2:=Lib.hid hbr
   clear hbr ra
   go_upto_region 8 with fail
   have b3:=rb.cell 3
   clear b2 rb
   go_wp2_with fail
   go_loopw [6] (fun i wr=>∃ j:Nat,j≤N.parents.length∧i=.int .i64 (j:Nat)∧Below wq.heap.size wq wr) (fun i _=>N.parents.length - (intOf i).toNat)
   case atStart=>exact ⟨0,by omega,rfl,HW2.out⟩
   case round =>
    clear b3
    obtain ⟨j,hj,rfl,hbr⟩:=hrel
    have ra:=HXY.out.2.2.2.1.below' hbr
    have rb:=HXY.out.2.2.2.2.1.below' hbr
    have hl1:=ra.lt
    have hl2:=rb.lt
    have b3:=rb.cell 3
    by_cases hjn:j < N.parents.length
    ·as_aux_lemma =>
     have a3:=ra.cell 3
     have hbw:=HXY.out.2.2.2.2.2.trans (hbr.mono HXY.out.2.2.2.2.2.size)
     have hxr:=HXY.out.1.below hbw
     have hyr:=HXY.out.2.1.below (Nat.le_refl _) hbw
     have hvl:=HXY.out.2.2.1.par _ (nth_mem hjn)
     have hvv:=HXY.out.2.2.1.pars
     obtain ⟨hs,hLH⟩:=hxr.pars
     obtain ⟨gV,oV,rfl,hl3,hcV⟩:=(hLH.out.sl (by omega)).at' (by omega)
     have q1:=hcV j hjn
     have hLX:=hLH.row j hjn
     obtain ⟨bV,pV,BV,mV,dV,rfl,hl4,q2,hsl,_⟩:=hyr.n3.rowC hjn
     generalize nth hs j=hh at q1 hLX
     obtain ⟨hA,m,hc⟩:=hh
     have hm:m=(nth N.parents j).length:=hLX.n
     have hmV:mV=m:=by rw [hm];exact hsl.len.symm
     subst hmV
     obtain ⟨g,rfl,hg,hmm,m1,m2,hc2,hcell⟩:=hLX.marks (by omega)
     have hmB0:mV≤1048576:=by omega
     clear hmm
     have hjI:(j:Int) < (N.parents.length:Int):=by omega
     have hmB:(mV:Int)≤1048576:=by omega
     have hwm2:IntKind.i64.wrap ((mV:Int) + 2)=((mV + 2:Nat):Int):=by rw [IntKind.wrap_i64];omega
     have hwm1:IntKind.i64.wrap ((mV:Int) + 1)=((mV + 1:Nat):Int):=by rw [IntKind.wrap_i64];omega
     obtain ⟨wo,rfl⟩:∃ y,y=wr:=⟨_,rfl⟩
     have q1:wo.cell? ⟨gV,oV + j,none⟩=some (.slice (some ⟨g,0,none⟩) mV hc):=q1
     have HB:=Lib.hid (And.intro hbr (And.intro a3 (And.intro b3 (And.intro q1 (And.intro q2 (And.intro m1 (And.intro m2 (And.intro hcell hsl))))))))
     clear hsl hLX hcV hLH hm hbr hbw hxr hyr ra rb m1 m2 hcell
     go_wp2_with fail
     go_loopw [8] (fun i wx=>∃ q:Nat,q≤mV∧i=.int .i64 (q:Nat)∧Below wo.heap.size wo wx) (fun i _=>mV - (intOf i).toNat)
     case atStart=>exact ⟨0,by omega,rfl,Below.refl _ _⟩
     case round =>
      clear a3 b3 q1 q2
      obtain ⟨q,hq,rfl,hbx⟩:=hrel
      have a3:=bc hbx HB.out.2.1 hl1
      have q1:=bc hbx HB.out.2.2.2.1 hl3
      have HBX:=Lib.hid hbx
      by_cases hqn:q < mV
      ·as_aux_lemma =>
       have b3:=bc hbx HB.out.2.2.1 hl2
       have q2:=bc hbx HB.out.2.2.2.2.1 hl4
       obtain ⟨bB,oB,rfl,hl5,hcb⟩:=HB.out.2.2.2.2.2.2.2.2.at' (by omega)
       have g0:=bc hbx (HB.out.2.2.2.2.2.2.2.1 q hqn) hg
       have g1:=bc hbx (hcb q hqn) hl5
       have hqI:(q:Int) < (mV:Int):=by omega
       generalize nth (nth N.parents j) q=t at *
       clear hcb hbx
       go_upto_region 17 with fail
       refine wp_region_held_drew (S:=fun w'=>w'.cell? ⟨w.heap.size,3,none⟩=some (.slice (some ⟨gV,oV,none⟩) N.parents.length c3)∧w'.cell? ⟨w.heap.size + 1,3,none⟩=some (.slice (some ⟨bV,pV,none⟩) N.parents.length d3)∧w'.cell? ⟨gV,oV + j,none⟩=some (.slice (some ⟨g,0,none⟩) mV hc)∧w'.cell? ⟨bV,pV + j,none⟩=some (.slice (some ⟨bB,oB,none⟩) mV dV)∧w'.cell? ⟨g,q,none⟩=some (.int .i64 t)∧w'.cell? ⟨bB,oB + q,none⟩=some (.int .i64 t)) (by kernel_rfl) ?hS14 (fun hHeld=>?rest14)
       case hS14=>(first | exact ⟨a3,b3,q1,q2,g0,g1⟩ | assumption | go_keep)
       refine tk 0 rfl ?_
       try simp only [Act.put,sp]
       refine tk 1 rfl ?_
       try simp only [Act.put,sp]
       refine tk 2 rfl ?_
       try simp only [Act.put,sp]
       refine tk 3 rfl ?_
       try simp only [Act.put,sp]
       refine tk 4 rfl ?_
       try simp only [Act.put,sp]
       refine tk 5 rfl ?_
       try simp only [Act.put,sp]
       refine tk 6 rfl ?_
       try simp only [Act.put,sp]
       refine tk 7 rfl ?_
       try simp only [Act.put,sp]
       refine tk 8 rfl ?_
       try simp only [Act.put,sp]
       refine tk 9 rfl ?_
       try simp only [Act.put,sp]
       refine tk 10 rfl ?_
       try simp only [Act.put,sp]
       refine tk 11 rfl ?_
       try simp only [Act.put,sp]
       refine tk 12 rfl ?_
       try simp only [Act.put,sp]
       refine tk 13 rfl ?_
       try simp only [Act.put,sp]
       refine tk 14 rfl ?_
       try simp only [Act.put,sp]
       refine tk 15 rfl ?_
       try simp only [Act.put,sp]
       refine tk 16 rfl ?_
       try simp only [Act.put,sp]
       refine wpAnyH_done (by kernel_rfl) ?_ _
       go_simp
       go_simp
       (try go_wp2_with fail)
       exact ⟨⟨q + 1,by omega,by go_num,HBX.out.trans (below_refl_drewN _ _ 1)⟩,by simp [intOf];omega⟩
      ·as_aux_lemma =>
       obtain rfl:mV=q:=by omega
       have m1:=bc hbx HB.out.2.2.2.2.2.1 hg
       have m2:=bc hbx HB.out.2.2.2.2.2.2.1 hg
       clear hbx
       go_wp2_with fail
       exact ⟨⟨j + 1,by omega,by go_num,HB.out.1.trans (HBX.out.mono HB.out.1.size)⟩,by simp [intOf];omega⟩
    ·obtain rfl:N.parents.length=j:=by omega
     have HW3:=Lib.hid hbr
     clear hbr ra
     go_upto_region 22 with fail
     have b4:=rb.cell 4
     clear b3 rb
     go_wp2_with fail
     go_loopw [10] (fun i wr=>∃ j:Nat,j≤N.tables.length∧i=.int .i64 (j:Nat)∧Below wq.heap.size wq wr) (fun i _=>N.tables.length - (intOf i).toNat)
     case atStart=>exact ⟨0,by omega,rfl,HW3.out⟩
     case round =>
      clear b4
      obtain ⟨j,hj,rfl,hbr⟩:=hrel
      have ra:=HXY.out.2.2.2.1.below' hbr
      have rb:=HXY.out.2.2.2.2.1.below' hbr
      have hl1:=ra.lt
      have hl2:=rb.lt
      have b4:=rb.cell 4
      by_cases hjn:j < N.tables.length
      ·as_aux_lemma =>
       have a4:=ra.cell 4
       have hbw:=HXY.out.2.2.2.2.2.trans (hbr.mono HXY.out.2.2.2.2.2.size)
       have hxr:=HXY.out.1.below hbw
       have hyr:=HXY.out.2.1.below (Nat.le_refl _) hbw
       have hvl:=(HXY.out.2.2.1.tab _ (nth_mem hjn)).1
       have hvv:=HXY.out.2.2.1.tabs
       obtain ⟨hs,hLH⟩:=hxr.tabs
       obtain ⟨gV,oV,rfl,hl3,hcV⟩:=(hLH.out.sl (by omega)).at' (by omega)
       have q1:=hcV j hjn
       have hLX:=hLH.row j hjn
       obtain ⟨bV,pV,BV,mV,dV,rfl,hl4,q2,hrow,_⟩:=hyr.n4.row hjn
       generalize nth hs j=hh at q1 hLX
       obtain ⟨hA,m,hc⟩:=hh
       have hm:m=(nth N.tables j).length:=hLX.n
       have hmV:mV=m:=by rw [hm];exact hrow.len.symm
       subst hmV
       obtain ⟨g,hs2,D1,D2,rfl,hc2,hOT⟩:=hLX.opened (by omega)
       have hjI:(j:Int) < (N.tables.length:Int):=by omega
       have hmB0:mV≤1048576:=by omega
       have hmB:(mV:Int)≤1048576:=by omega
       have hwm2:IntKind.i64.wrap ((mV:Int) + 2)=((mV + 2:Nat):Int):=by rw [IntKind.wrap_i64];omega
       have hwm1:IntKind.i64.wrap ((mV:Int) + 1)=((mV + 1:Nat):Int):=by rw [IntKind.wrap_i64];omega
       obtain ⟨wo,rfl⟩:∃ y,y=wr:=⟨_,rfl⟩
       have q1:wo.cell? ⟨gV,oV + j,none⟩=some (.slice (some ⟨g,0,none⟩) mV hc):=q1
       have hg:=hOT.lt
       have HB:=Lib.hid (And.intro hbr (And.intro a4 (And.intro b4 (And.intro q1 (And.intro q2 (And.intro hOT hrow))))))
       clear hrow hOT hLX hcV hLH hm hbr hbw hxr hyr ra rb
       go_wp2_with fail
       go_loopw [12] (fun i wx=>∃ q:Nat,q≤mV∧i=.int .i64 (q:Nat)∧Below wo.heap.size wo wx) (fun i _=>mV - (intOf i).toNat)
       case atStart=>exact ⟨0,by omega,rfl,Below.refl _ _⟩
       case round =>
        clear a4 b4 q1 q2
        obtain ⟨q,hq,rfl,hbx⟩:=hrel
        have a4:=bc hbx HB.out.2.1 hl1
        have q1:=bc hbx HB.out.2.2.2.1 hl3
        have HBX:=Lib.hid hbx
        have hO:=HB.out.2.2.2.2.2.1.below hbx
        by_cases hqn:q < mV
        ·as_aux_lemma =>
         have hqI:(q:Int) < (mV:Int):=by omega
         have b4:=bc hbx HB.out.2.2.1 hl2
         have q2:=bc hbx HB.out.2.2.2.2.1 hl4
         obtain ⟨f0,f1,f2⟩:=hO.cells q hqn
         have hLR:=hO.row q hqn
         obtain ⟨b5,off5,hd5,rfl,hb5,g0,g1,g2,hraw⟩:=(HB.out.2.2.2.2.2.2.below (Nat.le_refl _) hbx).at hqn
         generalize nth hs2 q=hh at f0 f1 f2 hLR
         obtain ⟨s1,aA,an,ac,aD,ak,ae⟩:=hh
         have hra:=hLR.raw
         have hnb:=hLR.nb
         have hkb:=hLR.db
         obtain ⟨gN,e1,hgN,_,m1,m2,hcN⟩:=marks_at hLR.num hLR.n hLR.nb
         obtain ⟨gD,e2,hgD,_,m3,m4,hcD⟩:=marks_at hLR.den hLR.k hLR.db
         simp only at e1 e2 m1 m2 m3 m4 hcN hcD hnb hkb f0 f1 f2
         subst e1 e2
         have hnI:(an:Int)≤1000000000:=by omega
         have hkI:(ak:Int)≤1000000000:=by omega
         have w1':IntKind.i64.wrap ((an:Int) + 2)=((an + 2:Nat):Int):=by rw [IntKind.wrap_i64];omega
         have w2':IntKind.i64.wrap ((ak:Int) + 2)=((ak + 2:Nat):Int):=by rw [IntKind.wrap_i64];omega
         have hsame:=fun y (hb:Below wr.heap.size wr y)=>same_any ⟨s1,some ⟨gN,0,none⟩,an,ac,some ⟨gD,0,none⟩,ak,ae⟩ hd5 _ y (hra.below (Nat.le_refl _) hb) (hraw.below (Nat.le_refl _) hb)
         unfold RH.val at hsame
         have HSA:=Lib.hid hsame
         clear hsame hra hraw hLR hO hbx
         go_upto_region 34 with fail
         obtain ⟨y1,hy1⟩:∃ y,y=wr.alloc (.cells #[.bool s1,.slice (some ⟨gN,0,none⟩) an ac,.slice (some ⟨gD,0,none⟩) ak ae] 36):=⟨_,rfl⟩
         rw [← hy1]
         have hbt:RowC y1 wr.heap.size 36 [.bool s1,.slice (some ⟨gN,0,none⟩) an ac,.slice (some ⟨gD,0,none⟩) ak ae]:=by rw [hy1];exact heap_alloc_new _ _
         have hb01:Below wr.heap.size wr y1:=by rw [hy1];exact (Below.refl _ _).alloc (Nat.le_refl _) _
         clear hy1
         have hsx:=HBX.out.size
         have hsy:=hb01.size
         have hl0:=hbt.lt
         have hl2y:w.heap.size + 1 < y1.heap.size:=by omega
         have hl4y:bV < y1.heap.size:=by omega
         have hb5y:b5 < y1.heap.size:=by omega
         have hgNy:gN < y1.heap.size:=by omega
         have hgDy:gD < y1.heap.size:=by omega
         have t0:=hbt.cell 0
         have t1:=hbt.cell 1
         have t2:=hbt.cell 2
         have b4:=bc hb01 b4 (show w.heap.size + 1 < wr.heap.size by omega)
         have q2:=bc hb01 q2 (show bV < wr.heap.size by omega)
         have g0:=bc hb01 g0 hb5
         have g1:=bc hb01 g1 hb5
         have g2:=bc hb01 g2 hb5
         have m1:y1.cell? ⟨gN,an,none⟩=some (.int .u32 901):=bc hb01 m1 hgN
         have m2:y1.cell? ⟨gN,an + 1,none⟩=some (.int .u32 902):=bc hb01 m2 hgN
         have m3:y1.cell? ⟨gD,ak,none⟩=some (.int .u32 903):=bc hb01 m3 hgD
         have m4:y1.cell? ⟨gD,ak + 1,none⟩=some (.int .u32 904):=bc hb01 m4 hgD
         have i1:(an:Int) + 2 - 1=((an + 1:Nat):Int):=by omega
         have i2:(an:Int) + 2 - 2=((an:Nat):Int):=by omega
         have i3:(ak:Int) + 2 - 1=((ak + 1:Nat):Int):=by omega
         have i4:(ak:Int) + 2 - 2=((ak:Nat):Int):=by omega
         have x1:IntKind.i64.wrap ((an:Int) + 1)=(an:Int) + 1:=by rw [IntKind.wrap_i64];omega
         have o11:(0:Int)≤(an:Int) + 1:=by omega
         have o12:(an:Int) + 1 < (an:Int) + 2:=by omega
         have o13:((an:Int) + 1).toNat=an + 1:=by omega
         have o14:(an:Int) < (an:Int) + 2:=by omega
         have x2:IntKind.i64.wrap (an:Int)=(an:Int):=by rw [IntKind.wrap_i64];omega
         have x3:IntKind.i64.wrap ((ak:Int) + 1)=(ak:Int) + 1:=by rw [IntKind.wrap_i64];omega
         have o31:(0:Int)≤(ak:Int) + 1:=by omega
         have o32:(ak:Int) + 1 < (ak:Int) + 2:=by omega
         have o33:((ak:Int) + 1).toNat=ak + 1:=by omega
         have o34:(ak:Int) < (ak:Int) + 2:=by omega
         have x4:IntKind.i64.wrap (ak:Int)=(ak:Int):=by rw [IntKind.wrap_i64];omega
         have t00:=t0
         have t10:=t1
         have t20:=t2
         have b40:=b4
         have q20:=q2
         have g00:=g0
         have g10:=g1
         have g20:=g2
         have m10:=m1
         have m20:=m2
         have m30:=m3
         have m40:=m4
         have hbw:Below y1.heap.size y1 y1.drew:=below_refl_drewN _ _ 1
         have hszw:=hbw.size
         refine wp_region_held_drew (S:=fun w'=>w'.cell? ⟨wr.heap.size,0,none⟩=some (.bool s1)∧w'.cell? ⟨wr.heap.size,1,none⟩=some (.slice (some ⟨gN,0,none⟩) an ac)∧w'.cell? ⟨wr.heap.size,2,none⟩=some (.slice (some ⟨gD,0,none⟩) ak ae)∧w'.cell? ⟨w.heap.size + 1,4,none⟩=some (.slice (some ⟨bV,pV,none⟩) N.tables.length d4)∧w'.cell? ⟨bV,pV + j,none⟩=some (.slice (some ⟨b5,off5,none⟩) mV dV)∧w'.cell? ⟨b5,off5 + q * 3,none⟩=some (.bool hd5.neg)∧w'.cell? ⟨b5,off5 + q * 3 + 1,none⟩=some (.slice hd5.A hd5.n hd5.c)∧w'.cell? ⟨b5,off5 + q * 3 + 2,none⟩=some (.slice hd5.D hd5.k hd5.e)∧w'.cell? ⟨gN,an,none⟩=some (.int .u32 901)∧w'.cell? ⟨gN,an + 1,none⟩=some (.int .u32 902)∧w'.cell? ⟨gD,ak,none⟩=some (.int .u32 903)∧w'.cell? ⟨gD,ak + 1,none⟩=some (.int .u32 904)) (by kernel_rfl) ?hS32 (fun hHeld=>?rest32)
         case hS32=>(first | exact ⟨t0,t1,t2,b4,q2,g0,g1,g2,m1,m2,m3,m4⟩ | assumption | go_keep)
         refine tk 0 rfl ?_
         try simp only [Act.put,sp]
         refine tk 1 rfl ?_
         try simp only [Act.put,sp]
         refine tk 2 rfl ?_
         try simp only [Act.put,sp]
         refine tk 3 rfl ?_
         try simp only [Act.put,sp]
         refine tk 4 rfl ?_
         try simp only [Act.put,sp]
         refine tk 5 rfl ?_
         try simp only [Act.put,sp]
         refine tk 6 rfl ?_
         try simp only [Act.put,sp]
         refine tk 7 rfl ?_
         try simp only [Act.put,sp]
         refine tk 8 rfl ?_
         try simp only [Act.put,sp]
         refine wpAnyH_ready (rs:=[9]) (by kernel_rfl) (by simp) (consL rfl (fun K hK=>?step42))
         (go_simp;(refine (HSA.out _ (hb01.trans (hbw.mono hsy))).mono ?_);(rintro e1 y2 ⟨rfl,hbs⟩);(have hbw:=hbw.trans (hbs.mono hszw));(have hszw:=hbw.size);(have t0:=bc hbw t00 hl0);(have t1:=bc hbw t10 hl0);(have t2:=bc hbw t20 hl0);(have b4:=bc hbw b40 hl2y);(have q2:=bc hbw q20 hl4y);(have g0:=bc hbw g00 hb5y);(have g1:=bc hbw g10 hb5y);(have g2:=bc hbw g20 hb5y);(have m1:=bc hbw m10 hgNy);(have m2:=bc hbw m20 hgNy);(have m3:=bc hbw m30 hgDy);(have m4:=bc hbw m40 hgDy))
         refine hK.out _ _ ?hS42 (fun hHeld=>?rest42)
         case hS42=>(first | exact ⟨t0,t1,t2,b4,q2,g0,g1,g2,m1,m2,m3,m4⟩ | assumption | go_keep)
         clear hK K
         try simp only [Act.put,sp]
         refine tk 10 rfl ?_
         try simp only [Act.put,sp]
         refine tk 11 rfl ?_
         try simp only [Act.put,sp]
         refine tk 12 rfl ?_
         try simp only [Act.put,sp]
         refine tk 13 rfl ?_
         try simp only [Act.put,sp]
         refine tk 14 rfl ?_
         try simp only [Act.put,sp]
         refine tk 15 rfl ?_
         try simp only [Act.put,sp]
         refine tk 16 rfl ?_
         try simp only [Act.put,sp]
         refine tk 17 rfl ?_
         try simp only [Act.put,sp]
         refine tk 18 rfl ?_
         try simp only [Act.put,sp]
         refine tk 19 rfl ?_
         try simp only [Act.put,sp]
         refine tk 20 rfl ?_
         try simp only [Act.put,sp]
         refine tk 21 rfl ?_
         try simp only [Act.put,sp]
         refine tk 22 rfl ?_
         try simp only [Act.put,sp]
         refine tk 23 rfl ?_
         try simp only [Act.put,sp]
         refine tk 24 rfl ?_
         try simp only [Act.put,sp]
         refine tk 25 rfl ?_
         try simp only [Act.put,sp]
         refine tk 26 rfl ?_
         try simp only [Act.put,sp]
         refine tk 27 rfl ?_
         try simp only [Act.put,sp]
         refine tk 28 rfl ?_
         try simp only [Act.put,sp]
         refine tk 29 rfl ?_
         try simp only [Act.put,sp]
         refine tk 30 rfl ?_
         try simp only [Act.put,sp]
         refine tk 31 rfl ?_
         try simp only [Act.put,sp]
         refine tk 32 rfl ?_
         try simp only [Act.put,sp]
         refine tk 33 rfl ?_
         try simp only [Act.put,sp]
         refine tk 34 rfl ?_
         try simp only [Act.put,sp]
         refine tk 35 rfl ?_
         try simp only [Act.put,sp]
         refine tk 36 rfl ?_
         try simp only [Act.put,sp]
         refine tk 37 rfl ?_
         try simp only [Act.put,sp]
         refine tk 38 rfl ?_
         try simp only [Act.put,sp]
         refine tk 39 rfl ?_
         try simp only [Act.put,sp]
         refine tk 40 rfl ?_
         try simp only [Act.put,sp]
         refine tk 41 rfl ?_
         try simp only [Act.put,sp]
         refine tk 42 rfl ?_
         try simp only [Act.put,sp]
         refine tk 43 rfl ?_
         try simp only [Act.put,sp]
         refine tk 44 rfl ?_
         try simp only [Act.put,sp]
         refine tk 45 rfl ?_
         try simp only [Act.put,sp]
         refine tk 46 rfl ?_
         try simp only [Act.put,sp]
         refine wpAnyH_done (by kernel_rfl) ?_ _
         go_simp
         go_simp
         (try go_wp2_with fail)
         exact ⟨⟨q + 1,by omega,by go_num,HBX.out.trans ((hb01.trans (hbw.mono hsy)).mono hsx)⟩,by simp [intOf];omega⟩
        ·as_aux_lemma =>
         obtain rfl:mV=q:=by omega
         have k1:=hO.c1
         have k2:=hO.c2
         obtain ⟨e1,rfl,_,hlt1⟩:=hO.m1.some (by omega)
         obtain ⟨e2,rfl,_,hlt2⟩:=hO.m2.some (by omega)
         have v1:wr.cell? ⟨e1,0,none⟩=some (.int .u32 97):=Lst.own.cell (l:=⟨54,1,some ⟨e1,0,none⟩,1,1,[97].map eU⟩) hO.m1 rfl (j:=0) (by simp)
         have v2:wr.cell? ⟨e2,0,none⟩=some (.int .u32 98):=Lst.own.cell (l:=⟨54,1,some ⟨e2,0,none⟩,1,1,[98].map eU⟩) hO.m2 rfl (j:=0) (by simp)
         clear hbx hO
         go_wp2_with fail
         exact ⟨⟨j + 1,by omega,by go_num,HB.out.1.trans (HBX.out.mono HB.out.1.size)⟩,by simp [intOf];omega⟩
      ·as_aux_lemma =>
       obtain rfl:N.tables.length=j:=by omega
       have HW4:=Lib.hid (HXY.out.2.2.2.2.2.trans (hbr.mono HXY.out.2.2.2.2.2.size))
       clear hbr ra rb
       go_wp2_with fail
       go_ret
       exact ⟨rfl,HW4.out⟩
end Go.Proofs.YtmncjibcoffmfaaGreat
