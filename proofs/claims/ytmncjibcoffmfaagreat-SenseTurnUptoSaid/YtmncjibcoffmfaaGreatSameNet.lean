/- credenceref20.SameNet, walked, of two networks that read alike. Conditions: within Go's bound. -/
import Derived.Test.YtmncjibcoffmfaaGreatKeptB
set_option linter.unusedVariables false
set_option linter.unusedSimpArgs false
namespace Go.Proofs.YtmncjibcoffmfaaGreat
open Go.RowKit

structure NetQ (N:NetV):Prop where
 names:N.names.length≤1048576
 vals:N.values.length≤1048576
 val:∀ l,l ∈ N.values→l.length≤1048576
 pars:N.parents.length≤1048576
 par:∀ l,l ∈ N.parents→l.length≤1048576
 tabs:N.tables.length≤1048576
 tab:∀ l,l ∈ N.tables→l.length≤1048576
 num:∀ i j,i < N.tables.length→j < (nth N.tables i).length→(nth (nth N.tables i) j).sz≤100000000000
theorem cmpQ_self (q:Rat):cmpQ q q=0:=by
 unfold cmpQ cmpZ
 rw [if_neg (Int.lt_irrefl _)]
 simp
set_option maxRecDepth 100000 in
set_option maxHeartbeats 4000000 in
theorem samenet_any (N:NetV) (A1 A2 A3 A4:Option Addr) (c1 c2 c3 c4:Nat) (B1 B2 B3 B4:Option Addr) (d1 d2 d3 d4:Nat) (w:World) (x:NetAt w N A1 A2 A3 A4 c1 c2 c3 c4) (y:NetAt w N B1 B2 B3 B4 d1 d2 d3 d4) (hB:NetQ N) :
 Calls Tryz.prog 9 #[.agg (netC N A1 A2 A3 A4 c1 c2 c3 c4).toArray,.agg (netC N B1 B2 B3 B4 d1 d2 d3 d4).toArray] w fun e w'=>e=.returned (.bool true)∧Below w.heap.size w w':=by
 have H1:=(Held.init w).new 27 (netC N A1 A2 A3 A4 c1 c2 c3 c4)
 have H2:=H1.new 27 (netC N B1 B2 B3 B4 d1 d2 d3 d4)
 rw [show (w.alloc (.cells (netC N A1 A2 A3 A4 c1 c2 c3 c4).toArray 27)).heap.size=w.heap.size + 1 from by simp] at H2
 unfold netC at H2 ⊢
 obtain ⟨wq,hwq⟩:∃ wq:World,wq=(w.alloc (.cells #[.string N.name,.slice A1 N.names.length c1,.slice A2 N.values.length c2,.slice A3 N.parents.length c3,.slice A4 N.tables.length c4] 27)).alloc (.cells #[.string N.name,.slice B1 N.names.length d1,.slice B2 N.values.length d2,.slice B3 N.parents.length d3,.slice B4 N.tables.length d4] 27):=⟨_,rfl⟩
 rw [← hwq] at H2
 have hbq:=H2.bel
 have ra:RowC wq w.heap.size 27 [.string N.name,.slice A1 N.names.length c1,.slice A2 N.values.length c2,.slice A3 N.parents.length c3,.slice A4 N.tables.length c4]:=by
  have HG:=H2;exact (bg HG)
 have rb:RowC wq (w.heap.size + 1) 27 [.string N.name,.slice B1 N.names.length d1,.slice B2 N.values.length d2,.slice B3 N.parents.length d3,.slice B4 N.tables.length d4]:=H2.has.1
 have a0:=ra.cell 0
 have a1:=ra.cell 1
 have a2:=ra.cell 2
 have a3:=ra.cell 3
 have a4:=ra.cell 4
 have b0:=rb.cell 0
 have b1:=rb.cell 1
 have b2:=rb.cell 2
 have b3:=rb.cell 3
 have b4:=rb.cell 4
 have HXY:=Lib.hid (And.intro x (And.intro y (And.intro hB (And.intro ra (And.intro rb hbq)))))
 clear H1 H2 x y hB ra rb hbq
 go_enter Tryz.func9,Tryz.ntmps9
 go_upto_region 1 with fail
 rw [← hwq]
 clear hwq
 go_wp2_with fail
 clear a0 a1 a2 a3 a4 b0 b1 b2 b3 b4
 go_loopw [5] (fun i wr=>∃ j:Nat,j≤N.names.length∧i=.int .i64 (j:Nat)∧Below wq.heap.size wq wr) (fun i _=>N.names.length - (intOf i).toNat)
 case atStart=>exact ⟨0,by omega,rfl,Below.refl _ _⟩
 case round =>
  obtain ⟨j,hj,rfl,hbr⟩:=hrel
  have ra:=HXY.out.2.2.2.1.below' hbr
  have rb:=HXY.out.2.2.2.2.1.below' hbr
  have a1:=ra.cell 1
  by_cases hjn:j < N.names.length
  ·as_aux_lemma =>
   have b1:=rb.cell 1
   have hbw:=HXY.out.2.2.2.2.2.trans (hbr.mono HXY.out.2.2.2.2.2.size)
   have hvv:=HXY.out.2.2.1.names
   obtain ⟨gV,oV,rfl,hl3,hca⟩:=(HXY.out.1.below (Nat.le_refl _) hbw).n1.at' (by omega)
   obtain ⟨bV,pV,rfl,hl4,hcb⟩:=(HXY.out.2.1.below (Nat.le_refl _) hbw).n1.at' (by omega)
   have g0:=hca j hjn
   have g1:=hcb j hjn
   have hbeq:(nth N.names j == nth N.names j)=true:=by simp
   generalize nth N.names j=t at *
   have HB:=Lib.hid hbr
   have hjI:(j:Int) < (N.names.length:Int):=by omega
   clear hca hcb hbr hbw ra rb
   go_upto_region 6 with fail
   refine wp_region_held_drew (S:=fun w'=>w'.cell? ⟨w.heap.size,1,none⟩=some (.slice (some ⟨gV,oV,none⟩) N.names.length c1)∧w'.cell? ⟨w.heap.size + 1,1,none⟩=some (.slice (some ⟨bV,pV,none⟩) N.names.length d1)∧w'.cell? ⟨gV,oV + j,none⟩=some (.string t)∧w'.cell? ⟨bV,pV + j,none⟩=some (.string t)) (by kernel_rfl) ?hS1 (fun hHeld=>?rest1)
   case hS1=>(first | exact ⟨a1,b1,g0,g1⟩ | assumption | go_keep)
   refine tk 0 rfl ?_
   try simp only [Act.put,sp]
   refine tk 1 rfl ?_
   try simp only [Act.put,sp]
   refine tk 2 rfl ?_
   try simp only [Act.put,sp]
   refine tk 3 rfl ?_
   try simp only [Act.put,sp]
   refine tk 4 rfl ?_
   try simp only [Act.put,sp]
   refine tk 5 rfl ?_
   try simp only [Act.put,sp]
   refine tk 6 rfl ?_
   try simp only [Act.put,sp]
   refine tk 7 rfl ?_
   try simp only [Act.put,sp]
   refine tk 8 rfl ?_
   try simp only [Act.put,sp]
   refine tk 9 rfl ?_
   try simp only [Act.put,sp]
   refine tk 10 rfl ?_
   try simp only [Act.put,sp]
   refine wpAnyH_done (by kernel_rfl) ?_ _
   go_simp
   go_simp
   (try go_wp2_with fail)
   exact ⟨⟨j + 1,by omega,by go_num,HB.out.trans (below_refl_drewN _ _ 1)⟩,by simp [intOf];omega⟩
  ·obtain rfl:N.names.length=j:=by omega
   have HW2:=Lib.hid hbr
   clear hbr rb
   go_upto_region 8 with fail
   clear a1 ra
   go_wp2_with fail
   go_loopw [6] (fun i wr=>∃ j:Nat,j≤N.values.length∧i=.int .i64 (j:Nat)∧Below wq.heap.size wq wr) (fun i _=>N.values.length - (intOf i).toNat)
   case atStart=>exact ⟨0,by omega,rfl,HW2.out⟩
   case round =>
    obtain ⟨j,hj,rfl,hbr⟩:=hrel
    have ra:=HXY.out.2.2.2.1.below' hbr
    have rb:=HXY.out.2.2.2.2.1.below' hbr
    have hl1:=ra.lt
    have hl2:=rb.lt
    have a2:=ra.cell 2
    by_cases hjn:j < N.values.length
    ·as_aux_lemma =>
     obtain ⟨wo,rfl⟩:∃ y,y=wr:=⟨_,rfl⟩
     have b2:=rb.cell 2
     have hbw:=HXY.out.2.2.2.2.2.trans (hbr.mono HXY.out.2.2.2.2.2.size)
     have hvl:=HXY.out.2.2.1.val _ (nth_mem hjn)
     have hvv:=HXY.out.2.2.1.vals
     obtain ⟨gV,oV,AV,mV,cV,rfl,hl3,q1,hsa,_⟩:=(HXY.out.1.below (Nat.le_refl _) hbw).n2.rowC hjn
     obtain ⟨bV,pV,BV,mB,dV,rfl,hl4,q2,hsb,_⟩:=(HXY.out.2.1.below (Nat.le_refl _) hbw).n2.rowC hjn
     have hm:mV=(nth N.values j).length:=hsa.len.symm
     have hmV:mB=mV:=by rw [hm];exact hsb.len.symm
     subst hmV
     have hmB0:mB≤1048576:=by rw [hm];exact hvl
     have hmB:(mB:Int)≤1048576:=by omega
     have HB:=Lib.hid (And.intro hbr (And.intro a2 (And.intro b2 (And.intro q1 (And.intro q2 (And.intro hsa (And.intro hsb hm)))))))
     have hjI:(j:Int) < (N.values.length:Int):=by omega
     clear hsa hsb hm hvl hbr hbw ra rb
     go_upto_region 11 with fail
     refine wp_region_held_drew (S:=fun w'=>w'.cell? ⟨w.heap.size,2,none⟩=some (.slice (some ⟨gV,oV,none⟩) N.values.length c2)∧w'.cell? ⟨w.heap.size + 1,2,none⟩=some (.slice (some ⟨bV,pV,none⟩) N.values.length d2)∧w'.cell? ⟨gV,oV + j,none⟩=some (.slice AV mB cV)∧w'.cell? ⟨bV,pV + j,none⟩=some (.slice BV mB dV)) (by kernel_rfl) ?hS13 (fun hHeld=>?rest13)
     case hS13=>(first | exact ⟨a2,b2,q1,q2⟩ | assumption | go_keep)
     refine tk 0 rfl ?_
     try simp only [Act.put,sp]
     refine tk 1 rfl ?_
     try simp only [Act.put,sp]
     refine tk 2 rfl ?_
     try simp only [Act.put,sp]
     refine tk 3 rfl ?_
     try simp only [Act.put,sp]
     refine tk 4 rfl ?_
     try simp only [Act.put,sp]
     refine tk 5 rfl ?_
     try simp only [Act.put,sp]
     refine tk 6 rfl ?_
     try simp only [Act.put,sp]
     refine tk 7 rfl ?_
     try simp only [Act.put,sp]
     refine tk 8 rfl ?_
     try simp only [Act.put,sp]
     refine tk 9 rfl ?_
     try simp only [Act.put,sp]
     refine tk 10 rfl ?_
     try simp only [Act.put,sp]
     refine tk 11 rfl ?_
     try simp only [Act.put,sp]
     refine tk 12 rfl ?_
     try simp only [Act.put,sp]
     refine wpAnyH_done (by kernel_rfl) ?_ _
     go_simp
     go_simp
     (try go_wp2_with fail)
     go_loopw [7] (fun i wx=>∃ q:Nat,q≤mB∧i=.int .i64 (q:Nat)∧Below wo.heap.size wo wx) (fun i _=>mB - (intOf i).toNat)
     case atStart=>exact ⟨0,by omega,rfl,below_refl_drewN _ _ 1⟩
     case round =>
      clear a2 b2 q1 q2
      obtain ⟨q,hq,rfl,hbx⟩:=hrel
      have a2:=bc hbx HB.out.2.1 hl1
      have q1:=bc hbx HB.out.2.2.2.1 hl3
      have HBX:=Lib.hid hbx
      by_cases hqn:q < mB
      ·as_aux_lemma =>
       have b2:=bc hbx HB.out.2.2.1 hl2
       have q2:=bc hbx HB.out.2.2.2.2.1 hl4
       have hqI:(q:Int) < (mB:Int):=by omega
       obtain ⟨bA,oA,rfl,hl5,hca⟩:=HB.out.2.2.2.2.2.1.at' (by omega)
       obtain ⟨bB,oB,rfl,hl6,hcb⟩:=HB.out.2.2.2.2.2.2.1.at' (by omega)
       have g0:=bc hbx (hca q hqn) hl5
       have g1:=bc hbx (hcb q hqn) hl6
       have hbeq:(nth (nth N.values j) q == nth (nth N.values j) q)=true:=by simp
       generalize nth (nth N.values j) q=t at *
       clear hca hcb hbx
       go_upto_region 16 with fail
       refine wp_region_held_drew (S:=fun w'=>w'.cell? ⟨w.heap.size,2,none⟩=some (.slice (some ⟨gV,oV,none⟩) N.values.length c2)∧w'.cell? ⟨w.heap.size + 1,2,none⟩=some (.slice (some ⟨bV,pV,none⟩) N.values.length d2)∧w'.cell? ⟨gV,oV + j,none⟩=some (.slice (some ⟨bA,oA,none⟩) mB cV)∧w'.cell? ⟨bV,pV + j,none⟩=some (.slice (some ⟨bB,oB,none⟩) mB dV)∧w'.cell? ⟨bA,oA + q,none⟩=some (.string t)∧w'.cell? ⟨bB,oB + q,none⟩=some (.string t)) (by kernel_rfl) ?hS27 (fun hHeld=>?rest27)
       case hS27=>(first | exact ⟨a2,b2,q1,q2,g0,g1⟩ | assumption | go_keep)
       refine tk 0 rfl ?_
       try simp only [Act.put,sp]
       refine tk 1 rfl ?_
       try simp only [Act.put,sp]
       refine tk 2 rfl ?_
       try simp only [Act.put,sp]
       refine tk 3 rfl ?_
       try simp only [Act.put,sp]
       refine tk 4 rfl ?_
       try simp only [Act.put,sp]
       refine tk 5 rfl ?_
       try simp only [Act.put,sp]
       refine tk 6 rfl ?_
       try simp only [Act.put,sp]
       refine tk 7 rfl ?_
       try simp only [Act.put,sp]
       refine tk 8 rfl ?_
       try simp only [Act.put,sp]
       refine tk 9 rfl ?_
       try simp only [Act.put,sp]
       refine tk 10 rfl ?_
       try simp only [Act.put,sp]
       refine tk 11 rfl ?_
       try simp only [Act.put,sp]
       refine tk 12 rfl ?_
       try simp only [Act.put,sp]
       refine tk 13 rfl ?_
       try simp only [Act.put,sp]
       refine tk 14 rfl ?_
       try simp only [Act.put,sp]
       refine tk 15 rfl ?_
       try simp only [Act.put,sp]
       refine tk 16 rfl ?_
       try simp only [Act.put,sp]
       refine wpAnyH_done (by kernel_rfl) ?_ _
       go_simp
       go_simp
       (try go_wp2_with fail)
       exact ⟨⟨q + 1,by omega,by go_num,HBX.out.trans (below_refl_drewN _ _ 1)⟩,by simp [intOf];omega⟩
      ·as_aux_lemma =>
       obtain rfl:mB=q:=by omega
       clear hbx
       go_wp2_with fail
       exact ⟨⟨j + 1,by omega,by go_num,HB.out.1.trans (HBX.out.mono HB.out.1.size)⟩,by simp [intOf];omega⟩
    ·obtain rfl:N.values.length=j:=by omega
     have HW3:=Lib.hid hbr
     clear hbr rb
     go_upto_region 18 with fail
     clear a2 ra hl1 hl2
     go_wp2_with fail
     go_loopw [8] (fun i wr=>∃ j:Nat,j≤N.parents.length∧i=.int .i64 (j:Nat)∧Below wq.heap.size wq wr) (fun i _=>N.parents.length - (intOf i).toNat)
     case atStart=>exact ⟨0,by omega,rfl,HW3.out⟩
     case round =>
      obtain ⟨j,hj,rfl,hbr⟩:=hrel
      have ra:=HXY.out.2.2.2.1.below' hbr
      have rb:=HXY.out.2.2.2.2.1.below' hbr
      have hl1:=ra.lt
      have hl2:=rb.lt
      have a3:=ra.cell 3
      by_cases hjn:j < N.parents.length
      ·as_aux_lemma =>
       obtain ⟨wo,rfl⟩:∃ y,y=wr:=⟨_,rfl⟩
       have b3:=rb.cell 3
       have hbw:=HXY.out.2.2.2.2.2.trans (hbr.mono HXY.out.2.2.2.2.2.size)
       have hvl:=HXY.out.2.2.1.par _ (nth_mem hjn)
       have hvv:=HXY.out.2.2.1.pars
       obtain ⟨gV,oV,AV,mV,cV,rfl,hl3,q1,hsa,_⟩:=(HXY.out.1.below (Nat.le_refl _) hbw).n3.rowC hjn
       obtain ⟨bV,pV,BV,mB,dV,rfl,hl4,q2,hsb,_⟩:=(HXY.out.2.1.below (Nat.le_refl _) hbw).n3.rowC hjn
       have hm:mV=(nth N.parents j).length:=hsa.len.symm
       have hmV:mB=mV:=by rw [hm];exact hsb.len.symm
       subst hmV
       have hmB0:mB≤1048576:=by rw [hm];exact hvl
       have hmB:(mB:Int)≤1048576:=by omega
       have HB:=Lib.hid (And.intro hbr (And.intro a3 (And.intro b3 (And.intro q1 (And.intro q2 (And.intro hsa (And.intro hsb hm)))))))
       have hjI:(j:Int) < (N.parents.length:Int):=by omega
       clear hsa hsb hm hvl hbr hbw ra rb
       go_upto_region 21 with fail
       refine wp_region_held_drew (S:=fun w'=>w'.cell? ⟨w.heap.size,3,none⟩=some (.slice (some ⟨gV,oV,none⟩) N.parents.length c3)∧w'.cell? ⟨w.heap.size + 1,3,none⟩=some (.slice (some ⟨bV,pV,none⟩) N.parents.length d3)∧w'.cell? ⟨gV,oV + j,none⟩=some (.slice AV mB cV)∧w'.cell? ⟨bV,pV + j,none⟩=some (.slice BV mB dV)) (by kernel_rfl) ?hS45 (fun hHeld=>?rest45)
       case hS45=>(first | exact ⟨a3,b3,q1,q2⟩ | assumption | go_keep)
       refine tk 0 rfl ?_
       try simp only [Act.put,sp]
       refine tk 1 rfl ?_
       try simp only [Act.put,sp]
       refine tk 2 rfl ?_
       try simp only [Act.put,sp]
       refine tk 3 rfl ?_
       try simp only [Act.put,sp]
       refine tk 4 rfl ?_
       try simp only [Act.put,sp]
       refine tk 5 rfl ?_
       try simp only [Act.put,sp]
       refine tk 6 rfl ?_
       try simp only [Act.put,sp]
       refine tk 7 rfl ?_
       try simp only [Act.put,sp]
       refine tk 8 rfl ?_
       try simp only [Act.put,sp]
       refine tk 9 rfl ?_
       try simp only [Act.put,sp]
       refine tk 10 rfl ?_
       try simp only [Act.put,sp]
       refine tk 11 rfl ?_
       try simp only [Act.put,sp]
       refine tk 12 rfl ?_
       try simp only [Act.put,sp]
       refine wpAnyH_done (by kernel_rfl) ?_ _
       go_simp
       go_simp
       (try go_wp2_with fail)
       go_loopw [9] (fun i wx=>∃ q:Nat,q≤mB∧i=.int .i64 (q:Nat)∧Below wo.heap.size wo wx) (fun i _=>mB - (intOf i).toNat)
       case atStart=>exact ⟨0,by omega,rfl,below_refl_drewN _ _ 1⟩
       case round =>
        clear a3 b3 q1 q2
        obtain ⟨q,hq,rfl,hbx⟩:=hrel
        have a3:=bc hbx HB.out.2.1 hl1
        have q1:=bc hbx HB.out.2.2.2.1 hl3
        have HBX:=Lib.hid hbx
        by_cases hqn:q < mB
        ·as_aux_lemma =>
         have b3:=bc hbx HB.out.2.2.1 hl2
         have q2:=bc hbx HB.out.2.2.2.2.1 hl4
         have hqI:(q:Int) < (mB:Int):=by omega
         obtain ⟨bA,oA,rfl,hl5,hca⟩:=HB.out.2.2.2.2.2.1.at' (by omega)
         obtain ⟨bB,oB,rfl,hl6,hcb⟩:=HB.out.2.2.2.2.2.2.1.at' (by omega)
         have g0:=bc hbx (hca q hqn) hl5
         have g1:=bc hbx (hcb q hqn) hl6
         generalize nth (nth N.parents j) q=t at *
         clear hca hcb hbx
         go_upto_region 26 with fail
         refine wp_region_held_drew (S:=fun w'=>w'.cell? ⟨w.heap.size,3,none⟩=some (.slice (some ⟨gV,oV,none⟩) N.parents.length c3)∧w'.cell? ⟨w.heap.size + 1,3,none⟩=some (.slice (some ⟨bV,pV,none⟩) N.parents.length d3)∧w'.cell? ⟨gV,oV + j,none⟩=some (.slice (some ⟨bA,oA,none⟩) mB cV)∧w'.cell? ⟨bV,pV + j,none⟩=some (.slice (some ⟨bB,oB,none⟩) mB dV)∧w'.cell? ⟨bA,oA + q,none⟩=some (.int .i64 t)∧w'.cell? ⟨bB,oB + q,none⟩=some (.int .i64 t)) (by kernel_rfl) ?hS59 (fun hHeld=>?rest59)
         case hS59=>(first | exact ⟨a3,b3,q1,q2,g0,g1⟩ | assumption | go_keep)
         refine tk 0 rfl ?_
         try simp only [Act.put,sp]
         refine tk 1 rfl ?_
         try simp only [Act.put,sp]
         refine tk 2 rfl ?_
         try simp only [Act.put,sp]
         refine tk 3 rfl ?_
         try simp only [Act.put,sp]
         refine tk 4 rfl ?_
         try simp only [Act.put,sp]
         refine tk 5 rfl ?_
         try simp only [Act.put,sp]
         refine tk 6 rfl ?_
         try simp only [Act.put,sp]
         refine tk 7 rfl ?_
         try simp only [Act.put,sp]
         refine tk 8 rfl ?_
         try simp only [Act.put,sp]
         refine tk 9 rfl ?_
         try simp only [Act.put,sp]
         refine tk 10 rfl ?_
         try simp only [Act.put,sp]
         refine tk 11 rfl ?_
         try simp only [Act.put,sp]
         refine tk 12 rfl ?_
         try simp only [Act.put,sp]
         refine tk 13 rfl ?_
         try simp only [Act.put,sp]
         refine tk 14 rfl ?_
         try simp only [Act.put,sp]
         refine tk 15 rfl ?_
         try simp only [Act.put,sp]
         refine tk 16 rfl ?_
         try simp only [Act.put,sp]
         refine wpAnyH_done (by kernel_rfl) ?_ _
         go_simp
         go_simp
         (try go_wp2_with fail)
         exact ⟨⟨q + 1,by omega,by go_num,HBX.out.trans (below_refl_drewN _ _ 1)⟩,by simp [intOf];omega⟩
        ·as_aux_lemma =>
         obtain rfl:mB=q:=by omega
         clear hbx
         go_wp2_with fail
         exact ⟨⟨j + 1,by omega,by go_num,HB.out.1.trans (HBX.out.mono HB.out.1.size)⟩,by simp [intOf];omega⟩
      ·obtain rfl:N.parents.length=j:=by omega
       have HW4:=Lib.hid hbr
       clear hbr rb
       go_upto_region 28 with fail
       clear a3 ra hl1 hl2
       go_wp2_with fail
       go_loopw [10] (fun i wr=>∃ j:Nat,j≤N.tables.length∧i=.int .i64 (j:Nat)∧Below wq.heap.size wq wr) (fun i _=>N.tables.length - (intOf i).toNat)
       case atStart=>exact ⟨0,by omega,rfl,HW4.out⟩
       case round =>
        obtain ⟨j,hj,rfl,hbr⟩:=hrel
        have ra:=HXY.out.2.2.2.1.below' hbr
        have rb:=HXY.out.2.2.2.2.1.below' hbr
        have hl1:=ra.lt
        have hl2:=rb.lt
        have a4:=ra.cell 4
        by_cases hjn:j < N.tables.length
        ·as_aux_lemma =>
         obtain ⟨wo,rfl⟩:∃ y,y=wr:=⟨_,rfl⟩
         have b4:=rb.cell 4
         have hbw:=HXY.out.2.2.2.2.2.trans (hbr.mono HXY.out.2.2.2.2.2.size)
         have hvl:=HXY.out.2.2.1.tab _ (nth_mem hjn)
         have hvv:=HXY.out.2.2.1.tabs
         obtain ⟨gV,oV,AV,mV,cV,rfl,hl3,q1,hsa,_⟩:=(HXY.out.1.below (Nat.le_refl _) hbw).n4.row hjn
         obtain ⟨bV,pV,BV,mB,dV,rfl,hl4,q2,hsb,_⟩:=(HXY.out.2.1.below (Nat.le_refl _) hbw).n4.row hjn
         have hm:mV=(nth N.tables j).length:=hsa.len.symm
         have hmV:mB=mV:=by rw [hm];exact hsb.len.symm
         subst hmV
         have hmB0:mB≤1048576:=by rw [hm];exact hvl
         have hmB:(mB:Int)≤1048576:=by omega
         have HB:=Lib.hid (And.intro hbr (And.intro a4 (And.intro b4 (And.intro q1 (And.intro q2 (And.intro hsa (And.intro hsb hm)))))))
         have hjI:(j:Int) < (N.tables.length:Int):=by omega
         clear hsa hsb hm hvl hbr hbw ra rb
         go_upto_region 31 with fail
         refine wp_region_held_drew (S:=fun w'=>w'.cell? ⟨w.heap.size,4,none⟩=some (.slice (some ⟨gV,oV,none⟩) N.tables.length c4)∧w'.cell? ⟨w.heap.size + 1,4,none⟩=some (.slice (some ⟨bV,pV,none⟩) N.tables.length d4)∧w'.cell? ⟨gV,oV + j,none⟩=some (.slice AV mB cV)∧w'.cell? ⟨bV,pV + j,none⟩=some (.slice BV mB dV)) (by kernel_rfl) ?hS77 (fun hHeld=>?rest77)
         case hS77=>(first | exact ⟨a4,b4,q1,q2⟩ | assumption | go_keep)
         refine tk 0 rfl ?_
         try simp only [Act.put,sp]
         refine tk 1 rfl ?_
         try simp only [Act.put,sp]
         refine tk 2 rfl ?_
         try simp only [Act.put,sp]
         refine tk 3 rfl ?_
         try simp only [Act.put,sp]
         refine tk 4 rfl ?_
         try simp only [Act.put,sp]
         refine tk 5 rfl ?_
         try simp only [Act.put,sp]
         refine tk 6 rfl ?_
         try simp only [Act.put,sp]
         refine tk 7 rfl ?_
         try simp only [Act.put,sp]
         refine tk 8 rfl ?_
         try simp only [Act.put,sp]
         refine tk 9 rfl ?_
         try simp only [Act.put,sp]
         refine tk 10 rfl ?_
         try simp only [Act.put,sp]
         refine tk 11 rfl ?_
         try simp only [Act.put,sp]
         refine tk 12 rfl ?_
         try simp only [Act.put,sp]
         refine wpAnyH_done (by kernel_rfl) ?_ _
         go_simp
         go_simp
         (try go_wp2_with fail)
         go_loopw [11] (fun i wx=>∃ q:Nat,q≤mB∧i=.int .i64 (q:Nat)∧Below wo.heap.size wo wx) (fun i _=>mB - (intOf i).toNat)
         case atStart=>exact ⟨0,by omega,rfl,below_refl_drewN _ _ 1⟩
         case round =>
          clear a4 b4 q1 q2
          obtain ⟨q,hq,rfl,hbx⟩:=hrel
          have a4:=bc hbx HB.out.2.1 hl1
          have q1:=bc hbx HB.out.2.2.2.1 hl3
          have HBX:=Lib.hid hbx
          by_cases hqn:q < mB
          ·as_aux_lemma =>
           have b4:=bc hbx HB.out.2.2.1 hl2
           have q2:=bc hbx HB.out.2.2.2.2.1 hl4
           have hqI:(q:Int) < (mB:Int):=by omega
           obtain ⟨b5,off5,hd5,rfl,hb5,g0,g1,g2,hraw⟩:=(HB.out.2.2.2.2.2.1.below (Nat.le_refl _) hbx).at hqn
           obtain ⟨b6,off6,hd6,rfl,hb6,k0,k1,k2,hrav⟩:=(HB.out.2.2.2.2.2.2.1.below (Nat.le_refl _) hbx).at hqn
           have hsz:=HXY.out.2.2.1.num j q hjn (by rw [← HB.out.2.2.2.2.2.2.2];exact hqn)
           have hcmp:=fun y (hb:Below wr.heap.size wr y)=>rfrac_cmp hd5.val hd6.val _ _ _ _ y (hraw.at.below (Nat.le_refl _) hb) (hrav.at.below (Nat.le_refl _) hb) (by omega)
           rw [cmpQ_self] at hcmp
           unfold RH.val at hcmp
           have HSA:=Lib.hid hcmp
           clear hcmp hraw hrav hsz hbx
           go_upto_region 36 with fail
           have hsx:=HBX.out.size
           have hl1r:w.heap.size < wr.heap.size:=by omega
           have hl2r:w.heap.size + 1 < wr.heap.size:=by omega
           have hl3r:gV < wr.heap.size:=by omega
           have hl4r:bV < wr.heap.size:=by omega
           have a40:=a4
           have b40:=b4
           have q10:=q1
           have q20:=q2
           have g00:=g0
           have g10:=g1
           have g20:=g2
           have k00:=k0
           have k10:=k1
           have k20:=k2
           have hbw:Below wr.heap.size wr wr.drew:=below_refl_drewN _ _ 1
           have hszw:=hbw.size
           refine wp_region_held_drew (S:=fun w'=>w'.cell? ⟨w.heap.size,4,none⟩=some (.slice (some ⟨gV,oV,none⟩) N.tables.length c4)∧w'.cell? ⟨w.heap.size + 1,4,none⟩=some (.slice (some ⟨bV,pV,none⟩) N.tables.length d4)∧w'.cell? ⟨gV,oV + j,none⟩=some (.slice (some ⟨b5,off5,none⟩) mB cV)∧w'.cell? ⟨bV,pV + j,none⟩=some (.slice (some ⟨b6,off6,none⟩) mB dV)∧w'.cell? ⟨b5,off5 + q * 3,none⟩=some (.bool hd5.neg)∧w'.cell? ⟨b5,off5 + q * 3 + 1,none⟩=some (.slice hd5.A hd5.n hd5.c)∧w'.cell? ⟨b5,off5 + q * 3 + 2,none⟩=some (.slice hd5.D hd5.k hd5.e)∧w'.cell? ⟨b6,off6 + q * 3,none⟩=some (.bool hd6.neg)∧w'.cell? ⟨b6,off6 + q * 3 + 1,none⟩=some (.slice hd6.A hd6.n hd6.c)∧w'.cell? ⟨b6,off6 + q * 3 + 2,none⟩=some (.slice hd6.D hd6.k hd6.e)) (by kernel_rfl) ?hS91 (fun hHeld=>?rest91)
           case hS91=>(first | exact ⟨a4,b4,q1,q2,g0,g1,g2,k0,k1,k2⟩ | assumption | go_keep)
           refine tk 0 rfl ?_
           try simp only [Act.put,sp]
           refine tk 1 rfl ?_
           try simp only [Act.put,sp]
           refine tk 2 rfl ?_
           try simp only [Act.put,sp]
           refine tk 3 rfl ?_
           try simp only [Act.put,sp]
           refine tk 4 rfl ?_
           try simp only [Act.put,sp]
           refine tk 5 rfl ?_
           try simp only [Act.put,sp]
           refine tk 6 rfl ?_
           try simp only [Act.put,sp]
           refine tk 7 rfl ?_
           try simp only [Act.put,sp]
           refine tk 8 rfl ?_
           try simp only [Act.put,sp]
           refine tk 9 rfl ?_
           try simp only [Act.put,sp]
           refine tk 10 rfl ?_
           try simp only [Act.put,sp]
           refine tk 11 rfl ?_
           try simp only [Act.put,sp]
           refine tk 12 rfl ?_
           try simp only [Act.put,sp]
           refine tk 13 rfl ?_
           try simp only [Act.put,sp]
           refine tk 14 rfl ?_
           try simp only [Act.put,sp]
           refine tk 15 rfl ?_
           try simp only [Act.put,sp]
           refine wpAnyH_ready (rs:=[16]) (by kernel_rfl) (by simp) (consL rfl (fun K hK=>?step108))
           (go_simp;(refine (HSA.out _ hbw).mono ?_);(rintro e1 y2 ⟨rfl,hbs⟩);(have hbw:=hbw.trans (hbs.mono hszw));(have hszw:=hbw.size);(have a4:=bc hbw a40 hl1r);(have b4:=bc hbw b40 hl2r);(have q1:=bc hbw q10 hl3r);(have q2:=bc hbw q20 hl4r);(have g0:=bc hbw g00 hb5);(have g1:=bc hbw g10 hb5);(have g2:=bc hbw g20 hb5);(have k0:=bc hbw k00 hb6);(have k1:=bc hbw k10 hb6);(have k2:=bc hbw k20 hb6))
           refine hK.out _ _ ?hS108 (fun hHeld=>?rest108)
           case hS108=>(first | exact ⟨a4,b4,q1,q2,g0,g1,g2,k0,k1,k2⟩ | assumption | go_keep)
           clear hK K
           try simp only [Act.put,sp]
           refine tk 17 rfl ?_
           try simp only [Act.put,sp]
           refine wpAnyH_done (by kernel_rfl) ?_ _
           go_simp
           go_simp
           (try go_wp2_with fail)
           exact ⟨⟨q + 1,by omega,by go_num,HBX.out.trans (hbw.mono hsx)⟩,by simp [intOf];omega⟩
          ·as_aux_lemma =>
           obtain rfl:mB=q:=by omega
           clear hbx
           go_wp2_with fail
           exact ⟨⟨j + 1,by omega,by go_num,HB.out.1.trans (HBX.out.mono HB.out.1.size)⟩,by simp [intOf];omega⟩
        ·as_aux_lemma =>
         obtain rfl:N.tables.length=j:=by omega
         have HW9:=Lib.hid (HXY.out.2.2.2.2.2.trans (hbr.mono HXY.out.2.2.2.2.2.size))
         clear hbr rb ra
         go_wp2_with fail
         go_ret
         exact ⟨rfl,HW9.out⟩
end Go.Proofs.YtmncjibcoffmfaaGreat
