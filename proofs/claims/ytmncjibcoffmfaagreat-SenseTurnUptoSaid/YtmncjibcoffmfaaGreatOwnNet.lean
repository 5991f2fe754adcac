/- credenceref20.OwnNet, walked, of a network whose lists are a family, each in a block of its own. Conditions: within Go's bound. -/
import Derived.Test.YtmncjibcoffmfaaGreatOwnNetM
import Derived.Test.YtmncjibcoffmfaaGreatLendM
set_option linter.unusedVariables false
set_option linter.unusedSimpArgs false
namespace Go.Proofs.YtmncjibcoffmfaaGreat
open Go.RowKit

set_option maxRecDepth 100000 in
set_option maxHeartbeats 8000000 in
theorem ownnet_any (S:Nat→Prop) (lo:Nat) (M:Key→Lst) (N:NetV) (T:Nat→Nat→Rat) (w:World) (hF:Fam w lo M) (hlo:lo≤w.heap.size) (hS:∀ k b,(M k).val.ownBlock=some b→S b) (hL:Link M N T N.values.length N.parents.length N.tables.length) (hB:NetQ N)
 (hpos:∀ i,i < N.tables.length→0 < (nth N.tables i).length) (htot:totL (fun i=>(nth N.tables i).length) N.tables.length≤1000000000) (hT:∀ i j,i < N.tables.length→j < (nth N.tables i).length→ratLen (T i j)≤1000000000000) :
 Calls Tryz.prog 13 #[.agg (boxCs M N.name).toArray] w fun e w'=>e=.returned (.bool true)∧Turn w w' S:=by
 obtain ⟨nm,hnm⟩:∃ x,x=N.name:=⟨_,rfl⟩
 obtain ⟨nN,hnN⟩:∃ x,x=N.names.length:=⟨_,rfl⟩
 obtain ⟨nV,hnV⟩:∃ x,x=N.values.length:=⟨_,rfl⟩
 obtain ⟨nP,hnP⟩:∃ x,x=N.parents.length:=⟨_,rfl⟩
 obtain ⟨nT,hnT⟩:∃ x,x=N.tables.length:=⟨_,rfl⟩
 obtain ⟨lv,hlv⟩:∃ x:Nat→Nat,x=fun i=>(nth N.values i).length:=⟨_,rfl⟩
 obtain ⟨lp,hlp⟩:∃ x:Nat→Nat,x=fun i=>(nth N.parents i).length:=⟨_,rfl⟩
 obtain ⟨lt,hlt⟩:∃ x:Nat→Nat,x=fun i=>(nth N.tables i).length:=⟨_,rfl⟩
 obtain ⟨AN,hAN⟩:∃ x,x=(M kN).A:=⟨_,rfl⟩
 obtain ⟨AV,hAV⟩:∃ x,x=(M kV).A:=⟨_,rfl⟩
 obtain ⟨AP,hAP⟩:∃ x,x=(M kP).A:=⟨_,rfl⟩
 obtain ⟨AT,hAT⟩:∃ x,x=(M kT).A:=⟨_,rfl⟩
 obtain ⟨cN,hcN⟩:∃ x,x=(M kN).c:=⟨_,rfl⟩
 obtain ⟨cV,hcV⟩:∃ x,x=(M kV).c:=⟨_,rfl⟩
 obtain ⟨cP,hcP⟩:∃ x,x=(M kP).c:=⟨_,rfl⟩
 obtain ⟨cT,hcT⟩:∃ x,x=(M kT).c:=⟨_,rfl⟩
 have hbox:boxCs M N.name=[.string nm,.slice AN nN cN,.slice AV nV cV,.slice AP nP cP,.slice AT nT cT]:=by
  unfold boxCs
  rw [hL.names.n,hL.vals.out.n,hL.pars.out.n,hL.tO.n,hnm,hAN,hAV,hAP,hAT,hcN,hcV,hcP,hcT,hnN,hnV,hnP,hnT]
 obtain ⟨neg,hneg⟩:∃ x:Nat × Nat→Bool,x=fun q=>isNeg (T q.1 q.2).num:=⟨_,rfl⟩
 have hpos':∀ i,i < nT→0 < lt i:=by rw [hnT,hlt];exact hpos
 have htot':totL lt nT≤1000000000:=by rw [hnT,hlt];exact htot
 obtain ⟨gB,hgB⟩:∃ g,g=w.heap.size:=⟨_,rfl⟩
 obtain ⟨wq,hwq⟩:∃ wq:World,wq=w.alloc (.cells #[.string nm,.slice AN nN cN,.slice AV nV cV,.slice AP nP cP,.slice AT nT cT] 27):=⟨_,rfl⟩
 have hbq:Below w.heap.size w wq:=by rw [hwq];exact (Below.refl _ _).alloc (Nat.le_refl _) _
 obtain ⟨BL,hBL⟩:∃ b:Lst,b=⟨27,5,some ⟨gB,0,none⟩,1,1,[.string nm,.slice AN nN cN,.slice AV nV cV,.slice AP nP cP,.slice AT nT cT]⟩:=⟨_,rfl⟩
 have hO0:OwnS w S lo M (fun k=>(M k).cs) w:=⟨by rw [wth_self];exact hF,Turn.refl _ _,fun k b h _=>hS k b h,hlo⟩
 have hO1:OwnS w S lo (upd M kB BL) (updC (fun k=>(M k).cs) kB BL.cs) wq:=hO0.new hbq kB (by
  rw [hBL,hgB,hwq]
  exact own_new w 27 5 1 [.string nm,.slice AN nN cN,.slice AV nV cV,.slice AP nP cP,.slice AT nT cT] rfl (by decide))
 obtain ⟨MB,hMB⟩:∃ x,x=upd M kB BL:=⟨_,rfl⟩
 obtain ⟨CB,hCB⟩:∃ x,x=updC (fun k=>(M k).cs) kB BL.cs:=⟨_,rfl⟩
 rw [← hMB,← hCB] at hO1
 have hA0:AllS w S lo M MB CB neg lt 0 none 0 wq:=hO1.bare kA 36 3
 have hstd:∀ (p:Nat) (A:Option Addr) (c:Nat),Std (upd MB kA ⟨36,3,A,totL lt p,c,(prs lt p).flatMap (hdE M neg).cells⟩) (updC CB kA ((prs lt p).flatMap (hdE M neg).cells)) nm gB nN nV nP nT lv lp lt AN AV AP AT cN cV cP cT:=fun p A c=>by
  have h1:=std_start (M2:=upd MB kA ⟨36,3,A,totL lt p,c,(prs lt p).flatMap (hdE M neg).cells⟩) (C2:=updC CB kA ((prs lt p).flatMap (hdE M neg).cells)) (gB:=gB) hL hB (fun k hk=>by
   have h1:k ≠ kA:=fun e=>by rw [e] at hk;exact absurd hk (by decide)
   have h2:k ≠ kB:=fun e=>by rw [e] at hk;exact absurd hk (by decide)
   rw [upd_ne _ _ h1,hMB,upd_ne _ _ h2]) (fun k hk=>by
   have h1:k ≠ kA:=fun e=>by rw [e] at hk;exact absurd hk (by decide)
   have h2:k ≠ kB:=fun e=>by rw [e] at hk;exact absurd hk (by decide)
   rw [updC_ne _ _ h1,hCB,updC_ne _ _ h2]) (by rw [upd_ne _ _ (kne (by omega)),hMB,upd_same,hBL];exact ⟨rfl,rfl,rfl⟩) (by rw [updC_ne _ _ (kne (by omega)),hCB,updC_same,hBL,hbox])
  rw [← hnm,← hnN,← hnV,← hnP,← hnT,← hlv,← hlp,← hlt,← hAN,← hAV,← hAP,← hAT,← hcN,← hcV,← hcP,← hcT] at h1
  exact h1
 have hallat:∀ (A:Option Addr) (c:Nat),AllAt (upd MB kA ⟨36,3,A,totL lt nT,c,(prs lt nT).flatMap (hdE M neg).cells⟩) (updC CB kA ((prs lt nT).flatMap (hdE M neg).cells)) (prs lt nT) neg:=fun A c=>by
  have h1:=all_at (M2:=upd MB kA ⟨36,3,A,totL lt nT,c,(prs lt nT).flatMap (hdE M neg).cells⟩) (C2:=updC CB kA ((prs lt nT).flatMap (hdE M neg).cells)) hL (fun k hk=>by
   have h1:k ≠ kA:=fun e=>by rw [e] at hk;exact absurd hk (by decide)
   have h2:k ≠ kB:=fun e=>by rw [e] at hk;exact absurd hk (by decide)
   rw [upd_ne _ _ h1,hMB,upd_ne _ _ h2]) neg (by rw [upd_same]) (by rw [upd_same,hlt,hnT]) (by rw [updC_same,hlt,hnT]) htot hT
  rw [← hlt,← hnT] at h1
  exact h1
 have hrow:∀ (p:Nat),p < nT→CB (kt p)=((List.range (lt p)).map fun j=>(p,j)).flatMap (hdE M neg).cells:=fun p hp=>by
  rw [hCB,updC_ne _ _ (kne (by omega)),hneg,hlt]
  exact tab_hd (hL.tab p (by rw [← hnT];exact hp))
 have hnTb:nT≤1048576:=by rw [hnT];exact hB.tabs
 have HS:=Lib.hid (And.intro hstd (And.intro hallat (And.intro hrow (And.intro hpos' htot'))))
 have HA0:=Lib.hid hA0
 have hgBq:gB < wq.heap.size:=by rw [hgB,hwq];simp
 rw [hbox]
 show Calls _ _ #[.agg #[.string nm,.slice AN nN cN,.slice AV nV cV,.slice AP nP cP,.slice AT nT cT]] _ _
 clear hnm hnN hnV hnP hnT hlv hlp hlt hAN hAV hAP hAT hcN hcV hcP hcT hbox hneg hpos' htot' hbq hO0 hO1 hMB hCB hA0 hstd hallat hrow hBL hF hS hL hB hpos htot hT
 go_enter Tryz.func13,Tryz.ntmps13
 go_upto_region 1 with fail
 rw [← hwq,← hgB]
 clear hwq hgB
 go_wp2_with fail
 go_loopw [4,3] (fun i s wr=>∃ (p:Nat) (A:Option Addr) (c:Nat),p≤nT∧i=.int .i64 (p:Nat)∧s=.slice A (totL lt p) c∧AllS w S lo M MB CB neg lt p A c wr) (fun i _ _=>nT - (intOf i).toNat)
 case atStart=>exact ⟨0,none,0,by omega,rfl,rfl,HA0.out⟩
 case round =>
  clear hgBq
  obtain ⟨p,A,c,hp,rfl,rfl,hAS⟩:=hrel
  obtain ⟨hgB,_,_,_,a4⟩:=(HS.out.1 p A c).cells hAS rfl
  by_cases hpn:p < nT
  ·as_aux_lemma =>
   obtain ⟨gT,eT,hgT,q1⟩:=(HS.out.1 p A c).rowT hAS rfl hpn
   have ht:=(HS.out.1 p A c).t p hpn
   have hp0:=HS.out.2.2.2.1 p hpn
   obtain ⟨g,eg,_,hg,_,hc⟩:=OwnS.at hAS (kt p) (by rw [ht.2.2];exact hp0)
   obtain ⟨d1,hd1⟩:∃ x,x=((upd MB kA ⟨36,3,A,totL lt p,c,(prs lt p).flatMap (hdE M neg).cells⟩) (kt p)).c:=⟨_,rfl⟩
   rw [eg,← hd1] at q1
   rw [ht.2.2,ht.2.1,updC_ne _ _ (kne (by omega)),HS.out.2.2.1 p hpn] at hc
   have hown:(⟨36,3,A,totL lt p,c,(prs lt p).flatMap (hdE M neg).cells⟩:Lst).own wr lo:=by
    have h1:=OwnS.fam hAS
    have h2:=h1.own kA
    unfold wth at h2
    rw [upd_same,updC_same] at h2
    exact h2
   have hnews:(((List.range (lt p)).map fun j=>(p,j)).flatMap (hdE M neg).cells).length=lt p * 3:=by rw [flat_length];simp
   have hcells:=addr_cells hnews hc
   have hone:∀ u ∈ ((List.range (lt p)).map fun j=>(p,j)).flatMap (hdE M neg).cells,u.oneCell'=true:=fun u hu=>by
    obtain ⟨q,_,hu⟩:=List.mem_flatMap.1 hu
    exact (hdE M neg).one q u hu
   have hbytes:(totL lt p + lt p) * 56≤140737488355328:=by
    have h1:totL lt p + lt p≤totL lt nT:=totL_le (i:=p + 1) (by omega)
    have h2:=HS.out.2.2.2.2
    omega
   have hlo:=OwnS.lo_le hAS
   subst eT
   have HB:=Lib.hid (And.intro hAS (And.intro hown (And.intro hnews (And.intro hcells (And.intro hone (And.intro hbytes (And.intro hlo hp0)))))))
   have hpI:(p:Int) < (nT:Int):=by omega
   clear hAS ht eg hc hd1 hown hnews hcells hone hbytes hlo hp0
   go_wp2_with (refine wpList_app_raw _ (L:=⟨36,3,A,totL lt p,c,(prs lt p).flatMap (hdE M neg).cells⟩) eiRat (by rfl) (.tmp 39) (.tmp 44) (by rfl) lo (by rfl) HB.out.2.1 ⟨g,0,none⟩ (lt p) d1 (((List.range (lt p)).map fun j=>(p,j)).flatMap (hdE M neg).cells) (by rfl) HB.out.2.2.1 HB.out.2.2.2.1 HB.out.2.2.2.2.1 HB.out.2.2.2.2.2.1 HB.out.2.2.2.2.2.2.1 HB.out.2.2.2.2.2.2.2 ?_;intro A' c' w' hown' hg' _ hat')
   exact ⟨⟨p + 1,A',c',by omega,by go_num,rfl,HB.out.1.next hown' hg' hat'⟩,by simp [intOf];omega⟩
  ·have hpnI:¬ (p:Int) < (nT:Int):=by omega
   obtain rfl:nT=p:=by omega
   obtain ⟨M2,hM2⟩:∃ m,m=upd MB kA ⟨36,3,A,totL lt nT,c,(prs lt nT).flatMap (hdE M neg).cells⟩:=⟨_,rfl⟩
   obtain ⟨C2,hC2⟩:∃ m,m=updC CB kA ((prs lt nT).flatMap (hdE M neg).cells):=⟨_,rfl⟩
   have hX:=HS.out.1 nT A c
   have hAA:=HS.out.2.1 A c
   unfold AllS at hAS
   rw [← hM2,← hC2] at hX hAA hAS
   have hfr:=fresh_any w S lo M2 C2 (prs lt nT) neg wr hAS hAA hAS.lo_le
   rw [hM2,upd_same] at hfr
   simp only at hfr
   rw [← hM2] at hfr
   have HFR:=Lib.hid hfr
   have HX:=Lib.hid hX
   clear hM2 hC2 hX hAA hAS hfr HA0
   go_wp2_with fail
   refine HFR.out.mono ?_
   rintro e1 w1 ⟨rfl,C3,hO3,hfar⟩
   have hou:Outer C2 C3:=Outer.of fun k hk=>hfar k (by omega) (by omega)
   have HO:=Lib.hid (And.intro hO3 hou)
   clear hO3 hou hfar hgB a4 hpnI hp hpn
   go_wp2_with fail
   obtain ⟨V1,hV1⟩:∃ v:Value,v=.string { data:=#[126] }:=⟨_,rfl⟩
   have HV1:=Lib.hid hV1
   clear hV1
   have hnNb:=HX.out.bN
   go_loopw [6] (fun i wr=>∃ t:Nat,t≤nN∧i=.int .i64 (t:Nat)∧OwnS w S lo M2 (updC C3 kN (fillL (C3 kN) t V1)) wr) (fun i _=>nN - (intOf i).toNat)
   case atStart=>exact ⟨0,by omega,rfl,by rw [fillL_zero,updC_self];exact HO.out.1⟩
   case round =>
    obtain ⟨t,ht,rfl,hX⟩:=hrel
    have hou:Outer C2 (updC C3 kN (fillL (C3 kN) t V1)):=HO.out.2.trans (Outer.of fun k hk=>updC_ne _ _ (fun e=>by rw [e] at hk;revert hk;decide))
    obtain ⟨hgB,a1,_,_,_⟩:=HX.out.cells hX hou.1
    by_cases htn:t < nN
    ·as_aux_lemma =>
     have hN:=HX.out.N
     have hlen:(C3 kN).length=nN:=by rw [HO.out.1.len kN,hN.2.2.2.1,hN.2.1,Nat.mul_one]
     obtain ⟨g,eg,_,hg,hfz,hcell⟩:=hX.at kN (by rw [hN.2.2.2.1];omega)
     have hlt:t < (updC C3 kN (fillL (C3 kN) t V1) kN).length:=by rw [updC_same,fillL_length _ _ _ (by omega),hlen];exact htn
     have g1:=hcell t (by rw [← hX.len kN];exact hlt)
     rw [List.getElem?_eq_getElem hlt] at g1
     generalize (updC C3 kN (fillL (C3 kN) t V1) kN)[t]=u at g1
     have eg':=hN.2.2.1.symm.trans eg
     have fz:=hfz t
     subst eg'
     have HY:=Lib.hid (And.intro hX (And.intro eg (show t < (C3 kN).length by omega)))
     have htI:(t:Int) < (nN:Int):=by omega
     clear hfz hcell hlt hX eg hN hlen hou
     go_wp2_with fail
     rw [← HV1.out]
     exact ⟨⟨t + 1,by omega,by go_num,HY.out.1.fill HY.out.2.1 HY.out.2.2⟩,by simp [intOf];omega⟩
    ·have htI:¬ (t:Int) < (nN:Int):=by omega
     rw [fillL_full _ _ _ (by have hN:=HX.out.N;rw [HO.out.1.len kN,hN.2.2.2.1,hN.2.1];omega),show t=nN by omega] at hX
     obtain ⟨C4,hC4⟩:∃ c,c=updC C3 kN (List.replicate nN V1):=⟨_,rfl⟩
     have hou:Outer C2 C4:=by rw [hC4];exact HO.out.2.trans (Outer.of fun k hk=>updC_ne _ _ (fun e=>by rw [e] at hk;revert hk;decide))
     have hN4:C4 kN=List.replicate nN V1:=by rw [hC4,updC_same]
     rw [← hC4] at hX
     have HO4:=Lib.hid (And.intro hX (And.intro hou hN4))
     clear hX hC4 hou hN4
     go_wp2_with fail
     go_loopw [7] (fun i wr=>∃ (p:Nat) (C':Key→List Value),p≤nV∧i=.int .i64 (p:Nat)∧FillC 4 kv lv (fun p=>Value.string (tagS p)) C4 C' p∧OwnS w S lo M2 C' wr) (fun i _=>nV - (intOf i).toNat)
     case atStart=>exact ⟨0,C4,by omega,rfl,FillC.zero _ _ _ _ _,HO4.out.1⟩
     case round =>
      obtain ⟨p,C',hp,rfl,hf,hO⟩:=hrel
      have hou:Outer C2 C':=HO4.out.2.1.trans (Outer.of fun k hk=>hf.far k (by omega))
      have hcl:=HX.out.cells hO hou.1
      have hgB:=hcl.1
      have a2:=hcl.2.2.1
      clear hcl
      by_cases hpn:p < nV
      ·as_aux_lemma =>
       obtain ⟨gV,eV,hgV,q1⟩:=HX.out.rowV hO hou.2.1 hpn
       have hv:=HX.out.v p hpn
       have hnb:=HX.out.bV.2 p hpn
       have hnn:=HX.out.bV.1
       obtain ⟨A1,hA1⟩:∃ A,A=(M2 (kv p)).A:=⟨_,rfl⟩
       obtain ⟨n1,hn1⟩:∃ n,n=lv p:=⟨_,rfl⟩
       obtain ⟨d1,hd1⟩:∃ A,A=(M2 (kv p)).c:=⟨_,rfl⟩
       obtain ⟨k1,hk1⟩:∃ k,k=kv p:=⟨_,rfl⟩
       rw [← hA1,← hn1,← hd1] at q1
       rw [← hn1] at hnb
       have hlen:(C' k1).length=n1:=by rw [hk1,hO.len,hv.2.2,hv.2.1,Nat.mul_one,hn1]
       have hcell2:∀ (y:World) (l:List Value),OwnS w S lo M2 (updC C' k1 l) y→gB < y.heap.size∧gV < y.heap.size∧y.cell? ⟨gB,2,none⟩=some (.slice AV nV cV)∧y.cell? ⟨gV,p,none⟩=some (.slice A1 n1 d1):=fun y l h=>by
        have ho2:Outer C2 (updC C' k1 l):=hou.trans (Outer.of fun k hk=>updC_ne _ _ (fun e=>by rw [e,hk1] at hk;revert hk;simp))
        have hcl:=HX.out.cells h ho2.1
        obtain ⟨g,eg,hg,r1⟩:=HX.out.rowV h ho2.2.1 hpn
        rw [eV] at eg
        injection eg with eg
        injection eg with eg
        subst eg
        rw [hA1,hn1,hd1]
        exact ⟨hcl.1,hg,hcl.2.2.1,r1⟩
       have hA1':(M2 k1).A=A1:=by rw [hk1,hA1]
       have hn1':(M2 k1).n=n1∧(M2 k1).s=1:=by rw [hk1,hn1];exact ⟨hv.2.2,hv.2.1⟩
       have hfn:∀ l,l=List.replicate n1 ((fun p=>Value.string (tagS p)) p)→FillC 4 kv lv (fun p=>Value.string (tagS p)) C4 (updC C' k1 l) (p + 1):=fun l hl=>by
        rw [hl,hk1,hn1];exact hf.next rfl fun r hr=>kni (by omega)
       have HB:=Lib.hid (And.intro hO (And.intro hcell2 (And.intro hA1' (And.intro hn1' (And.intro hlen hfn)))))
       have hpI:(p:Int) < (nV:Int):=by omega
       have hpb:(p:Int)≤1048576:=by omega
       obtain ⟨w2,rfl⟩:∃ y,y=wr:=⟨_,rfl⟩
       subst eV
       clear hO hcell2 hA1' hn1' hlen hfn hA1 hn1 hd1 hk1 hv hf hou
       go_wp2_with fail
       go_loopw [8] (fun i wr=>∃ t:Nat,t≤n1∧i=.int .i64 (t:Nat)∧OwnS w S lo M2 (updC C' k1 (fillL (C' k1) t ((fun p=>Value.string (tagS p)) p))) wr) (fun i _=>n1 - (intOf i).toNat)
       case atStart=>exact ⟨0,by omega,rfl,by rw [fillL_zero,updC_self];exact HB.out.1⟩
       case round =>
        clear a2 q1
        obtain ⟨t,ht,rfl,hX⟩:=hrel
        obtain ⟨hgx,hgvx,a2,q1⟩:=HB.out.2.1 _ _ hX
        by_cases htn:t < n1
        ·as_aux_lemma =>
         obtain ⟨g,eg,_,hg,hfz,hcell⟩:=hX.at k1 (by rw [HB.out.2.2.2.1.1];omega)
         have hlt:t < (updC C' k1 (fillL (C' k1) t ((fun p=>Value.string (tagS p)) p)) k1).length:=by rw [updC_same,fillL_length _ _ _ (by rw [HB.out.2.2.2.2.1];omega),HB.out.2.2.2.2.1];exact htn
         have g1:=hcell t (by rw [← hX.len k1];exact hlt)
         rw [List.getElem?_eq_getElem hlt] at g1
         generalize (updC C' k1 (fillL (C' k1) t ((fun p=>Value.string (tagS p)) p)) k1)[t]=u at g1
         have eg':=HB.out.2.2.1.symm.trans eg
         have fz:=hfz t
         subst eg'
         have HY:=Lib.hid (And.intro hX (And.intro eg (show t < (C' k1).length by rw [HB.out.2.2.2.2.1];exact htn)))
         have htI:(t:Int) < (n1:Int):=by omega
         clear hfz hcell hlt hX eg
         go_upto_region 17 with fail
         have a20:=a2
         have q10:=q1
         have hbw:Below wr.heap.size wr wr.drew:=below_refl_drewN _ _ 1
         have hszw:=hbw.size
         refine wp_region_held_drew (S:=fun w'=>w'.cell? ⟨gB,2,none⟩=some (.slice (some ⟨gV,0,none⟩) nV cV)∧w'.cell? ⟨gV,p,none⟩=some (.slice (some ⟨g,0,none⟩) n1 d1)) (by kernel_rfl) ?hS1 (fun hHeld=>?rest1)
         case hS1=>(first | exact ⟨a2,q1⟩ | assumption | go_keep)
         refine tk 0 rfl ?_
         try simp only [Act.put,sp]
         refine tk 1 rfl ?_
         try simp only [Act.put,sp]
         refine tk 2 rfl ?_
         try simp only [Act.put,sp]
         refine tk 3 rfl ?_
         try simp only [Act.put,sp]
         refine tk 4 rfl ?_
         try simp only [Act.put,sp]
         refine tk 5 rfl ?_
         try simp only [Act.put,sp]
         refine tk 6 rfl ?_
         try simp only [Act.put,sp]
         refine tk 7 rfl ?_
         try simp only [Act.put,sp]
         refine wpAnyH_ready (rs:=[8]) (by kernel_rfl) (by simp) (consL rfl (fun K hK=>?step10))
         (go_simp;(obtain ⟨y1,hy1⟩:∃ y,y=(wr.alloc (.cells #[.int .u8 (IntKind.u8.wrap (p:Nat))] 5)).drew:=⟨_,rfl⟩);(obtain ⟨gY,hgY⟩:∃ g,g=wr.heap.size:=⟨_,rfl⟩);(have hbw:Below wr.heap.size wr y1:=by rw [hy1];exact ((Below.refl _ _).alloc (Nat.le_refl _) _).trans (below_refl_drewN _ _ 1));(have hyr:RowC y1 gY 5 [.int .u8 (IntKind.u8.wrap (p:Nat))]:=by rw [hy1,hgY];exact heap_alloc_new _ _);(have v0:=hyr.cell 0);(rw [← hy1,← hgY]);(clear hy1 hgY hyr);(have hszw:=hbw.size);(have a2:=bc hbw a20 hgx);(have q1:=bc hbw q10 hgvx);(have g1:y1.cell? ⟨g,t,none⟩=some u:=bc hbw g1 hg);(have fz:y1.frozen? ⟨g,t,none⟩=false:=(World.frozen?_of_block (a:=⟨g,t,none⟩) (hbw.block g hg)).trans fz))
         refine hK.out _ _ ?hS10 (fun hHeld=>?rest10)
         case hS10=>(first | exact ⟨a2,q1⟩ | assumption | go_keep)
         clear hK K
         try simp only [Act.put,sp]
         refine wpAnyH_ready (rs:=[9]) (by kernel_rfl) (by simp) (consL rfl (fun K hK=>?step11))
         (go_simp;rw [conv_tag y1 gY p v0];go_simp)
         refine hK.out _ _ ?hS11 (fun hHeld=>?rest11)
         case hS11=>(first | exact ⟨a2,q1⟩ | assumption | go_keep)
         clear hK K
         try simp only [Act.put,sp]
         refine tk 10 rfl ?_
         try simp only [Act.put,sp]
         refine tk 11 rfl ?_
         try simp only [Act.put,sp]
         refine wpAnyH_ready (rs:=[12]) (by kernel_rfl) (by simp) (consL rfl (fun K hK=>?step14))
         (go_simp;(obtain ⟨y2,hy2⟩:∃ y,y=y1.setCell ⟨g,t,none⟩ (.string (tagS p)):=⟨_,rfl⟩);(have hOy:OwnS w S lo M2 (updC C' k1 (fillL (C' k1) (t + 1) (.string (tagS p)))) y2:=by rw [hy2];exact (HY.out.1.below hbw).fill HY.out.2.1 HY.out.2.2);(obtain ⟨_,_,a2,q1⟩:=HB.out.2.1 _ _ hOy);(have HOY:=Lib.hid hOy);(have e:y1.setCell ⟨g,t,none⟩ (.string ({ data:=#[126,126] } ++ { data:=#[UInt8.ofNat p] }))=y2:=hy2.symm);(rw [e]);(clear e hy2 hOy))
         refine hK.out _ _ ?hS14 (fun hHeld=>?rest14)
         case hS14=>(first | exact ⟨a2,q1⟩ | assumption | go_keep)
         clear hK K
         try simp only [Act.put,sp]
         refine wpAnyH_done (by kernel_rfl) ?_ _
         go_simp
         go_simp
         (try go_wp2_with fail)
         exact ⟨⟨t + 1,by omega,by go_num,HOY.out⟩,by simp [intOf];omega⟩
        ·as_aux_lemma =>
         have htI:¬ (t:Int) < (n1:Int):=by omega
         have HY:=Lib.hid (And.intro hX (HB.out.2.2.2.2.2 _ (show fillL (C' k1) t ((fun p=>Value.string (tagS p)) p)=_ by rw [fillL_full _ _ _ (by rw [HB.out.2.2.2.2.1];omega),show t=n1 by omega])))
         clear hX
         go_wp2_with fail
         exact ⟨⟨p + 1,_,by omega,by go_num,HY.out.2,HY.out.1⟩,by simp [intOf];omega⟩
      ·have hpI:¬ (p:Int) < (nV:Int):=by omega
       rw [show p=nV by omega] at hf
       have HO5:=Lib.hid (And.intro hO (And.intro hou hf))
       clear hO hou hf
       go_wp2_with fail
       obtain ⟨C5,hC5⟩:∃ c,c=C':=⟨_,rfl⟩
       subst hC5
       go_loopw [9] (fun i wr=>∃ (p:Nat) (C':Key→List Value),p≤nP∧i=.int .i64 (p:Nat)∧FillC 5 kp lp (fun p=>Value.int .i64 (-100 - (p:Int))) C5 C' p∧OwnS w S lo M2 C' wr) (fun i _=>nP - (intOf i).toNat)
       case atStart=>exact ⟨0,C5,by omega,rfl,FillC.zero _ _ _ _ _,HO5.out.1⟩
       case round =>
        obtain ⟨p,C',hp,rfl,hf,hO⟩:=hrel
        have hou:Outer C2 C':=HO5.out.2.1.trans (Outer.of fun k hk=>hf.far k (by omega))
        have hcl:=HX.out.cells hO hou.1
        have hgB:=hcl.1
        have a3:=hcl.2.2.2.1
        clear hcl
        by_cases hpn:p < nP
        ·as_aux_lemma =>
         obtain ⟨gV,eV,hgV,q1⟩:=HX.out.rowP hO hou.2.2.1 hpn
         have hv:=HX.out.p p hpn
         have hnb:=HX.out.bP.2 p hpn
         have hnn:=HX.out.bP.1
         obtain ⟨A1,hA1⟩:∃ A,A=(M2 (kp p)).A:=⟨_,rfl⟩
         obtain ⟨n1,hn1⟩:∃ n,n=lp p:=⟨_,rfl⟩
         obtain ⟨d1,hd1⟩:∃ A,A=(M2 (kp p)).c:=⟨_,rfl⟩
         obtain ⟨k1,hk1⟩:∃ k,k=kp p:=⟨_,rfl⟩
         rw [← hA1,← hn1,← hd1] at q1
         rw [← hn1] at hnb
         have hlen:(C' k1).length=n1:=by rw [hk1,hO.len,hv.2.2,hv.2.1,Nat.mul_one,hn1]
         have hcell2:∀ (y:World) (l:List Value),OwnS w S lo M2 (updC C' k1 l) y→gB < y.heap.size∧gV < y.heap.size∧y.cell? ⟨gB,3,none⟩=some (.slice AP nP cP)∧y.cell? ⟨gV,p,none⟩=some (.slice A1 n1 d1):=fun y l h=>by
          have ho2:Outer C2 (updC C' k1 l):=hou.trans (Outer.of fun k hk=>updC_ne _ _ (fun e=>by rw [e,hk1] at hk;revert hk;simp))
          have hcl:=HX.out.cells h ho2.1
          obtain ⟨g,eg,hg,r1⟩:=HX.out.rowP h ho2.2.2.1 hpn
          rw [eV] at eg
          injection eg with eg
          injection eg with eg
          subst eg
          rw [hA1,hn1,hd1]
          exact ⟨hcl.1,hg,hcl.2.2.2.1,r1⟩
         have hA1':(M2 k1).A=A1:=by rw [hk1,hA1]
         have hn1':(M2 k1).n=n1∧(M2 k1).s=1:=by rw [hk1,hn1];exact ⟨hv.2.2,hv.2.1⟩
         have hfn:∀ l,l=List.replicate n1 ((fun p=>Value.int .i64 (-100 - (p:Int))) p)→FillC 5 kp lp (fun p=>Value.int .i64 (-100 - (p:Int))) C5 (updC C' k1 l) (p + 1):=fun l hl=>by
          rw [hl,hk1,hn1];exact hf.next rfl fun r hr=>kni (by omega)
         have HB:=Lib.hid (And.intro hO (And.intro hcell2 (And.intro hA1' (And.intro hn1' (And.intro hlen hfn)))))
         have hpI:(p:Int) < (nP:Int):=by omega
         have hpb:(p:Int)≤1048576:=by omega
         obtain ⟨w2,rfl⟩:∃ y,y=wr:=⟨_,rfl⟩
         subst eV
         clear hO hcell2 hA1' hn1' hlen hfn hA1 hn1 hd1 hk1 hv hf hou
         go_wp2_with fail
         go_loopw [10] (fun i wr=>∃ t:Nat,t≤n1∧i=.int .i64 (t:Nat)∧OwnS w S lo M2 (updC C' k1 (fillL (C' k1) t ((fun p=>Value.int .i64 (-100 - (p:Int))) p))) wr) (fun i _=>n1 - (intOf i).toNat)
         case atStart=>exact ⟨0,by omega,rfl,by rw [fillL_zero,updC_self];exact HB.out.1⟩
         case round =>
          clear a3 q1
          obtain ⟨t,ht,rfl,hX⟩:=hrel
          obtain ⟨hgx,hgvx,a3,q1⟩:=HB.out.2.1 _ _ hX
          by_cases htn:t < n1
          ·as_aux_lemma =>
           obtain ⟨g,eg,_,hg,hfz,hcell⟩:=hX.at k1 (by rw [HB.out.2.2.2.1.1];omega)
           have hlt:t < (updC C' k1 (fillL (C' k1) t ((fun p=>Value.int .i64 (-100 - (p:Int))) p)) k1).length:=by rw [updC_same,fillL_length _ _ _ (by rw [HB.out.2.2.2.2.1];omega),HB.out.2.2.2.2.1];exact htn
           have g1:=hcell t (by rw [← hX.len k1];exact hlt)
           rw [List.getElem?_eq_getElem hlt] at g1
           generalize (updC C' k1 (fillL (C' k1) t ((fun p=>Value.int .i64 (-100 - (p:Int))) p)) k1)[t]=u at g1
           have eg':=HB.out.2.2.1.symm.trans eg
           have fz:=hfz t
           subst eg'
           have HY:=Lib.hid (And.intro hX (And.intro eg (show t < (C' k1).length by rw [HB.out.2.2.2.2.1];exact htn)))
           have htI:(t:Int) < (n1:Int):=by omega
           clear hfz hcell hlt hX eg
           have hwp:IntKind.i64.wrap (-100 - (p:Int))=-100 - (p:Int):=by rw [IntKind.wrap_i64];omega
           go_wp2_with fail
           exact ⟨⟨t + 1,by omega,by go_num,HY.out.1.fill HY.out.2.1 HY.out.2.2⟩,by simp [intOf];omega⟩
          ·as_aux_lemma =>
           have htI:¬ (t:Int) < (n1:Int):=by omega
           have HY:=Lib.hid (And.intro hX (HB.out.2.2.2.2.2 _ (show fillL (C' k1) t ((fun p=>Value.int .i64 (-100 - (p:Int))) p)=_ by rw [fillL_full _ _ _ (by rw [HB.out.2.2.2.2.1];omega),show t=n1 by omega])))
           clear hX
           go_wp2_with fail
           exact ⟨⟨p + 1,_,by omega,by go_num,HY.out.2,HY.out.1⟩,by simp [intOf];omega⟩
        ·have hpI:¬ (p:Int) < (nP:Int):=by omega
         rw [show p=nP by omega] at hf
         have HO6:=Lib.hid (And.intro hO (And.intro hou hf))
         clear hO hou hf
         go_wp2_with fail
         obtain ⟨C6,hC6⟩:∃ c,c=C':=⟨_,rfl⟩
         subst hC6
         go_loopw [11] (fun i wr=>∃ (p:Nat) (M':Key→Lst) (C':Key→List Value),p≤nT∧i=.int .i64 (p:Nat)∧TabsTo M2 M' C6 C' lt p 0∧OwnS w S lo M' C' wr) (fun i _=>nT - (intOf i).toNat)
         case atStart=>exact ⟨0,M2,C6,by omega,rfl,TabsTo.zero _ _ _,HO6.out.1⟩
         case round =>
          obtain ⟨p,M',C',hp,rfl,hf,hO⟩:=hrel
          have hou:Outer C2 C':=HO6.out.2.1.trans (Outer.of fun k hk=>hf.far k (by omega) (by omega))
          have hX':=HX.out.turn hf.m hou
          have hcl:=hX'.cells hO rfl
          have hgB:=hcl.1
          have a4:=hcl.2.2.2.2
          clear hcl
          by_cases hpn:p < nT
          ·as_aux_lemma =>
           obtain ⟨gV,eV,hgV,q1⟩:=hX'.rowT hO rfl hpn
           have hv:=HX.out.t p hpn
           have hnb:=HX.out.bT.2 p hpn
           have hnn:=HX.out.bT.1
           have hm1:M' (kt p)=M2 (kt p):=hf.m _ (by simp)
           obtain ⟨A1,hA1⟩:∃ A,A=(M2 (kt p)).A:=⟨_,rfl⟩
           obtain ⟨n1,hn1⟩:∃ n,n=lt p:=⟨_,rfl⟩
           obtain ⟨d1,hd1⟩:∃ A,A=(M2 (kt p)).c:=⟨_,rfl⟩
           rw [hm1,← hA1,← hn1,← hd1] at q1
           rw [← hn1] at hnb
           have hcell2:∀ (y:World) (M3:Key→Lst) (C3:Key→List Value) (t:Nat),TabsTo M2 M3 C6 C3 lt p t→OwnS w S lo M3 C3 y→gB < y.heap.size∧gV < y.heap.size∧y.cell? ⟨gB,4,none⟩=some (.slice AT nT cT)∧y.cell? ⟨gV,p,none⟩=some (.slice A1 n1 d1):=fun y M3 C3 t hf h=>by
            have hX3:=HX.out.turn hf.m (HO6.out.2.1.trans (Outer.of fun k hk=>hf.far k (by omega) (by omega)))
            have hcl:=hX3.cells h rfl
            obtain ⟨g,eg,hg,r1⟩:=hX3.rowT h rfl hpn
            rw [eV] at eg
            injection eg with eg
            injection eg with eg
            subst eg
            rw [hf.m _ (by simp)] at r1
            rw [hA1,hn1,hd1]
            exact ⟨hcl.1,hg,hcl.2.2.2.2,r1⟩
           have hA1':∀ (M3:Key→Lst) (C3:Key→List Value) (t:Nat),TabsTo M2 M3 C6 C3 lt p t→(M3 (kt p)).A=A1∧(M3 (kt p)).n=n1∧(M3 (kt p)).s=3∧(M3 (kt p)).e=36∧(M3 (kt p)).c=d1:=fun M3 C3 t hf=>by
            rw [hf.m _ (by simp),hA1,hn1,hd1]
            exact ⟨rfl,hv.2.2,hv.2.1,hv.1,rfl⟩
           have HB:=Lib.hid (And.intro hO (And.intro hcell2 (And.intro hA1' (And.intro hf hn1))))
           have hpI:(p:Int) < (nT:Int):=by omega
           have hpb:(p:Int)≤1048576:=by omega
           have x1:IntKind.i64.wrap ((p:Int) + 1)=(p:Int) + 1:=by rw [IntKind.wrap_i64];omega
           have x2:IntKind.u32.wrap ((p:Int) + 1)=(p:Int) + 1:=by simp only [IntKind.wrap_u32];omega
           obtain ⟨w2,rfl⟩:∃ y,y=wr:=⟨_,rfl⟩
           subst eV
           clear hO hcell2 hA1' hA1 hn1 hd1 hv hf hou hX' hm1
           go_wp2_with fail
           go_loopw [12] (fun i wr=>∃ (t:Nat) (M':Key→Lst) (C':Key→List Value),t≤n1∧i=.int .i64 (t:Nat)∧TabsTo M2 M' C6 C' lt p t∧OwnS w S lo M' C' wr) (fun i _=>n1 - (intOf i).toNat)
           case atStart=>exact ⟨0,M',C',by omega,rfl,HB.out.2.2.2.1,HB.out.1⟩
           case round =>
            clear a4 q1
            obtain ⟨t,M1,C1,ht,rfl,hf,hX⟩:=hrel
            obtain ⟨hgx,hgvx,a4,q1⟩:=HB.out.2.1 _ _ _ _ hf hX
            obtain ⟨m1,m2,m3,m4,m5⟩:=HB.out.2.2.1 _ _ _ hf
            by_cases htn:t < n1
            ·as_aux_lemma =>
             obtain ⟨g,eg,_,hg,_,_⟩:=hX.at (kt p) (by rw [m2];omega)
             have hcap:=hX.cap (kt p)
             rw [m2,m5] at hcap
             obtain ⟨cs,hR,hRl,_,_⟩:=(hX.fam.own (kt p)).row (g:=g) (Lst.block_at (l:=wth M1 C1 (kt p)) eg)
             have hRe:(wth M1 C1 (kt p)).e=36:=m4
             have hRl':cs.length=d1 * 3:=by rw [hRl];show (M1 (kt p)).c * (M1 (kt p)).s=_;rw [m3,m5]
             rw [hRe] at hR
             have hlen:(C1 (kt p)).length=n1 * 3:=by rw [hX.len,m2,m3]
             have eg':=m1.symm.trans eg
             subst eg'
             have hRa:RowC (wr.alloc (.cells #[.int .u32 ((p:Int) + 1)] 54)) g 36 cs:=hR.below' ((Below.refl _ _).alloc (Nat.le_refl _) _)
             have HY:=Lib.hid (And.intro hX (And.intro eg (And.intro hf (And.intro hlen (And.intro hRa (show t * 3 + 3≤cs.length by omega))))))
             have htI:(t:Int) < (n1:Int):=by omega
             clear hR hRl hRe hRl' hlen hX eg hf hRa m1 m2 m3 m4 m5 hcap
             go_wp2_with (first | (refine wpL_atBuild rfl ?_;refine wpL_build rfl 34 #[(1,.tmp 140)] rfl #[.bool false,.slice (some ⟨wr.heap.size,0,none⟩) 1 1] (by go_simp;kernel_rfl) ?_;refine Stay.out ?_) | fail)
             refine ⟨?_⟩
             go_wp2_with (first | (refine wpL_atBuild rfl ?_;refine wpL_build rfl 36 #[(0,.tmp 141)] rfl #[.bool false,.slice (some ⟨wr.heap.size,0,none⟩) 1 1,.slice none 0 0] (by go_simp;kernel_rfl) ?_;refine Stay.out ?_) | fail)
             refine ⟨?_⟩
             go_wp2_with (first | go_loud (refine wpL_store_row rfl 36 _ _ rfl g (t * 3) [.bool false,.slice (some ⟨wr.heap.size,0,none⟩) 1 1,.slice none 0 0] rfl rfl HY.out.2.2.2.2.1 HY.out.2.2.2.2.2 (by kernel_rfl) (by simp [Value.oneCell']) ?_) | fail)
             have hO5:=HY.out.1.new ((Below.refl _ _).alloc (Nat.le_refl _) _) (ks p t) (own_new wr 54 1 1 [.int .u32 ((p:Int) + 1)] rfl (by decide))
             have hO6:=hO5.put (kt p) (g:=g) (by rw [upd_ne _ _ (kne (by omega))];exact HY.out.2.1) (t * 3) [.bool false,.slice (some ⟨wr.heap.size,0,none⟩) 1 1,.slice none 0 0]
             rw [updC_ne _ _ (show kt p ≠ ks p t from kne (by omega))] at hO6
             exact ⟨⟨t + 1,_,_,by omega,by go_num,HY.out.2.2.1.next (by rw [HY.out.2.2.2.1];omega) _ _ rfl rfl,hO6⟩,by simp [intOf];omega⟩
            ·as_aux_lemma =>
             have htI:¬ (t:Int) < (n1:Int):=by omega
             have HY:=Lib.hid (And.intro hX (show TabsTo M2 M1 C6 C1 lt (p + 1) 0 by
              rw [show t=lt p by have:=HB.out.2.2.2.2;omega] at hf
              exact hf.down))
             clear hX hf m1 m2 m3 m4 m5
             go_wp2_with fail
             exact ⟨⟨p + 1,_,_,by omega,by go_num,HY.out.2,HY.out.1⟩,by simp [intOf];omega⟩
          ·have hpI:¬ (p:Int) < (nT:Int):=by omega
           rw [show p=nT by omega] at hf
           have b0:C' kN=List.replicate nN V1:=by rw [hf.far kN (by simp) (by simp),HO6.out.2.2.far kN (by simp),HO5.out.2.2.far kN (by simp)];exact HO4.out.2.2
           have b1:∀ r,r < nV→C' (kv r)=List.replicate (lv r) (.string (tagS r)):=fun r hr=>by rw [hf.far _ (by simp) (by simp),HO6.out.2.2.far _ (by simp)];exact HO5.out.2.2.row r hr
           have b2:∀ r,r < nP→C' (kp r)=List.replicate (lp r) (.int .i64 (-100 - (r:Int))):=fun r hr=>by rw [hf.far _ (by simp) (by simp)];exact HO6.out.2.2.row r hr
           have hb1:=HX.out.bV
           have hb2:=HX.out.bP
           have hb3:=HX.out.bT
           have HX:=Lib.hid hX'
           have hcl:=hX'.cells hO rfl
           have a1:=hcl.2.1
           have HB:=Lib.hid (And.intro hO (And.intro b0 (And.intro b1 (And.intro b2 hf.row))))
           clear hcl hX' hO hf b0 b1 b2 hou
           go_wp2_with fail
           have hN:=HX.out.N
           have HGN:=Lib.hid (show Gone w S lo M' C' kN AN nN cN wr by have h1:=HB.out.1.start kN;rw [hN.2.2.1,hN.2.2.2.1,hN.2.2.2.2] at h1;exact h1)
           go_loopw [14,13] (fun i s wr=>∃ (t:Nat) (A:Option Addr) (c:Nat),t≤20∧i=.int .i64 (t:Nat)∧s=.slice A (nN + t) c∧Gone w S lo M' C' kN A (nN + t) c wr) (fun i _ _=>20 - (intOf i).toNat)
           case atStart=>exact ⟨0,_,_,by omega,rfl,rfl,HGN.out⟩
           case round =>
            obtain ⟨t,A,c,ht,rfl,rfl,hG⟩:=hrel
            by_cases htn:t < 20
            ·as_aux_lemma =>
             have htI:(t:Int) < 20:=by omega
             have HG:=Lib.hid hG
             clear hG
             go_wp2_with (refine wpList_gone _ (HG.out.below ((Below.refl _ _).alloc (Nat.le_refl _) _)) eimStr hN.1 hN.2.1 (by rfl) (.tmp 150) (.tmp 151) (by rfl) (by rfl) ⟨wr.heap.size,0,none⟩ 1 1 [.string { data:=#[37] }] (by rfl) (by rfl) (newCells _ _ _) (by simp [Value.oneCell']) (by omega) (by have:=HG.out.1.lo_le;simp;omega) (by omega) ?_;intro A' c' w' hG')
             exact ⟨⟨t + 1,A',c',by omega,by go_num,rfl,hG'⟩,by simp [intOf];omega⟩
            ·have htI:¬ (t:Int) < 20:=by omega
             have hO7:=hG.1
             have hcl:=HX.out.cells hO7 rfl
             have a2:=hcl.2.2.1
             have HO7:=Lib.hid hO7
             clear hG ht htn hcl a1 hN HGN hO7
             go_wp2_with fail
             go_loopw [15] (fun i wr=>∃ p:Nat,p≤nV∧i=.int .i64 (p:Nat)∧OwnS w S lo M' C' wr) (fun i _=>nV - (intOf i).toNat)
             case atStart=>exact ⟨0,by omega,rfl,HO7.out⟩
             case round =>
              clear a2
              obtain ⟨p,hp,rfl,hO⟩:=hrel
              have hcl:=HX.out.cells hO rfl
              have hgB:=hcl.1
              have a2:=hcl.2.2.1
              clear hcl
              by_cases hpn:p < nV
              ·as_aux_lemma =>
               obtain ⟨gV,eV,hgV,q1⟩:=HX.out.rowV hO rfl hpn
               have hv:=HX.out.v p hpn
               have hnb:=hb1.2 p hpn
               have hnn:=hb1.1
               obtain ⟨A1,hA1⟩:∃ A,A=(M' (kv p)).A:=⟨_,rfl⟩
               obtain ⟨n1,hn1⟩:∃ n,n=lv p:=⟨_,rfl⟩
               obtain ⟨d1,hd1⟩:∃ A,A=(M' (kv p)).c:=⟨_,rfl⟩
               obtain ⟨k1,hk1⟩:∃ k,k=kv p:=⟨_,rfl⟩
               rw [← hA1,← hn1,← hd1] at q1
               rw [← hn1] at hnb
               have HG1:=Lib.hid (show Gone w S lo M' C' k1 A1 n1 d1 wr by have h1:=hO.start k1;rw [hk1,hv.2.2,← hA1,← hn1,← hd1,← hk1] at h1;exact h1)
               have hve:(M' k1).e=9∧(M' k1).s=1∧True:=by rw [hk1];exact ⟨hv.1,hv.2.1,trivial⟩
               have hpI:(p:Int) < (nV:Int):=by omega
               have hpb:(p:Int)≤1048576:=by omega
               subst eV
               clear hO hA1 hn1 hd1 hk1 hv
               go_wp2_with fail
               go_loopw [17,16] (fun i s wr=>∃ (t:Nat) (A:Option Addr) (c:Nat),t≤20∧i=.int .i64 (t:Nat)∧s=.slice A (n1 + t) c∧Gone w S lo M' C' k1 A (n1 + t) c wr) (fun i _ _=>20 - (intOf i).toNat)
               case atStart=>exact ⟨0,_,_,by omega,rfl,rfl,HG1.out⟩
               case round =>
                obtain ⟨t,A,c,ht,rfl,rfl,hG⟩:=hrel
                by_cases htn:t < 20
                ·as_aux_lemma =>
                 have htI:(t:Int) < 20:=by omega
                 have HG:=Lib.hid hG
                 clear hG
                 go_wp2_with (refine wpList_gone _ (HG.out.below ((Below.refl _ _).alloc (Nat.le_refl _) _)) eimStr hve.1 hve.2.1 (by rfl) (.tmp 169) (.tmp 170) (by rfl) (by rfl) ⟨wr.heap.size,0,none⟩ 1 1 [.string { data:=#[37] }] (by rfl) (by rfl) (newCells _ _ _) (by simp [Value.oneCell']) (by omega) (by have:=HG.out.1.lo_le;simp;omega) (by omega) ?_;intro A' c' w' hG')
                 exact ⟨⟨t + 1,A',c',by omega,by go_num,rfl,hG'⟩,by simp [intOf];omega⟩
                ·as_aux_lemma =>
                 have htI:¬ (t:Int) < 20:=by omega
                 have HY:=Lib.hid hG.1
                 clear hG
                 go_wp2_with fail
                 exact ⟨⟨p + 1,by omega,by go_num,HY.out⟩,by simp [intOf];omega⟩
              ·have hpI:¬ (p:Int) < (nV:Int):=by omega
               have hcl:=HX.out.cells hO rfl
               have a3:=hcl.2.2.2.1
               have HO8:=Lib.hid hO
               clear hO hcl hp hpn
               go_wp2_with fail
               clear a2
               go_loopw [18] (fun i wr=>∃ p:Nat,p≤nP∧i=.int .i64 (p:Nat)∧OwnS w S lo M' C' wr) (fun i _=>nP - (intOf i).toNat)
               case atStart=>exact ⟨0,by omega,rfl,HO8.out⟩
               case round =>
                clear a3
                obtain ⟨p,hp,rfl,hO⟩:=hrel
                have hcl:=HX.out.cells hO rfl
                have hgB:=hcl.1
                have a3:=hcl.2.2.2.1
                clear hcl
                by_cases hpn:p < nP
                ·as_aux_lemma =>
                 obtain ⟨gV,eV,hgV,q1⟩:=HX.out.rowP hO rfl hpn
                 have hv:=HX.out.p p hpn
                 have hnb:=hb2.2 p hpn
                 have hnn:=hb2.1
                 obtain ⟨A1,hA1⟩:∃ A,A=(M' (kp p)).A:=⟨_,rfl⟩
                 obtain ⟨n1,hn1⟩:∃ n,n=lp p:=⟨_,rfl⟩
                 obtain ⟨d1,hd1⟩:∃ A,A=(M' (kp p)).c:=⟨_,rfl⟩
                 obtain ⟨k1,hk1⟩:∃ k,k=kp p:=⟨_,rfl⟩
                 rw [← hA1,← hn1,← hd1] at q1
                 rw [← hn1] at hnb
                 have HG1:=Lib.hid (show Gone w S lo M' C' k1 A1 n1 d1 wr by have h1:=hO.start k1;rw [hk1,hv.2.2,← hA1,← hn1,← hd1,← hk1] at h1;exact h1)
                 have hve:(M' k1).e=3∧(M' k1).s=1∧True:=by rw [hk1];exact ⟨hv.1,hv.2.1,trivial⟩
                 have hpI:(p:Int) < (nP:Int):=by omega
                 have hpb:(p:Int)≤1048576:=by omega
                 subst eV
                 clear hO hA1 hn1 hd1 hk1 hv
                 go_wp2_with fail
                 go_loopw [20,19] (fun i s wr=>∃ (t:Nat) (A:Option Addr) (c:Nat),t≤20∧i=.int .i64 (t:Nat)∧s=.slice A (n1 + t) c∧Gone w S lo M' C' k1 A (n1 + t) c wr) (fun i _ _=>20 - (intOf i).toNat)
                 case atStart=>exact ⟨0,_,_,by omega,rfl,rfl,HG1.out⟩
                 case round =>
                  obtain ⟨t,A,c,ht,rfl,rfl,hG⟩:=hrel
                  by_cases htn:t < 20
                  ·as_aux_lemma =>
                   have htI:(t:Int) < 20:=by omega
                   have HG:=Lib.hid hG
                   clear hG
                   go_wp2_with (refine wpList_gone _ (HG.out.below ((Below.refl _ _).alloc (Nat.le_refl _) _)) eimInt hve.1 hve.2.1 (by rfl) (.tmp 188) (.tmp 189) (by rfl) (by rfl) ⟨wr.heap.size,0,none⟩ 1 1 [.int .i64 (-7)] (by rfl) (by rfl) (newCells _ _ _) (by simp [Value.oneCell']) (by omega) (by have:=HG.out.1.lo_le;simp;omega) (by omega) ?_;intro A' c' w' hG')
                   exact ⟨⟨t + 1,A',c',by omega,by go_num,rfl,hG'⟩,by simp [intOf];omega⟩
                  ·as_aux_lemma =>
                   have htI:¬ (t:Int) < 20:=by omega
                   have HY:=Lib.hid hG.1
                   clear hG
                   go_wp2_with fail
                   exact ⟨⟨p + 1,by omega,by go_num,HY.out⟩,by simp [intOf];omega⟩
                ·have hpI:¬ (p:Int) < (nP:Int):=by omega
                 have hcl:=HX.out.cells hO rfl
                 have a4:=hcl.2.2.2.2
                 have HO9:=Lib.hid hO
                 clear hO hcl hp hpn
                 go_wp2_with fail
                 clear a3
                 go_loopw [21] (fun i wr=>∃ p:Nat,p≤nT∧i=.int .i64 (p:Nat)∧OwnS w S lo M' C' wr) (fun i _=>nT - (intOf i).toNat)
                 case atStart=>exact ⟨0,by omega,rfl,HO9.out⟩
                 case round =>
                  clear a4
                  obtain ⟨p,hp,rfl,hO⟩:=hrel
                  have hcl:=HX.out.cells hO rfl
                  have hgB:=hcl.1
                  have a4:=hcl.2.2.2.2
                  clear hcl
                  by_cases hpn:p < nT
                  ·as_aux_lemma =>
                   obtain ⟨gV,eV,hgV,q1⟩:=HX.out.rowT hO rfl hpn
                   have hv:=HX.out.t p hpn
                   have hnb:=hb3.2 p hpn
                   have hnn:=hb3.1
                   obtain ⟨A1,hA1⟩:∃ A,A=(M' (kt p)).A:=⟨_,rfl⟩
                   obtain ⟨n1,hn1⟩:∃ n,n=lt p:=⟨_,rfl⟩
                   obtain ⟨d1,hd1⟩:∃ A,A=(M' (kt p)).c:=⟨_,rfl⟩
                   obtain ⟨k1,hk1⟩:∃ k,k=kt p:=⟨_,rfl⟩
                   rw [← hA1,← hn1,← hd1] at q1
                   rw [← hn1] at hnb
                   have HG1:=Lib.hid (show Gone w S lo M' C' k1 A1 n1 d1 wr by have h1:=hO.start k1;rw [hk1,hv.2.2,← hA1,← hn1,← hd1,← hk1] at h1;exact h1)
                   have hve:(M' k1).e=36∧(M' k1).s=3∧True:=by rw [hk1];exact ⟨hv.1,hv.2.1,trivial⟩
                   have hpI:(p:Int) < (nT:Int):=by omega
                   have hpb:(p:Int)≤1048576:=by omega
                   subst eV
                   clear hO hA1 hn1 hd1 hk1 hv
                   go_wp2_with fail
                   go_loopw [23,22] (fun i s wr=>∃ (t:Nat) (A:Option Addr) (c:Nat),t≤20∧i=.int .i64 (t:Nat)∧s=.slice A (n1 + t) c∧Gone w S lo M' C' k1 A (n1 + t) c wr) (fun i _ _=>20 - (intOf i).toNat)
                   case atStart=>exact ⟨0,_,_,by omega,rfl,rfl,HG1.out⟩
                   case round =>
                    obtain ⟨t,A,c,ht,rfl,rfl,hG⟩:=hrel
                    by_cases htn:t < 20
                    ·as_aux_lemma =>
                     have htI:(t:Int) < 20:=by omega
                     have HG:=Lib.hid hG
                     clear hG
                     go_wp2_with (first | (refine wpL_atBuild rfl ?_;refine wpL_build rfl 36 #[] rfl #[.bool false,.slice none 0 0,.slice none 0 0] (by go_simp;kernel_rfl) ?_;refine Stay.out ?_) | fail)
                     refine ⟨?_⟩
                     refine Great.wpList_buildSliceTo rfl 45 36 1 #[(0,.tmp 208)] rfl wr.heap.size rfl (some 209) rfl Tryz.underlying45 #[.bool false,.slice none 0 0,.slice none 0 0] (by go_simp;kernel_rfl) ?_
                     try simp only [Act.put,sp]
                     go_wp2_with (first | (at_builtin;go_loud (refine wpList_gone _ (HG.out.below ((Below.refl _ _).alloc (Nat.le_refl _) _)) eiRat hve.1 hve.2.1 (by rfl) (.tmp 207) (.tmp 209) (by rfl) (by rfl) ⟨wr.heap.size,0,none⟩ 1 1 [.bool false,.slice none 0 0,.slice none 0 0] (by rfl) (by rfl) (newCells _ _ _) (by simp [Value.oneCell']) (by omega) (by have:=HG.out.1.lo_le;simp;omega) (by omega) ?_)) | fail)
                     intro A' c' w' hG'
                     go_wp2_with fail
                     exact ⟨⟨t + 1,A',c',by omega,by go_num,rfl,hG'⟩,by simp [intOf];omega⟩
                    ·as_aux_lemma =>
                     have htI:¬ (t:Int) < 20:=by omega
                     have HY:=Lib.hid hG.1
                     clear hG
                     go_wp2_with fail
                     exact ⟨⟨p + 1,by omega,by go_num,HY.out⟩,by simp [intOf];omega⟩
                  ·have hpI:¬ (p:Int) < (nT:Int):=by omega
                   have hcl:=HX.out.cells hO rfl
                   have a1:=hcl.2.1
                   have HO10:=Lib.hid hO
                   clear hO hcl hp hpn
                   go_wp2_with fail
                   clear a4
                   have hbeq1:(({ data:=#[126] }:ByteArray) == { data:=#[126] })=true:=by simp
                   go_loopw [24] (fun i wr=>∃ t:Nat,t≤nN∧i=.int .i64 (t:Nat)∧OwnS w S lo M' C' wr) (fun i _=>nN - (intOf i).toNat)
                   case atStart=>exact ⟨0,by omega,rfl,HO10.out⟩
                   case round =>
                    clear a1
                    obtain ⟨t,ht,rfl,hX⟩:=hrel
                    have hcl:=HX.out.cells hX rfl
                    have hgB:=hcl.1
                    have a1:=hcl.2.1
                    clear hcl
                    by_cases htn:t < nN
                    ·as_aux_lemma =>
                     have hN:=HX.out.N
                     obtain ⟨g,eg,_,hg,_,hcell⟩:=hX.at kN (by rw [hN.2.2.2.1];omega)
                     have g1:=hcell t (by rw [hN.2.2.2.1,hN.2.1];omega)
                     rw [HB.out.2.1,List.getElem?_replicate,if_pos htn,HV1.out] at g1
                     have eg':=hN.2.2.1.symm.trans eg
                     subst eg'
                     have HY:=Lib.hid hX
                     have htI:(t:Int) < (nN:Int):=by omega
                     clear hcell hX eg hN
                     go_wp2_with fail
                     exact ⟨⟨t + 1,by omega,by go_num,HY.out⟩,by simp [intOf];omega⟩
                    ·have htI:¬ (t:Int) < (nN:Int):=by omega
                     have hcl:=HX.out.cells hX rfl
                     have a2:=hcl.2.2.1
                     have HO11:=Lib.hid hX
                     clear hX hcl hbeq1
                     go_wp2_with fail
                     clear a1
                     go_loopw [25] (fun i wr=>∃ p:Nat,p≤nV∧i=.int .i64 (p:Nat)∧OwnS w S lo M' C' wr) (fun i _=>nV - (intOf i).toNat)
                     case atStart=>exact ⟨0,by omega,rfl,HO11.out⟩
                     case round =>
                      clear a2
                      obtain ⟨p,hp,rfl,hO⟩:=hrel
                      have hcl:=HX.out.cells hO rfl
                      have hgB:=hcl.1
                      have a2:=hcl.2.2.1
                      clear hcl
                      by_cases hpn:p < nV
                      ·as_aux_lemma =>
                       obtain ⟨gV,eV,hgV,q1⟩:=HX.out.rowV hO rfl hpn
                       have hv:=HX.out.v p hpn
                       have hnb:=hb1.2 p hpn
                       have hnn:=hb1.1
                       have hm:M'=M':=rfl
                       obtain ⟨A1,hA1⟩:∃ A,A=(M' (kv p)).A:=⟨_,rfl⟩
                       obtain ⟨n1,hn1⟩:∃ n,n=lv p:=⟨_,rfl⟩
                       obtain ⟨d1,hd1⟩:∃ A,A=(M' (kv p)).c:=⟨_,rfl⟩
                       obtain ⟨k1,hk1⟩:∃ k,k=kv p:=⟨_,rfl⟩
                       rw [← hA1,← hn1,← hd1] at q1
                       rw [← hn1] at hnb
                       have hcell2:∀ (y:World),OwnS w S lo M' C' y→gB < y.heap.size∧gV < y.heap.size∧y.cell? ⟨gB,2,none⟩=some (.slice AV nV cV)∧y.cell? ⟨gV,p,none⟩=some (.slice A1 n1 d1):=fun y h=>by
                        have hcl:=HX.out.cells h rfl
                        obtain ⟨g,eg,hg,r1⟩:=HX.out.rowV h rfl hpn
                        rw [eV] at eg
                        injection eg with eg
                        injection eg with eg
                        subst eg
                        rw [hA1,hn1,hd1]
                        exact ⟨hcl.1,hg,hcl.2.2.1,r1⟩
                       have hA1':(M' k1).A=A1∧(M' k1).n=n1∧(M' k1).s=1:=by rw [hk1,hA1,hn1];exact ⟨rfl,hv.2.2,hv.2.1⟩
                       have hcon:=HB.out.2.2.1 p hpn
                       rw [← hn1] at hcon
                       have HC:=Lib.hid (And.intro hO (And.intro hcell2 (And.intro hA1' (And.intro hk1 hcon))))
                       have hpI:(p:Int) < (nV:Int):=by omega
                       have hpb:(p:Int)≤1048576:=by omega
                       have x1:IntKind.i64.wrap ((p:Int) + 1)=(p:Int) + 1:=by rw [IntKind.wrap_i64];omega
                       have x2:IntKind.u32.wrap ((p:Int) + 1)=(p:Int) + 1:=by simp only [IntKind.wrap_u32];omega
                       have hwp:IntKind.i64.wrap (-100 - (p:Int))=-100 - (p:Int):=by rw [IntKind.wrap_i64];omega
                       obtain ⟨w2,rfl⟩:∃ y,y=wr:=⟨_,rfl⟩
                       subst eV
                       clear hO hcell2 hA1 hA1' hn1 hd1 hv hk1 hcon hm
                       go_wp2_with fail
                       go_loopw [26] (fun i wr=>∃ t:Nat,t≤n1∧i=.int .i64 (t:Nat)∧OwnS w S lo M' C' wr) (fun i _=>n1 - (intOf i).toNat)
                       case atStart=>exact ⟨0,by omega,rfl,HC.out.1⟩
                       case round =>
                        clear a2 q1
                        obtain ⟨t,ht,rfl,hX⟩:=hrel
                        obtain ⟨hgx,hgvx,a2,q1⟩:=HC.out.2.1 _ hX
                        by_cases htn:t < n1
                        ·as_aux_lemma =>
                         obtain ⟨g,eg,_,hg,_,hcell⟩:=hX.at k1 (by rw [HC.out.2.2.1.2.1];omega)
                         rw [HC.out.2.2.1.2.1,HC.out.2.2.1.2.2] at hcell
                         have htI:(t:Int) < (n1:Int):=by omega
                         have eg':=HC.out.2.2.1.1.symm.trans eg
                         subst eg'
                         have g1:=hcell t (by omega)
                         rw [HC.out.2.2.2.1,HC.out.2.2.2.2,List.getElem?_replicate,if_pos htn] at g1
                         have g1:wr.cell? ⟨g,t,none⟩=some (.string ({ data:=#[126,126] } ++ { data:=#[UInt8.ofNat p] })):=g1
                         have hbeq:((({ data:=#[126,126] }:ByteArray) ++ { data:=#[UInt8.ofNat p] }) == ({ data:=#[126,126] } ++ { data:=#[UInt8.ofNat p] }))=true:=by simp
                         have HY:=Lib.hid hX
                         clear hcell hX eg
                         go_upto_region 72 with fail
                         have a20:=a2
                         have q10:=q1
                         have g10:=g1
                         have hbw:Below wr.heap.size wr wr.drew:=below_refl_drewN _ _ 1
                         have hszw:=hbw.size
                         refine wp_region_held_drew (S:=fun w'=>w'.cell? ⟨gB,2,none⟩=some (.slice (some ⟨gV,0,none⟩) nV cV)∧w'.cell? ⟨gV,p,none⟩=some (.slice (some ⟨g,0,none⟩) n1 d1)∧w'.cell? ⟨g,t,none⟩=some (.string ({ data:=#[126,126] } ++ { data:=#[UInt8.ofNat p] }))) (by kernel_rfl) ?hS15 (fun hHeld=>?rest15)
                         case hS15=>(first | exact ⟨a2,q1,g1⟩ | assumption | go_keep)
                         refine tk 0 rfl ?_
                         try simp only [Act.put,sp]
                         refine tk 1 rfl ?_
                         try simp only [Act.put,sp]
                         refine tk 2 rfl ?_
                         try simp only [Act.put,sp]
                         refine tk 3 rfl ?_
                         try simp only [Act.put,sp]
                         refine tk 4 rfl ?_
                         try simp only [Act.put,sp]
                         refine tk 5 rfl ?_
                         try simp only [Act.put,sp]
                         refine tk 6 rfl ?_
                         try simp only [Act.put,sp]
                         refine tk 7 rfl ?_
                         try simp only [Act.put,sp]
                         refine tk 8 rfl ?_
                         try simp only [Act.put,sp]
                         refine tk 9 rfl ?_
                         try simp only [Act.put,sp]
                         refine wpAnyH_ready (rs:=[10]) (by kernel_rfl) (by simp) (consL rfl (fun K hK=>?step26))
                         (go_simp;(obtain ⟨y1,hy1⟩:∃ y,y=(wr.alloc (.cells #[.int .u8 (IntKind.u8.wrap (p:Nat))] 5)).drew:=⟨_,rfl⟩);(obtain ⟨gY,hgY⟩:∃ g,g=wr.heap.size:=⟨_,rfl⟩);(have hbw:Below wr.heap.size wr y1:=by rw [hy1];exact ((Below.refl _ _).alloc (Nat.le_refl _) _).trans (below_refl_drewN _ _ 1));(have hyr:RowC y1 gY 5 [.int .u8 (IntKind.u8.wrap (p:Nat))]:=by rw [hy1,hgY];exact heap_alloc_new _ _);(have v0:=hyr.cell 0);(rw [← hy1,← hgY]);(clear hy1 hgY hyr);(have hszw:=hbw.size);(have a2:=bc hbw a20 hgx);(have q1:=bc hbw q10 hgvx);(have g1:=bc hbw g10 hg))
                         refine hK.out _ _ ?hS26 (fun hHeld=>?rest26)
                         case hS26=>(first | exact ⟨a2,q1,g1⟩ | assumption | go_keep)
                         clear hK K
                         try simp only [Act.put,sp]
                         refine wpAnyH_ready (rs:=[11]) (by kernel_rfl) (by simp) (consL rfl (fun K hK=>?step27))
                         (go_simp;rw [conv_tag y1 gY p v0];go_simp)
                         refine hK.out _ _ ?hS27 (fun hHeld=>?rest27)
                         case hS27=>(first | exact ⟨a2,q1,g1⟩ | assumption | go_keep)
                         clear hK K
                         try simp only [Act.put,sp]
                         refine tk 12 rfl ?_
                         try simp only [Act.put,sp]
                         refine tk 13 rfl ?_
                         try simp only [Act.put,sp]
                         refine wpAnyH_done (by kernel_rfl) ?_ _
                         go_simp
                         go_simp
                         (try go_wp2_with fail)
                         exact ⟨⟨t + 1,by omega,by go_num,HY.out.below hbw⟩,by simp [intOf];omega⟩
                        ·as_aux_lemma =>
                         have htI:¬ (t:Int) < (n1:Int):=by omega
                         have HY:=Lib.hid hX
                         clear hX
                         go_wp2_with fail
                         exact ⟨⟨p + 1,by omega,by go_num,HY.out⟩,by simp [intOf];omega⟩
                      ·have hpI:¬ (p:Int) < (nV:Int):=by omega
                       have hcl:=HX.out.cells hO rfl
                       have a3:=hcl.2.2.2.1
                       have HO12:=Lib.hid hO
                       clear hO hcl hp hpn
                       go_wp2_with fail
                       clear a2
                       go_loopw [27] (fun i wr=>∃ p:Nat,p≤nP∧i=.int .i64 (p:Nat)∧OwnS w S lo M' C' wr) (fun i _=>nP - (intOf i).toNat)
                       case atStart=>exact ⟨0,by omega,rfl,HO12.out⟩
                       case round =>
                        clear a3
                        obtain ⟨p,hp,rfl,hO⟩:=hrel
                        have hcl:=HX.out.cells hO rfl
                        have hgB:=hcl.1
                        have a3:=hcl.2.2.2.1
                        clear hcl
                        by_cases hpn:p < nP
                        ·as_aux_lemma =>
                         obtain ⟨gV,eV,hgV,q1⟩:=HX.out.rowP hO rfl hpn
                         have hv:=HX.out.p p hpn
                         have hnb:=hb2.2 p hpn
                         have hnn:=hb2.1
                         have hm:M'=M':=rfl
                         obtain ⟨A1,hA1⟩:∃ A,A=(M' (kp p)).A:=⟨_,rfl⟩
                         obtain ⟨n1,hn1⟩:∃ n,n=lp p:=⟨_,rfl⟩
                         obtain ⟨d1,hd1⟩:∃ A,A=(M' (kp p)).c:=⟨_,rfl⟩
                         obtain ⟨k1,hk1⟩:∃ k,k=kp p:=⟨_,rfl⟩
                         rw [← hA1,← hn1,← hd1] at q1
                         rw [← hn1] at hnb
                         have hcell2:∀ (y:World),OwnS w S lo M' C' y→gB < y.heap.size∧gV < y.heap.size∧y.cell? ⟨gB,3,none⟩=some (.slice AP nP cP)∧y.cell? ⟨gV,p,none⟩=some (.slice A1 n1 d1):=fun y h=>by
                          have hcl:=HX.out.cells h rfl
                          obtain ⟨g,eg,hg,r1⟩:=HX.out.rowP h rfl hpn
                          rw [eV] at eg
                          injection eg with eg
                          injection eg with eg
                          subst eg
                          rw [hA1,hn1,hd1]
                          exact ⟨hcl.1,hg,hcl.2.2.2.1,r1⟩
                         have hA1':(M' k1).A=A1∧(M' k1).n=n1∧(M' k1).s=1:=by rw [hk1,hA1,hn1];exact ⟨rfl,hv.2.2,hv.2.1⟩
                         have hcon:=HB.out.2.2.2.1 p hpn
                         rw [← hn1] at hcon
                         have HC:=Lib.hid (And.intro hO (And.intro hcell2 (And.intro hA1' (And.intro hk1 hcon))))
                         have hpI:(p:Int) < (nP:Int):=by omega
                         have hpb:(p:Int)≤1048576:=by omega
                         have x1:IntKind.i64.wrap ((p:Int) + 1)=(p:Int) + 1:=by rw [IntKind.wrap_i64];omega
                         have x2:IntKind.u32.wrap ((p:Int) + 1)=(p:Int) + 1:=by simp only [IntKind.wrap_u32];omega
                         have hwp:IntKind.i64.wrap (-100 - (p:Int))=-100 - (p:Int):=by rw [IntKind.wrap_i64];omega
                         obtain ⟨w2,rfl⟩:∃ y,y=wr:=⟨_,rfl⟩
                         subst eV
                         clear hO hcell2 hA1 hA1' hn1 hd1 hv hk1 hcon hm
                         go_wp2_with fail
                         go_loopw [28] (fun i wr=>∃ t:Nat,t≤n1∧i=.int .i64 (t:Nat)∧OwnS w S lo M' C' wr) (fun i _=>n1 - (intOf i).toNat)
                         case atStart=>exact ⟨0,by omega,rfl,HC.out.1⟩
                         case round =>
                          clear a3 q1
                          obtain ⟨t,ht,rfl,hX⟩:=hrel
                          obtain ⟨hgx,hgvx,a3,q1⟩:=HC.out.2.1 _ hX
                          by_cases htn:t < n1
                          ·as_aux_lemma =>
                           obtain ⟨g,eg,_,hg,_,hcell⟩:=hX.at k1 (by rw [HC.out.2.2.1.2.1];omega)
                           rw [HC.out.2.2.1.2.1,HC.out.2.2.1.2.2] at hcell
                           have htI:(t:Int) < (n1:Int):=by omega
                           have eg':=HC.out.2.2.1.1.symm.trans eg
                           subst eg'
                           have g1:=hcell t (by omega)
                           rw [HC.out.2.2.2.1,HC.out.2.2.2.2,List.getElem?_replicate,if_pos htn] at g1
                           have HY:=Lib.hid hX
                           clear hcell hX eg
                           go_wp2_with fail
                           exact ⟨⟨t + 1,by omega,by go_num,HY.out⟩,by simp [intOf];omega⟩
                          ·as_aux_lemma =>
                           have htI:¬ (t:Int) < (n1:Int):=by omega
                           have HY:=Lib.hid hX
                           clear hX
                           go_wp2_with fail
                           exact ⟨⟨p + 1,by omega,by go_num,HY.out⟩,by simp [intOf];omega⟩
                        ·have hpI:¬ (p:Int) < (nP:Int):=by omega
                         have hcl:=HX.out.cells hO rfl
                         have a4:=hcl.2.2.2.2
                         have HO13:=Lib.hid hO
                         clear hO hcl hp hpn
                         go_wp2_with fail
                         clear a3
                         go_loopw [29] (fun i wr=>∃ p:Nat,p≤nT∧i=.int .i64 (p:Nat)∧OwnS w S lo M' C' wr) (fun i _=>nT - (intOf i).toNat)
                         case atStart=>exact ⟨0,by omega,rfl,HO13.out⟩
                         case round =>
                          clear a4
                          obtain ⟨p,hp,rfl,hO⟩:=hrel
                          have hcl:=HX.out.cells hO rfl
                          have hgB:=hcl.1
                          have a4:=hcl.2.2.2.2
                          clear hcl
                          by_cases hpn:p < nT
                          ·as_aux_lemma =>
                           obtain ⟨gV,eV,hgV,q1⟩:=HX.out.rowT hO rfl hpn
                           have hv:=HX.out.t p hpn
                           have hnb:=hb3.2 p hpn
                           have hnn:=hb3.1
                           have hm:M'=M':=rfl
                           obtain ⟨A1,hA1⟩:∃ A,A=(M' (kt p)).A:=⟨_,rfl⟩
                           obtain ⟨n1,hn1⟩:∃ n,n=lt p:=⟨_,rfl⟩
                           obtain ⟨d1,hd1⟩:∃ A,A=(M' (kt p)).c:=⟨_,rfl⟩
                           obtain ⟨k1,hk1⟩:∃ k,k=kt p:=⟨_,rfl⟩
                           rw [← hA1,← hn1,← hd1] at q1
                           rw [← hn1] at hnb
                           have hcell2:∀ (y:World),OwnS w S lo M' C' y→gB < y.heap.size∧gV < y.heap.size∧y.cell? ⟨gB,4,none⟩=some (.slice AT nT cT)∧y.cell? ⟨gV,p,none⟩=some (.slice A1 n1 d1):=fun y h=>by
                            have hcl:=HX.out.cells h rfl
                            obtain ⟨g,eg,hg,r1⟩:=HX.out.rowT h rfl hpn
                            rw [eV] at eg
                            injection eg with eg
                            injection eg with eg
                            subst eg
                            rw [hA1,hn1,hd1]
                            exact ⟨hcl.1,hg,hcl.2.2.2.2,r1⟩
                           have hA1':(M' k1).A=A1∧(M' k1).n=n1∧(M' k1).s=3:=by rw [hk1,hA1,hn1];exact ⟨rfl,hv.2.2,hv.2.1⟩
                           have hcon:=HB.out.2.2.2.2 p hpn
                           rw [← hn1] at hcon
                           have HC:=Lib.hid (And.intro hO (And.intro hcell2 (And.intro hA1' (And.intro hk1 hcon))))
                           have hpI:(p:Int) < (nT:Int):=by omega
                           have hpb:(p:Int)≤1048576:=by omega
                           have x1:IntKind.i64.wrap ((p:Int) + 1)=(p:Int) + 1:=by rw [IntKind.wrap_i64];omega
                           have x2:IntKind.u32.wrap ((p:Int) + 1)=(p:Int) + 1:=by simp only [IntKind.wrap_u32];omega
                           have hwp:IntKind.i64.wrap (-100 - (p:Int))=-100 - (p:Int):=by rw [IntKind.wrap_i64];omega
                           obtain ⟨w2,rfl⟩:∃ y,y=wr:=⟨_,rfl⟩
                           subst eV
                           clear hO hcell2 hA1 hA1' hn1 hd1 hv hk1 hcon hm
                           go_wp2_with fail
                           go_loopw [30] (fun i wr=>∃ t:Nat,t≤n1∧i=.int .i64 (t:Nat)∧OwnS w S lo M' C' wr) (fun i _=>n1 - (intOf i).toNat)
                           case atStart=>exact ⟨0,by omega,rfl,HC.out.1⟩
                           case round =>
                            clear a4 q1
                            obtain ⟨t,ht,rfl,hX⟩:=hrel
                            obtain ⟨hgx,hgvx,a4,q1⟩:=HC.out.2.1 _ hX
                            by_cases htn:t < n1
                            ·as_aux_lemma =>
                             obtain ⟨g,eg,_,hg,_,hcell⟩:=hX.at k1 (by rw [HC.out.2.2.1.2.1];omega)
                             rw [HC.out.2.2.1.2.1,HC.out.2.2.1.2.2] at hcell
                             have htI:(t:Int) < (n1:Int):=by omega
                             have eg':=HC.out.2.2.1.1.symm.trans eg
                             subst eg'
                             obtain ⟨h0,h1,h2⟩:=HC.out.2.2.2.2.hd t htn
                             obtain ⟨o1,o2,o3⟩:=HC.out.2.2.2.2.one t htn
                             have g0:wr.cell? ⟨g,t * 3,none⟩=some (.bool false):=by rw [hcell _ (by omega),HC.out.2.2.2.1];exact h0
                             have g1:wr.cell? ⟨g,t * 3 + 1,none⟩=some (.slice (M' (ks p t)).A 1 (M' (ks p t)).c):=by rw [hcell _ (by omega),HC.out.2.2.2.1];exact h1
                             have g2:wr.cell? ⟨g,t * 3 + 2,none⟩=some (.slice none 0 0):=by rw [hcell _ (by omega),HC.out.2.2.2.1];exact h2
                             obtain ⟨gs,es,_,hgs,_,hcs⟩:=hX.at (ks p t) (by omega)
                             have s0:=hcs 0 (by rw [o1,o2];omega)
                             rw [o3] at s0
                             have s0:wr.cell? ⟨gs,0,none⟩=some (.int .u32 ((p:Int) + 1)):=s0
                             rw [es] at g1
                             obtain ⟨cs1,hcs1⟩:∃ x,x=(M' (ks p t)).c:=⟨_,rfl⟩
                             rw [← hcs1] at g1
                             have HY:=Lib.hid hX
                             clear hcell hX eg hcs h0 h1 h2 o1 o2 o3 es hcs1
                             go_upto_region 89 with fail
                             obtain ⟨y1,hy1⟩:∃ y,y=wr.alloc (.cells #[.bool false,.slice (some ⟨gs,0,none⟩) 1 cs1,.slice none 0 0] 36):=⟨_,rfl⟩
                             rw [← hy1]
                             have hbt:RowC y1 wr.heap.size 36 [.bool false,.slice (some ⟨gs,0,none⟩) 1 cs1,.slice none 0 0]:=by rw [hy1];exact heap_alloc_new _ _
                             have hb01:Below wr.heap.size wr y1:=by rw [hy1];exact (Below.refl _ _).alloc (Nat.le_refl _) _
                             clear hy1
                             have t1:=hbt.cell 1
                             have s0:=bc hb01 s0 hgs
                             have HB1:=Lib.hid hb01
                             clear hbt hb01
                             go_wp2_with fail
                             exact ⟨⟨t + 1,by omega,by go_num,HY.out.below HB1.out⟩,by simp [intOf];omega⟩
                            ·as_aux_lemma =>
                             have htI:¬ (t:Int) < (n1:Int):=by omega
                             have HY:=Lib.hid hX
                             clear hX
                             go_wp2_with fail
                             exact ⟨⟨p + 1,by omega,by go_num,HY.out⟩,by simp [intOf];omega⟩
                          ·as_aux_lemma =>
                           have hpI:¬ (p:Int) < (nT:Int):=by omega
                           have HO14:=Lib.hid hO
                           clear hO
                           go_wp2_with fail
                           go_ret
                           exact ⟨rfl,HO14.out.turn⟩
end Go.Proofs.YtmncjibcoffmfaaGreat
