/- credenceref20.Stands, texts, Limbs; credencelaw29.many, walked, where what was lent is as it was. Conditions: all reads, within Go's bound. -/
import Derived.Test.YtmncjibcoffmfaaGreatJ20
set_option linter.unusedVariables false
set_option linter.unusedSimpArgs false
namespace Go.Proofs.YtmncjibcoffmfaaGreat
open Go.RowKit

theorem marks_at {w:World} {base n c a b:Nat} {A:Option Addr} {l:List Nat} (h:OwnR eU w base 54 A (n + 2) c (l ++ [a,b])) (hl:n=l.length) (hb:n≤1000000000) :
 ∃ g,A=some ⟨g,0,none⟩∧g < w.heap.size∧base≤g∧w.cell? ⟨g,n,none⟩=some (.int .u32 (a:Nat))∧w.cell? ⟨g,n + 1,none⟩=some (.int .u32 (b:Nat))∧n + 2≤c:=by
 have hs:=h.sl (by omega)
 have hc:=h.cap
 rcases h.2 with ⟨h1,h2⟩ | ⟨g,cap,cur,h1,h2,h3,_⟩
 ·omega
 ·injection h1 with h1
  subst h1
  obtain ⟨b',off,e,hlt,hcell⟩:=hs.at' (by omega)
  injection e with e
  injection e with e1 e2
  subst e1 e2
  have c0:=hcell n (by omega)
  have c1:=hcell (n + 1) (by omega)
  rw [Nat.zero_add] at c0 c1
  refine ⟨g,rfl,hlt,h2,c0.trans ?_,c1.trans ?_,hc⟩
  ·unfold eU nth List.getD
   rw [List.getElem?_append_right (by omega),hl,Nat.sub_self]
   rfl
  ·unfold eU nth List.getD
   rw [List.getElem?_append_right (by omega),hl,show l.length + 1 - l.length=1 by omega]
   rfl
set_option maxRecDepth 100000 in
set_option maxHeartbeats 2000000 in
theorem stands_any (ha hb:RH) (r:RawR) (base:Nat) (w:World) (x:LentR w base ha r) (y:RawAt w hb r) :
 Calls Tryz.prog 11 #[ha.val,hb.val] w fun e w'=>e=.returned (.bool true)∧Below w.heap.size w w':=by
 have hraw:=x.raw
 obtain ⟨s,A,n,c,D,k,e⟩:=ha
 obtain ⟨s',B,n',c',E,k',e'⟩:=hb
 obtain rfl:s=s':=hraw.neg.trans y.neg.symm
 obtain rfl:n=n':=hraw.num.len.symm.trans y.num.len
 obtain rfl:k=k':=hraw.den.len.symm.trans y.den.len
 have H1:=(((Held.init w).and (Q:=fun w=>LentR w base ⟨s,A,n,c,D,k,e⟩ r∧RawAt w ⟨s,A,n,c,D,k,e⟩ r) ⟨x,hraw⟩).and (Q:=fun w=>RawAt w ⟨s,B,n,c',E,k,e'⟩ r) y)
 have hst:∀ w',Below w.heap.size w w'→LentR w' base ⟨s,A,n,c,D,k,e⟩ r∧RawAt w' ⟨s,A,n,c,D,k,e⟩ r∧RawAt w' ⟨s,B,n,c',E,k,e'⟩ r:=fun w' h=>⟨x.below (Nat.le_refl _) h,hraw.below (Nat.le_refl _) h,y.below (Nat.le_refl _) h⟩
 have HS:=Lib.hid hst
 have hn:=x.n
 have hk:=x.k
 have hnb:=x.nb
 have hkb:=x.db
 simp only at hn hk hnb hkb
 have HNK:=Lib.hid (And.intro hn hk)
 clear hst H1 x hraw y hn hk
 have H1:=(Held.init w).new 36 [.bool s,.slice A n c,.slice D k e]
 have H2:=H1.new 36 [.bool s,.slice B n c',.slice E k e']
 rw [show (w.alloc (.cells [.bool s,.slice A n c,.slice D k e].toArray 36)).heap.size=w.heap.size + 1 from by simp] at H2
 unfold RH.val
 clear H1
 obtain ⟨wq,hwq⟩:∃ wq:World,wq=(w.alloc (.cells #[.bool s,.slice A n c,.slice D k e] 36)).alloc (.cells #[.bool s,.slice B n c',.slice E k e'] 36):=⟨_,rfl⟩
 rw [← hwq] at H2
 have r0:=H2.has.2.1.cell 0
 have r1:=H2.has.2.1.cell 1
 have r2:=H2.has.2.1.cell 2
 have s0:=H2.has.1.cell 0
 have s1:=H2.has.1.cell 1
 have s2:=H2.has.1.cell 2
 have HH:=Lib.hid H2
 clear H2
 go_enter Tryz.func11,Tryz.ntmps11
 go_upto_region 1 with fail
 rw [← hwq]
 clear hwq
 go_wp2_with fail
 have hq:=HS.out wq HH.out.bel
 refine (same_any ⟨s,A,n,c,D,k,e⟩ ⟨s,B,n,c',E,k,e'⟩ r _ hq.2.1 hq.2.2).mono ?_
 rintro e1 w1 ⟨rfl,hb1⟩
 have H3:=HH.out.step hb1
 have hx:=(HS.out w1 H3.bel).1
 obtain ⟨gA,eA,_,_,m0,m1,hcA⟩:=marks_at hx.num HNK.out.1 hnb
 obtain ⟨gD,eD,_,_,m2,m3,hcD⟩:=marks_at hx.den HNK.out.2 hkb
 simp only at eA eD m0 m1 m2 m3 hcA hcD
 subst eA eD
 have r0:=H3.has.2.1.cell 0
 have r1:=H3.has.2.1.cell 1
 have r2:=H3.has.2.1.cell 2
 have s0:=H3.has.1.cell 0
 have s1:=H3.has.1.cell 1
 have s2:=H3.has.1.cell 2
 have HB:=Lib.hid H3.bel
 have i1:¬ (c:Int) < (n:Int) + 2:=by omega
 have i2:¬ (e:Int) < (k:Int) + 2:=by omega
 have i3:(n:Int) + 2≤(c:Int):=by omega
 have i4:(k:Int) + 2≤(e:Int):=by omega
 have j1:(n:Int) + 2 - 2=(n:Int):=by omega
 have j2:(n:Int) + 2 - 1=((n + 1:Nat):Int):=by omega
 have j3:(k:Int) + 2 - 2=(k:Int):=by omega
 have j4:(k:Int) + 2 - 1=((k + 1:Nat):Int):=by omega
 clear H3 hx hb1 hq
 go_wp2_with fail
 go_ret
 exact ⟨rfl,HB.out⟩
set_option maxRecDepth 100000 in
set_option maxHeartbeats 2000000 in
theorem limbs_net (N:NetV) (A1 A2 A3 A4:Option Addr) (c1 c2 c3 c4:Nat) (w:World) (h:NetAt w N A1 A2 A3 A4 c1 c2 c3 c4) (hB:NetB N) :
 Calls Tryz.prog 14 #[.agg (netC N A1 A2 A3 A4 c1 c2 c3 c4).toArray] w fun e w'=>(∃ z:Int,e=.returned (.int .i64 z))∧Below w.heap.size w w':=by
 have H:=(Held.init w).new 27 (netC N A1 A2 A3 A4 c1 c2 c3 c4)
 unfold netC at H ⊢
 obtain ⟨wq,hwq⟩:∃ wq:World,wq=w.alloc (.cells #[.string N.name,.slice A1 N.names.length c1,.slice A2 N.values.length c2,.slice A3 N.parents.length c3,.slice A4 N.tables.length c4] 27):=⟨_,rfl⟩
 rw [← hwq] at H
 have HX:NetBox w wq N A1 A2 A3 A4 c1 c2 c3 c4:=⟨H.has.1,h.below (Nat.le_refl _) H.bel,H.bel⟩
 have r4:=HX.cells.2.2.2.2
 have hK:=HX.net.n4.big
 have HB:=Lib.hid (And.intro hB HX)
 generalize hk:N.tables.length=K at *
 have HK:=Lib.hid hk
 clear h hB H HX hk
 go_enter Tryz.func14,Tryz.ntmps14
 go_upto_region 1 with fail
 rw [← hwq]
 clear hwq
 go_wp2_with fail
 go_loopw [4,3] (fun i s wr=>∃ k z p:Nat,k≤K∧z≤30000000∧i=.int .i64 (k:Nat)∧s=.int .i64 (z:Nat)∧wr=wq.drewN p) (fun i _ _=>K - (intOf i).toNat)
 case atStart=>exact ⟨0,0,0,by omega,by omega,rfl,rfl,rfl⟩
 case round =>
  obtain ⟨k,z,p,hk,hz,rfl,rfl,hwr⟩:=hrel
  have HYr:=HB.out.2.step (below_refl_drewN _ wq p)
  rw [← hwr] at HYr
  have r4':=HYr.cells.2.2.2.2
  rw [HK.out] at r4'
  by_cases hkn:k < K
  ·obtain ⟨b4,o4,B4,m4,d4,rfl,hb4,g4,hrow4,_⟩:=HYr.net.n4.row (i:=k) (by rw [HK.out];exact hkn)
   have hm4:=hrow4.len
   have hm4b:=HB.out.1.tab _ (nth_mem (xs:=N.tables) (j:=k) (by rw [HK.out];exact hkn))
   rw [hm4] at hm4b
   have hsz:∀ i,i < m4→(nth (nth N.tables k) i).sz≤8388608:=fun i hi=>by have:=totTo_at (nth N.tables k) hi;omega
   have HH:=Lib.hid (And.intro hrow4 (And.intro hsz (And.intro g4 (And.intro HYr hwr))))
   have hm4c:=hm4b.1
   obtain ⟨ww,hww⟩:∃ ww:World,ww=wr:=⟨_,rfl⟩
   subst hww
   clear hm4 hm4b hsz hrow4 hwr HYr
   go_wp2_with fail
   go_loopw [5,3] (fun i s wr=>∃ q z p:Nat,q≤m4∧z≤30000000∧i=.int .i64 (q:Nat)∧s=.int .i64 (z:Nat)∧wr=ww.drewN p) (fun i _ _=>m4 - (intOf i).toNat)
   case atStart=>exact ⟨0,z,0,by omega,hz,rfl,rfl,rfl⟩
   case round =>
    obtain ⟨q,y,p2,hq,hy,rfl,rfl,hwr⟩:=hrel
    have r4'':wr.cell? ⟨w.heap.size,4,none⟩=some (.slice (some ⟨b4,o4,none⟩) K c4):=by rw [hwr];exact r4'
    have g4':wr.cell? ⟨b4,o4 + k,none⟩=some (.slice B4 m4 d4):=by rw [hwr];exact HH.out.2.2.1
    by_cases hqm:q < m4
    ·by_cases hy0:y < 10000
     ·have hr2:=HH.out.1.below (Nat.le_refl _) (below_refl_drewN _ ww p2)
      rw [← hwr] at hr2
      obtain ⟨b5,o5,hd,rfl,hb5,g5,g6,g7,hraw⟩:=hr2.at hqm
      have hs:=HH.out.2.1 q hqm
      have hn:=hraw.num.len
      have hk2:=hraw.den.len
      unfold RawR.sz at hs
      rw [hn,hk2] at hs
      have HW:=Lib.hid hwr
      generalize hd.n=nn at *
      generalize hd.k=kk at *
      clear hwr hraw hr2 hn hk2
      go_wp2_with fail
      go_quiet (fail)
      go_wp2_with fail
      exact ⟨⟨q + 1,y + nn + kk,p2 + nq,by omega,by omega,by go_num,by go_num,by rw [HW.out];simp [World.drewN,Nat.add_assoc]⟩,by simp [intOf];omega⟩
     ·have hy1:¬ (y:Int) < 10000:=by omega
      have hW:ww.drewN p2=wq.drewN (p + p2):=by rw [HH.out.2.2.2.2];simp [World.drewN,Nat.add_assoc]
      have HW:=Lib.hid (hwr.trans hW)
      clear hwr hW
      go_wp2_with fail
      exact ⟨⟨k + 1,y,p + p2,by omega,by omega,by go_num,rfl,HW.out⟩,by simp [intOf];omega⟩
    ·obtain rfl:m4=q:=by omega
     have hW:ww.drewN p2=wq.drewN (p + p2):=by rw [HH.out.2.2.2.2];simp [World.drewN,Nat.add_assoc]
     have HW:=Lib.hid (hwr.trans hW)
     clear hwr hW
     go_wp2_with fail
     exact ⟨⟨k + 1,y,p + p2,by omega,by omega,by go_num,rfl,HW.out⟩,by simp [intOf];omega⟩
  ·obtain rfl:K=k:=by omega
   have HW:=Lib.hid HYr.bel
   clear HYr hwr
   go_wp2_with fail
   go_ret
   exact ⟨⟨_,rfl⟩,HW.out⟩
def BoolEnd (e:Ending):Prop:=∃ b:Bool,e=.returned (.bool b)
set_option maxRecDepth 100000 in
set_option maxHeartbeats 2000000 in
theorem many_net (N:NetV) (A1 A2 A3 A4:Option Addr) (c1 c2 c3 c4:Nat) (w:World) (h:NetAt w N A1 A2 A3 A4 c1 c2 c3 c4) (hB:NetB N) :
 Calls Tryz.prog 4 #[.agg (netC N A1 A2 A3 A4 c1 c2 c3 c4).toArray] w fun e w'=>BoolEnd e∧Below w.heap.size w w':=by
 have H:=(Held.init w).new 27 (netC N A1 A2 A3 A4 c1 c2 c3 c4)
 unfold netC at H ⊢
 obtain ⟨wq,hwq⟩:∃ wq:World,wq=w.alloc (.cells #[.string N.name,.slice A1 N.names.length c1,.slice A2 N.values.length c2,.slice A3 N.parents.length c3,.slice A4 N.tables.length c4] 27):=⟨_,rfl⟩
 rw [← hwq] at H
 have HX:NetBox w wq N A1 A2 A3 A4 c1 c2 c3 c4:=⟨H.has.1,h.below (Nat.le_refl _) H.bel,H.bel⟩
 obtain ⟨r0,r1,r2,r3,r4⟩:=HX.cells
 have hKt:=HX.net.n4.big
 have hKv:=HX.net.n2.big
 have hvb:=hB.vals
 have htb:=hB.tabs
 have hlim:=limbs_net N A1 A2 A3 A4 c1 c2 c3 c4 wq HX.net hB
 unfold netC at hlim
 have HB:=Lib.hid (And.intro hB (And.intro HX hlim))
 clear h hB H HX hlim
 go_enter Tryz.func4,Tryz.ntmps4
 go_upto_region 1 with fail
 rw [← hwq]
 clear hwq
 go_wp2_with fail
 go_loopw [4,3] (fun i s wr=>∃ k z:Nat,k≤N.values.length∧z≤200∧i=.int .i64 (k:Nat)∧s=.int .i64 (z:Nat)∧wr=wq) (fun i _ _=>N.values.length - (intOf i).toNat)
 case atStart=>exact ⟨0,1,by omega,by omega,rfl,rfl,rfl⟩
 case round =>
  obtain ⟨k,z,hk,hz,rfl,rfl,hwr⟩:=hrel
  have hwr:=hwr.symm
  subst hwr
  by_cases hkn:k < N.values.length
  ·obtain ⟨b2,o2,B2,m2,d2,rfl,hb2,g2,hrow2⟩:=HB.out.2.1.net.n2.row hkn
   have hm2:=(HB.out.1.val _ (nth_mem hkn)).1
   rw [hrow2.len] at hm2
   obtain ⟨mx,hmx⟩:∃ mx:Nat,max (1:Int) (m2:Int)=(mx:Int):=⟨max 1 m2,by omega⟩
   have hmx1:mx≤1048577:=by omega
   have hmul:z * mx≤200 * 1048577:=Nat.mul_le_mul hz hmx1
   obtain ⟨zm,hzm⟩:∃ zm,zm=z * mx:=⟨_,rfl⟩
   rw [← hzm] at hmul
   have e1:(z:Int) * (mx:Int)=(zm:Int):=by rw [hzm];exact (Int.natCast_mul _ _).symm
   clear hrow2 hzm
   by_cases hbig:200 < zm
   ·have d1:(200:Int) < (zm:Int):=by omega
    have HX:=Lib.hid HB.out.2.1.bel
    go_wp2_with fail
    go_ret
    exact ⟨⟨true,rfl⟩,HX.out⟩
   ·have d1:¬ (200:Int) < (zm:Int):=by omega
    go_wp2_with fail
    exact ⟨⟨k + 1,zm,by omega,by omega,by go_num,rfl,by first | rfl | trivial⟩,by simp [intOf];omega⟩
  ·have hkk:N.values.length=k:=by omega
   have hkI:¬ (k:Int) < (N.values.length:Int):=by omega
   clear hkk hkn hk
   go_wp2_with fail
   go_loopw [6,5] (fun i s wr=>∃ q z:Nat,q≤N.tables.length∧z≤q * 1048576∧i=.int .i64 (q:Nat)∧s=.int .i64 (z:Nat)∧wr=wq) (fun i _ _=>N.tables.length - (intOf i).toNat)
   case atStart=>exact ⟨0,0,by omega,by omega,rfl,rfl,rfl⟩
   case round =>
    obtain ⟨q,y,hq,hy,rfl,rfl,hwr⟩:=hrel
    have hwr:=hwr.symm
    subst hwr
    by_cases hqn:q < N.tables.length
    ·obtain ⟨b4,o4,B4,m4,d4,rfl,hb4,g4,hrow4,_⟩:=HB.out.2.1.net.n4.row hqn
     have hm4:=(HB.out.1.tab _ (nth_mem hqn)).1
     rw [hrow4.len] at hm4
     clear hrow4
     go_wp2_with fail
     exact ⟨⟨q + 1,y + m4,by omega,by omega,by go_num,by go_num,by first | rfl | trivial⟩,by simp [intOf];omega⟩
    ·have hqI:¬ (q:Int) < (N.tables.length:Int):=by omega
     have hyb:y≤1048576 * 1048576:=Nat.le_trans hy (Nat.mul_le_mul_right _ (by omega))
     clear hqn hy hq
     by_cases h6:600 < y
     ·have d1:(600:Int) < (y:Int):=by omega
      have HX:=Lib.hid HB.out.2.1.bel
      go_wp2_with fail
      go_ret
      exact ⟨⟨true,rfl⟩,HX.out⟩
     ·have d1:¬ (600:Int) < (y:Int):=by omega
      go_wp2_with fail
      refine HB.out.2.2.mono ?_
      rintro e w5 ⟨⟨zz,rfl⟩,hb5⟩
      have HX:=Lib.hid (HB.out.2.1.bel.trans (hb5.mono HB.out.2.1.bel.size))
      clear hb5
      go_wp2_with fail
      go_ret
      exact ⟨⟨_,rfl⟩,HX.out⟩
def LentS (w:World) (base:Nat) (A:Option Addr) (n c:Nat) (l:List ByteArray) (a b:ByteArray):Prop:=OwnR Value.string w base 9 A (n + 2) c (l ++ [a,b])∧n=l.length∧n≤1048576
end Go.Proofs.YtmncjibcoffmfaaGreat
