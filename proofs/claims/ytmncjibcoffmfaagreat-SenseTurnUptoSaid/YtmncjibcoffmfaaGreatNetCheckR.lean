/- credenceref19.Check, walked: it tells what model.Check tells. Conditions: the network reads, within Go's bound. Printed by wip/gen/netcheckr.py. -/
import Derived.Test.YtmncjibcoffmfaaGreatJ19
import Derived.Test.YtmncjibcoffmfaaGreatJ5
set_option linter.unusedVariables false
set_option linter.unusedSimpArgs false
namespace Go.Proofs.YtmncjibcoffmfaaGreat
open Go.RowKit

set_option maxRecDepth 100000 in
set_option maxHeartbeats 4000000 in
theorem check_refN (N:NetV) (A1 A2 A3 A4:Option Addr) (c1 c2 c3 c4:Nat) (w:World) (h:NetAt w N A1 A2 A3 A4 c1 c2 c3 c4) (hB:NetB N) :
 Calls Tryz.prog 29 #[.agg (netC N A1 A2 A3 A4 c1 c2 c3 c4).toArray] w fun e w'=>e=.returned (.int .i64 (checkN N))∧Below w.heap.size w w':=by
 have H:=(Held.init w).new 27 (netC N A1 A2 A3 A4 c1 c2 c3 c4)
 unfold netC at H ⊢
 obtain ⟨wq,hwq⟩:∃ wq:World,wq=w.alloc (.cells #[.string N.name,.slice A1 N.names.length c1,.slice A2 N.values.length c2,.slice A3 N.parents.length c3,.slice A4 N.tables.length c4] 27):=⟨_,rfl⟩
 rw [← hwq] at H
 have HX:NetBox w wq N A1 A2 A3 A4 c1 c2 c3 c4:=⟨H.has.1,h.below (Nat.le_refl _) H.bel,H.bel⟩
 have HB:=Lib.hid hB
 have hc:checkN N=if N.values.length ≠ N.names.length ∨ N.parents.length ≠ N.names.length ∨ N.tables.length ≠ N.names.length then 60
  else if 1024 < N.names.length then 4
  else if firstE (namedAt N) N.names.length ≠ 0 then firstE (namedAt N) N.names.length
  else if checkP N.parents ≠ 0 then checkP N.parents
  else if firstE (rowsAt N) N.names.length ≠ 0 then firstE (rowsAt N) N.names.length
  else if firstE (outAt N) N.names.length ≠ 0 then firstE (outAt N) N.names.length
  else firstE (wholeAt N) N.names.length:=rfl
 obtain ⟨E,hE⟩:∃ E,E=checkN N:=⟨_,rfl⟩
 rw [← hE] at hc ⊢
 have HC:=Lib.hid hc
 have HX0:=Lib.hid HX
 clear hE hc h H hB
 obtain ⟨r0,r1,r2,r3,r4⟩:=HX.cells
 clear HX
 go_enter Tryz.func29,Tryz.ntmps29
 go_upto_region 1 with fail
 rw [← hwq]
 clear hwq
 by_cases hv:N.values.length=N.names.length
 rotate_left
 ·as_aux_lemma =>
  have HE:=Lib.hid (show E=60 by rw [HC.out,if_pos (.inl hv)])
  have d1:((N.values.length:Int) == (N.names.length:Int))=false:=beq_eq_false_iff_ne.2 (by omega)
  have d2:¬ N.values.length=N.names.length:=hv
  clear hv
  go_wp2_with fail
  go_ret
  exact ⟨by rw [HE.out];rfl,HX0.out.bel⟩
 by_cases hp:N.parents.length=N.names.length
 rotate_left
 ·as_aux_lemma =>
  have HE:=Lib.hid (show E=60 by rw [HC.out,if_pos (.inr (.inl hp))])
  have d1:((N.parents.length:Int) == (N.names.length:Int))=false:=beq_eq_false_iff_ne.2 (by omega)
  have d0:(N.values.length:Int)=(N.names.length:Int):=by omega
  clear hv hp
  go_wp2_with fail
  go_ret
  exact ⟨by rw [HE.out];rfl,HX0.out.bel⟩
 by_cases ht:N.tables.length=N.names.length
 rotate_left
 ·as_aux_lemma =>
  have HE:=Lib.hid (show E=60 by rw [HC.out,if_pos (.inr (.inr ht))])
  have d1:((N.tables.length:Int) == (N.names.length:Int))=false:=beq_eq_false_iff_ne.2 (by omega)
  have d0:(N.values.length:Int)=(N.names.length:Int):=by omega
  have d2:(N.parents.length:Int)=(N.names.length:Int):=by omega
  clear hv hp ht
  go_wp2_with fail
  go_ret
  exact ⟨by rw [HE.out];rfl,HX0.out.bel⟩
 have HL:=Lib.hid (And.intro hv (And.intro hp ht))
 have hsh:¬ (N.values.length ≠ N.names.length ∨ N.parents.length ≠ N.names.length ∨ N.tables.length ≠ N.names.length):=by omega
 have hc2:=HC.out
 rw [if_neg hsh] at hc2
 have HC2:=Lib.hid hc2
 clear hc2 hsh HC
 rw [hv] at r2
 rw [hp] at r3
 rw [ht] at r4
 rw [hv,hp,ht]
 have hbigs:=HX0.out.net.n1.big
 generalize hK:N.names.length=K at *
 have HK:=Lib.hid hK
 clear hv hp ht hK
 by_cases hm:1024 < K
 ·as_aux_lemma =>
  have HE:=Lib.hid (show E=4 by rw [HC2.out,if_pos hm])
  have d1:(1024:Int) < (K:Int):=by omega
  go_wp2_with fail
  go_ret
  exact ⟨by rw [HE.out];rfl,HX0.out.bel⟩
 have hc2:=HC2.out
 rw [if_neg hm] at hc2
 have HC3:=Lib.hid hc2
 clear hc2 HC2
 have d1:¬ (1024:Int) < (K:Int):=by omega
 have HX1:=Lib.hid (HX0.out.K HK.out HL.out.1 HL.out.2.1 HL.out.2.2)
 clear HX0
 go_wp2_with fail
 go_loopw [4] (fun i wr=>∃ k:Nat,k≤K∧i=.int .i64 (k:Nat)∧firstE (namedAt N) k=0∧NetBoxK w wr N K A1 A2 A3 A4 c1 c2 c3 c4) (fun i _=>K - (intOf i).toNat)
 case atStart=>exact ⟨0,by omega,rfl,rfl,HX1.out⟩
 case round =>
  obtain ⟨k,hk,rfl,hok,HYr⟩:=hrel
  obtain ⟨wo,hwo⟩:∃ wo:World,wo=wr:=⟨_,rfl⟩
  subst hwo
  clear r0 r1 r2 r3 r4
  by_cases hkn:k < K
  ·as_aux_lemma =>
   have hn1:=HYr.net.n1
   rw [HK.out] at hn1
   obtain ⟨b1,o1,rfl,hb1,hc1⟩:=hn1.at' (by omega)
   have g1:=hc1 k hkn
   clear hc1
   have hkv:k < N.values.length:=by rw [HL.out.1];exact hkn
   obtain ⟨b2,o2,B2,m2,d2,rfl,hb2,g2,hrow2⟩:=HYr.net.n2.row hkv
   obtain ⟨r0,r1,r2,r3,r4⟩:=HYr.cells
   have hat:namedAt N k=if dupAt N.names k || dup (nth N.values k) then 40 else if m2=0 then 43 else 0:=by unfold namedAt;rw [hrow2.len]
   have hbad:=fun (hne:namedAt N k ≠ 0)=>firstE_bad hok hne hkn
   have hz:=findS_dup (xs:=N.names) (k:=k) (by rw [HK.out];exact hkn)
   have hm2b:=hrow2.big
   have HH:=Lib.hid (And.intro hat (And.intro hok (And.intro hbad (And.intro HYr (And.intro hrow2 hn1)))))
   have hzz:∀ w':World,Sl Value.string w' (some ⟨b1,o1,none⟩) K N.names→Calls Tryz.prog 54 #[.slice (some ⟨b1,o1,none⟩) K c1,.string (nth N.names k)] w' fun e w''=>e=.returned (.int .i64 (findS (nth N.names k) N.names 0))∧w''=w':=fun w' h=>(find_s _ K c1 N.names (nth N.names k) w' h).mono fun _ _ ⟨h1,h2⟩=>⟨h1,h2.symm⟩
   have HZZ:=Lib.hid hzz
   have HZ:=Lib.hid hz
   clear hat hok hbad hrow2 hn1 hzz hz HYr
   go_wp2_with fail
   go_quiet ((go_at_call 54;exact Calls.quiet_of_same (HZZ.out _ (HH.out.2.2.2.2.2.drewN _))))
   rw [HZ.out]
   obtain ⟨wd,hwd⟩:∃ wd,wd=wo.drewN nq:=⟨_,rfl⟩
   have HYd:NetBoxK w (wo.drewN nq) N K (some ⟨b1,o1,none⟩) (some ⟨b2,o2,none⟩) A3 A4 c1 c2 c3 c4:=HH.out.2.2.2.1.step (below_refl_drewN _ _ _)
   have hrd:=HH.out.2.2.2.2.1.drewN nq
   have g2:(wo.drewN nq).cell? ⟨b2,o2 + k,none⟩=some (.slice B2 m2 d2):=g2
   rw [← hwd] at HYd hrd g2 ⊢
   clear hwd g1 r0 r1 r2 r3 r4 hb2
   have HD:=Lib.hid (And.intro HYd hrd)
   obtain ⟨r0,r1,r2,r3,r4⟩:=HYd.cells
   clear HYd hrd
   generalize hag:dupAt N.names k=ag at *
   have HAG:=Lib.hid hag
   clear hag
   go_wp2_with fail
   go_loopw [6,5] (fun i g wr=>∃ (q:Nat),q≤m2∧i=.int .i64 (q:Nat)∧g=.bool (ag || dupTo (nth N.values k) q)∧∃ p,wr=wd.drewN p) (fun i _ _=>m2 - (intOf i).toNat)
   case atStart=>exact ⟨0,by omega,rfl,by rw [show dupTo (nth N.values k) 0=false from rfl,Bool.or_false],0,rfl⟩
   case round =>
    obtain ⟨q,hq,rfl,rfl,pw,hwr⟩:=hrel
    have HYw:NetBoxK w wr N K (some ⟨b1,o1,none⟩) (some ⟨b2,o2,none⟩) A3 A4 c1 c2 c3 c4:=by rw [hwr];exact HD.out.1.step (below_refl_drewN _ _ _)
    have hrw:Sl Value.string wr B2 m2 (nth N.values k):=by rw [hwr];exact HD.out.2.drewN _
    have g2:wr.cell? ⟨b2,o2 + k,none⟩=some (.slice B2 m2 d2):=by rw [hwr];exact g2
    clear r0 r1 r2 r3 r4
    obtain ⟨r0,r1,r2,r3,r4⟩:=HYw.cells
    have HW:=Lib.hid (And.intro HYw (And.intro hrw hwr))
    have hvl:=hrw.len
    clear hwr HYw
    by_cases hqm:q < m2
    ·have hsn:=dupTo_succ (nth N.values k) q
     obtain ⟨b3,o3,rfl,hb3,hc3⟩:=hrw.at' (by omega)
     have g3:=hc3 q hqm
     have hz:=findS_dup (xs:=nth N.values k) (k:=q) (by omega)
     have hzz:∀ w':World,Sl Value.string w' (some ⟨b3,o3,none⟩) m2 (nth N.values k)→Calls Tryz.prog 54 #[.slice (some ⟨b3,o3,none⟩) m2 d2,.string (nth (nth N.values k) q)] w' fun e w''=>e=.returned (.int .i64 (findS (nth (nth N.values k) q) (nth N.values k) 0))∧w''=w':=fun w' h=>(find_s _ m2 d2 _ _ w' h).mono fun _ _ ⟨h1,h2⟩=>⟨h1,h2.symm⟩
     have HZZ:=Lib.hid hzz
     have HZ:=Lib.hid (And.intro hz hsn)
     clear hc3 hzz hz hsn hvl hrw
     rcases hg:(ag || dupTo (nth N.values k) q) with _ | _
     ·have HG:=Lib.hid hg
      clear hg
      go_wp2_with fail
      go_quiet ((go_at_call 54;exact Calls.quiet_of_same (HZZ.out _ (HW.out.2.1.drewN _))))
      go_wp2_with fail
      refine ⟨⟨q + 1,by omega,by go_num,?_,pw + nq,by rw [HW.out.2.2];simp [World.drewN,Nat.add_assoc]⟩,by simp [intOf];omega⟩
      rw [HZ.out.2,← Bool.or_assoc,HG.out,Bool.false_or,← HZ.out.1]
     ·have HG:=Lib.hid hg
      clear hg
      go_wp2_with fail
      go_quiet (fail)
      go_wp2_with fail
      refine ⟨⟨q + 1,by omega,by go_num,?_,pw + nq,by rw [HW.out.2.2];simp [World.drewN,Nat.add_assoc]⟩,by simp [intOf];omega⟩
      rw [HZ.out.2,← Bool.or_assoc,HG.out,Bool.true_or]
    ·obtain rfl:m2=q:=by omega
     have hdd:(ag || dupTo (nth N.values k) m2)=(ag || dup (nth N.values k)):=by unfold dup;rw [hvl]
     rw [hdd]
     clear hdd hrw hvl
     rcases hg:(ag || dup (nth N.values k)) with _ | _
     ·have HG:=Lib.hid hg
      clear hg
      by_cases hm0:m2=0
      ·subst hm0
       have HE:=Lib.hid (show namedAt N k=43 by rw [HH.out.1,HG.out];rfl)
       have HE2:=Lib.hid (show E=43 by rw [HC3.out,HH.out.2.2.1 (by rw [HE.out];decide),HE.out];rfl)
       go_wp2_with fail
       go_ret
       exact ⟨by rw [HE2.out];rfl,HW.out.1.bel⟩
      ·have hm1:¬ (m2:Int)=0:=by omega
       have hm2':((m2:Int) == 0)=false:=beq_eq_false_iff_ne.2 hm1
       have HE:=Lib.hid (show namedAt N k=0 by rw [HH.out.1,HG.out];simp [hm0])
       go_wp2_with fail
       exact ⟨⟨k + 1,by omega,by go_num,firstE_ok HH.out.2.1 HE.out,HW.out.1⟩,by simp [intOf];omega⟩
     ·have HE:=Lib.hid (show namedAt N k=40 by rw [HH.out.1,hg];rfl)
      have HE2:=Lib.hid (show E=40 by rw [HC3.out,HH.out.2.2.1 (by rw [HE.out];decide),HE.out];rfl)
      clear hg
      go_wp2_with fail
      go_ret
      exact ⟨by rw [HE2.out];rfl,HW.out.1.bel⟩
  ·obtain rfl:K=k:=by omega
   obtain ⟨r0,r1,r2,r3,r4⟩:=HYr.cells
   have hc2:=HC3.out
   rw [hok] at hc2
   rw [if_neg (by decide)] at hc2
   have HC4:=Lib.hid (And.intro hc2 hok)
   have HY1:=Lib.hid HYr
   have hn3:=HYr.net.n3
   rw [HL.out.2.1] at hn3
   clear hc2 hok HYr hk hkn
   go_wp2_with fail
   refine (check_ref A3 K c3 N.parents _ hn3 (by omega)).mono ?_
   rintro e w2 ⟨rfl,hb2⟩
   have HY:=HY1.out.step hb2
   clear hb2 r0 r1 r2 r3 r4 hn3
   obtain ⟨r0,r1,r2,r3,r4⟩:=HY.cells
   have HY2:=Lib.hid HY
   clear HY
   by_cases hcp:checkP N.parents=0
   rotate_left
   ·as_aux_lemma =>
    have HE:=Lib.hid (show E=checkP N.parents by rw [HC4.out.1,if_pos hcp])
    generalize checkP N.parents=F at *
    have d2:(F == 0)=false:=beq_eq_false_iff_ne.2 hcp
    go_wp2_with fail
    go_ret
    exact ⟨by rw [HE.out];rfl,HY2.out.bel⟩
   have hc2:=HC4.out.1
   rw [if_neg (by rw [hcp];decide)] at hc2
   have HC5:=Lib.hid (And.intro hc2 (And.intro HC4.out.2 hcp))
   rw [hcp]
   clear hc2 hcp HC4
   have hsizes:=sizes_net N A1 A2 A3 A4 c1 c2 c3 c4 w2 HY2.out.net HB.out
   unfold netC at hsizes
   rw [HL.out.1,HL.out.2.1,HL.out.2.2,HK.out] at hsizes
   have HSZ:=Lib.hid hsizes
   clear hsizes
   go_wp2_with fail
   refine HSZ.out.mono ?_
   rintro e w3 ⟨R,dR,rfl,hoR,hb3⟩
   have HY:=HY2.out.step hb3
   have hsl:=hoR.sl (by omega)
   have hcapR:=hoR.cap
   clear hb3 r0 r1 r2 r3 r4 hoR
   obtain ⟨r0,r1,r2,r3,r4⟩:=HY.cells
   have HY3:=Lib.hid (And.intro HY hsl)
   clear HY hsl HSZ
   go_wp2_with fail
   go_loopw [9] (fun i wr=>∃ k:Nat,k≤K∧i=.int .i64 (k:Nat)∧firstE (rowsAt N) k=0∧Sl eN wr R K N.Z∧NetBoxK w wr N K A1 A2 A3 A4 c1 c2 c3 c4) (fun i _=>K - (intOf i).toNat)
   case atStart=>exact ⟨0,by omega,rfl,rfl,HY3.out.2,HY3.out.1⟩
   case round =>
    obtain ⟨k,hk,rfl,hok,hsz,HYr⟩:=hrel
    obtain ⟨wo,hwo⟩:∃ wo:World,wo=wr:=⟨_,rfl⟩
    subst hwo
    by_cases hkn:k < K
    ·as_aux_lemma =>
     obtain ⟨b3,o3,B3,m3,d3,rfl,hb3,g3,hrow3⟩:=HYr.net.n3.row (i:=k) (by rw [HL.out.2.1];exact hkn)
     obtain ⟨b4,o4,B4,m4,d4,rfl,hb4,g4,hrow4,_⟩:=HYr.net.n4.row (i:=k) (by rw [HL.out.2.2];exact hkn)
     obtain ⟨b8,o8,rfl,hb8,hc8⟩:=hsz.at' (by omega)
     have g8:wo.cell? ⟨b8,o8 + k,none⟩=some (.int .i64 (nth N.Z k:Nat)):=hc8 k hkn
     obtain ⟨r0,r1,r2,r3,r4⟩:=HYr.cells
     have hm4:=hrow4.len
     have hzb:=HB.out.z k
     have hz1:1≤nth N.Z k:=named_ok (by rw [HK.out];exact HC5.out.2.1) (by rw [HL.out.1,HK.out]) k (by rw [HL.out.1];exact hkn)
     have hat:rowsAt N k=if 65536 < rowsV N k * nth N.Z k then 4 else if rowsV N k * nth N.Z k ≠ m4 then 60 else 0:=by unfold rowsAt;rw [hm4]
     have hrle:rowsV N k≤1099511627776:=rowsTo_le _ _ _
     have hch:=choices_any B3 (some ⟨b8,o8,none⟩) m3 d3 K dR (nth N.parents k) N.Z wo hrow3 hsz (fun p hpm=>by have:=par_ok (by rw [HL.out.1,HK.out]) (by rw [HL.out.2.1,HK.out]) HC5.out.2.2 (by rw [HL.out.2.1];exact hkn) p hpm;rw [HL.out.1] at this;exact this) (fun i hi=>⟨named_ok (by rw [HK.out];exact HC5.out.2.1) (by rw [HL.out.1,HK.out]) i (by rw [HL.out.1];exact hi),HB.out.z i⟩)
     rw [show rowsC N.Z (nth N.parents k)=rowsV N k from rfl] at hch
     obtain ⟨r,hr⟩:∃ r,r=rowsV N k:=⟨_,rfl⟩
     rw [← hr] at hat hrle hch
     generalize nth N.Z k=m2 at *
     have hmul:r * m2≤1099511627776 * 1048576:=Nat.mul_le_mul hrle hzb
     obtain ⟨rm,hrm⟩:∃ rm,rm=r * m2:=⟨_,rfl⟩
     have hov:=over_any r m2
     rw [← hrm] at hat hmul hov
     have e1:(r:Int) * (m2:Int)=(rm:Int):=by rw [hrm];exact (Int.natCast_mul _ _).symm
     have hbad:=fun (hne:rowsAt N k ≠ 0)=>firstE_bad hok hne hkn
     have hbig4:=hrow4.big
     have HCH:=Lib.hid (And.intro hch (fun w'=>hov w' (by omega) hzb))
     have HH:=Lib.hid (And.intro hat (And.intro hok (And.intro hbad (And.intro hsz HYr))))
     clear hch hat hok hbad hrow3 hrow4 hm4 hrm hr hov hc8 hsz HYr
     go_wp2_with fail
     refine HCH.out.1.mono ?_
     rintro e w4 ⟨rfl,hw4⟩
     subst hw4
     go_wp2_with fail
     refine (HCH.out.2 _).mono ?_
     rintro e w4 ⟨rfl,hw4⟩
     subst hw4
     by_cases hbig:65536 < rm
     ·have HE:=Lib.hid (show rowsAt N k=4 by rw [HH.out.1,if_pos hbig])
      have d2:decide (65536 < rm)=true:=decide_eq_true hbig
      have HE2:=Lib.hid (show E=4 by rw [HC5.out.1,HH.out.2.2.1 (by rw [HE.out];decide),HE.out];rfl)
      rw [d2]
      go_wp2_with fail
      go_ret
      exact ⟨by rw [HE2.out];rfl,HH.out.2.2.2.2.bel⟩
     ·have d2:decide (65536 < rm)=false:=decide_eq_false hbig
      rw [d2]
      go_wp2_with fail
      by_cases hne:rm=m4
      ·subst hne
       have HE:=Lib.hid (show rowsAt N k=0 by rw [HH.out.1,if_neg hbig];simp)
       go_quiet (fail)
       go_wp2_with fail
       exact ⟨⟨k + 1,by omega,by go_num,firstE_ok HH.out.2.1 HE.out,HH.out.2.2.2.1.drewN _,HH.out.2.2.2.2.step (below_refl_drewN _ _ _)⟩,by simp [intOf];omega⟩
      ·have HE:=Lib.hid (show rowsAt N k=60 by rw [HH.out.1,if_neg hbig,if_pos hne])
       have d3:¬ (m4:Int)=(rm:Int):=by omega
       have d4:((m4:Int) == (rm:Int))=false:=beq_eq_false_iff_ne.2 d3
       have HE2:=Lib.hid (show E=60 by rw [HC5.out.1,HH.out.2.2.1 (by rw [HE.out];decide),HE.out];rfl)
       go_quiet (fail)
       go_wp2_with fail
       go_ret
       exact ⟨by rw [HE2.out];rfl,(HH.out.2.2.2.2.step (below_refl_drewN _ _ _)).bel⟩
    ·obtain rfl:K=k:=by omega
     obtain ⟨r0,r1,r2,r3,r4⟩:=HYr.cells
     have hc2:=HC5.out.1
     rw [hok] at hc2
     rw [if_neg (by decide)] at hc2
     have HC6:=Lib.hid (And.intro hc2 hok)
     have HY4:=Lib.hid (And.intro HYr hsz)
     clear hc2 hok HYr hk hkn hsz
     go_wp2_with fail
     go_loopw [12] (fun i wr=>∃ k:Nat,k≤K∧i=.int .i64 (k:Nat)∧firstE (outAt N) k=0∧Sl eN wr R K N.Z∧NetBoxK w wr N K A1 A2 A3 A4 c1 c2 c3 c4) (fun i _=>K - (intOf i).toNat)
     case atStart=>exact ⟨0,by omega,rfl,rfl,HY4.out.2,HY4.out.1⟩
     case round =>
      obtain ⟨k,hk,rfl,hok,hsz,HYr⟩:=hrel
      obtain ⟨wo,hwo⟩:∃ wo:World,wo=wr:=⟨_,rfl⟩
      subst hwo
      by_cases hkn:k < K
      ·as_aux_lemma =>
       obtain ⟨b4,o4,B4,m4,d4,rfl,hb4,g4,hrow4,_⟩:=HYr.net.n4.row (i:=k) (by rw [HL.out.2.2];exact hkn)
       obtain ⟨r0,r1,r2,r3,r4⟩:=HYr.cells
       have hm4:=hrow4.len
       have hm4b:=HB.out.tab _ (nth_mem (xs:=N.tables) (j:=k) (by rw [HL.out.2.2];exact hkn))
       rw [hm4] at hm4b
       have hszz:∀ i,i < m4→(nth (nth N.tables k) i).sz≤10000000000:=fun i hi=>by have:=totTo_at (nth N.tables k) hi;omega
       have hbad:=fun (hne:outAt N k ≠ 0)=>firstE_bad hok hne hkn
       have HH:=Lib.hid (And.intro hok (And.intro hbad (And.intro HYr (And.intro hszz (And.intro hrow4 (And.intro hsz (And.intro g4 hm4)))))))
       have hm4c:=hm4b.1
       clear hok hbad hm4 hm4b HYr hszz hrow4 hsz g4 r0 r1 r2 r3 r4
       go_wp2_with fail
       go_loopw [13] (fun i wr=>∃ q:Nat,q≤m4∧i=.int .i64 (q:Nat)∧(∀ j,j < q→outQ (nth (nth N.tables k) j).q=false)∧Below wo.heap.size wo wr) (fun i _=>m4 - (intOf i).toNat)
       case atStart=>exact ⟨0,by omega,rfl,fun j hj=>absurd hj (by omega),Below.refl _ _⟩
       case round =>
        obtain ⟨q,hq,rfl,hno,hbw⟩:=hrel
        have HYw:=HH.out.2.2.1.step hbw
        have g4:=bc hbw HH.out.2.2.2.2.2.2.1 hb4
        obtain ⟨r0,r1,r2,r3,r4⟩:=HYw.cells
        obtain ⟨wp,hwp⟩:∃ wp:World,wp=wr:=⟨_,rfl⟩
        subst hwp
        by_cases hqm:q < m4
        ·obtain ⟨b5,o5,hd,rfl,hb5,g5,g6,g7,hraw⟩:=(HH.out.2.2.2.2.1.below (Nat.le_refl _) hbw).at hqm
         have hout:=outside_ref _ _ _ _ hraw.at (by have:=HH.out.2.2.2.1 q hqm;omega)
         unfold RH.val at hout
         have HHH:=Lib.hid (And.intro hno hbw)
         clear hno hraw HYw hbw
         go_wp2_with fail
         refine hout.mono ?_
         rintro e w6 ⟨rfl,hb6⟩
         have hbz:=HHH.out.2.trans (hb6.mono HHH.out.2.size)
         have HZ:=Lib.hid hbz
         clear hb6 hout hbz
         rcases ho:outQ (nth (nth N.tables k) q).q with _ | _
         ·have HO:=Lib.hid ho
          clear ho
          go_wp2_with fail
          refine ⟨⟨q + 1,by omega,by go_num,fun j hj=>?_,HZ.out⟩,by simp [intOf];omega⟩
          by_cases hjp:j < q
          ·exact HHH.out.1 j hjp
          ·obtain rfl:j=q:=by omega
           exact HO.out
         ·have hob:outB (nth N.tables k)=true:=List.any_eq_true.2 ⟨_,nth_mem (by rw [HH.out.2.2.2.2.2.2.2];exact hqm),ho⟩
          have HE:=Lib.hid (show outAt N k=45 by unfold outAt;rw [hob];rfl)
          have HE2:=Lib.hid (show E=45 by rw [HC6.out.1,HH.out.2.1 (by rw [HE.out];decide),HE.out];rfl)
          clear ho hob
          go_wp2_with fail
          go_ret
          exact ⟨by rw [HE2.out];rfl,(HH.out.2.2.1.step HZ.out).bel⟩
        ·obtain rfl:m4=q:=by omega
         have hnb:outB (nth N.tables k)=false:=by
          unfold outB
          rw [List.any_eq_false]
          intro r hr
          obtain ⟨j,hj,e⟩:=List.getElem_of_mem hr
          have:=hno j (by rw [← HH.out.2.2.2.2.2.2.2];exact hj)
          rw [nth_eq hj,e] at this
          rw [this]
          simp
         have HE:=Lib.hid (show outAt N k=0 by unfold outAt;rw [hnb];rfl)
         have HZ:=Lib.hid (And.intro HYw hbw)
         clear hnb hno HYw hbw
         go_wp2_with fail
         exact ⟨⟨k + 1,by omega,by go_num,firstE_ok HH.out.1 HE.out,HH.out.2.2.2.2.2.1.below (Nat.le_refl _) HZ.out.2,HZ.out.1⟩,by simp [intOf];omega⟩
      ·obtain rfl:K=k:=by omega
       obtain ⟨r0,r1,r2,r3,r4⟩:=HYr.cells
       have hc2:=HC6.out.1
       rw [hok] at hc2
       rw [if_neg (by decide)] at hc2
       have HC7:=Lib.hid (And.intro hc2 HC6.out.2)
       have HY5:=Lib.hid (And.intro HYr hsz)
       clear hc2 hok HYr hk hkn hsz
       go_wp2_with fail
       go_loopw [15] (fun i wr=>∃ k:Nat,k≤K∧i=.int .i64 (k:Nat)∧firstE (wholeAt N) k=0∧Sl eN wr R K N.Z∧NetBoxK w wr N K A1 A2 A3 A4 c1 c2 c3 c4) (fun i _=>K - (intOf i).toNat)
       case atStart=>exact ⟨0,by omega,rfl,rfl,HY5.out.2,HY5.out.1⟩
       case round =>
        obtain ⟨k,hk,rfl,hok,hsz,HYr⟩:=hrel
        obtain ⟨wo,hwo⟩:∃ wo:World,wo=wr:=⟨_,rfl⟩
        subst hwo
        by_cases hkn:k < K
        ·as_aux_lemma =>
         obtain ⟨b4,o4,B4,m4,d4,rfl,hb4,g4,hrow4,hc4⟩:=HYr.net.n4.row (i:=k) (by rw [HL.out.2.2];exact hkn)
         obtain ⟨b8,o8,rfl,hb8,hc8⟩:=hsz.at' (by omega)
         have g8:wo.cell? ⟨b8,o8 + k,none⟩=some (.int .i64 (nth N.Z k:Nat)):=hc8 k hkn
         have r4:=HYr.cells.2.2.2.2
         have hm4:=hrow4.len
         have hm4b:=HB.out.tab _ (nth_mem (xs:=N.tables) (j:=k) (by rw [HL.out.2.2];exact hkn))
         rw [hm4] at hm4b
         have hzb:=HB.out.z k
         have hz1:1≤nth N.Z k:=named_ok (by rw [HK.out];exact HC5.out.2.1) (by rw [HL.out.1,HK.out]) k (by rw [HL.out.1];exact hkn)
         have hN1:1≤rowsV N k:=rowsV_pos (by rw [HK.out];exact HC5.out.2.1) (by rw [HL.out.1,HK.out]) (by rw [HL.out.2.1,HK.out]) HC5.out.2.2 (by rw [HL.out.2.1];exact hkn)
         have hmm:m4=rowsV N k * nth N.Z k:=by
          have h1:=firstE_zero HC6.out.2 k hkn
          unfold rowsAt at h1
          rw [hm4] at h1
          split at h1
          ·cases h1
          ·split at h1
           ·cases h1
           ·rename_i h2;omega
         have hm4p:0 < m4:=by rw [hmm];exact Nat.mul_pos hN1 hz1
         have hbad:=fun (hne:wholeAt N k ≠ 0)=>firstE_bad hok hne hkn
         have hwa:wholeAt N k=if wholeB (nth N.tables k) (nth N.Z k) (rowsV N k) then 0 else 46:=rfl
         have hm4c:=hm4b.1
         obtain ⟨b5,o5,_,rfl,_⟩:=hrow4.at hm4p
         have HH:=Lib.hid (And.intro hok (And.intro hbad (And.intro HYr (And.intro hwa (And.intro hmm (And.intro hrow4 (And.intro hm4b.2 hsz)))))))
         clear hok hbad hm4 hwa hmm hN1 hm4b hc8 hsz HYr
         go_upto_region 43 with fail
         have HG:=HH.out.2.2.1.step (below_drewN (Below.refl wo.heap.size wo) 1)
         have HS:=HH.out.2.2.2.2.2.2.2.drewN 1
         go_region_held3 (fun w'=>w'.cell? ⟨w.heap.size,4,none⟩=some (.slice (some ⟨b4,o4,none⟩) K c4)∧w'.cell? ⟨b4,o4 + k,none⟩=some (.slice (some ⟨b5,o5,none⟩) m4 d4)∧w'.cell? ⟨b8,o8 + k,none⟩=some (.int .i64 (nth N.Z k:Nat)))
          (first | exact ⟨r4,g4,g8⟩ | assumption | go_keep)
          (first
            | ((go_at_call 60);(refine (whole_ref b5 o5 d4 m4 (nth N.tables k) (nth N.Z k) (rowsV N k) _ (HH.out.2.2.2.2.2.1.below (Nat.le_refl _) (below_drewN (Below.refl _ _) 1)) hc4 HH.out.2.2.2.2.1 hz1 hm4c hzb (by have:=HH.out.2.2.2.2.2.2.1;omega)).mono ?_);(rintro e w6 ⟨rfl,hb9⟩);(have HG:=HG.step hb9);(have HS:=HS.below (Nat.le_refl _) hb9);(have r4:=HG.cells.2.2.2.2);(have g4:=bc hb9 g4 hb4);(have g8:=bc hb9 g8 hb8);(clear hb9)))
         rcases ho:wholeB (nth N.tables k) (nth N.Z k) (rowsV N k) with _ | _
         ·have HE:=Lib.hid (show wholeAt N k=46 by rw [HH.out.2.2.2.1,ho];rfl)
          have HE2:=Lib.hid (show E=46 by rw [HC7.out.1,HH.out.2.1 (by rw [HE.out];decide),HE.out])
          clear ho
          go_wp2_with fail
          go_ret
          exact ⟨by rw [HE2.out];rfl,HG.bel⟩
         ·have HE:=Lib.hid (show wholeAt N k=0 by rw [HH.out.2.2.2.1,ho];rfl)
          clear ho
          go_wp2_with fail
          exact ⟨⟨k + 1,by omega,by go_num,firstE_ok HH.out.1 HE.out,HS,HG⟩,by simp [intOf];omega⟩
        ·as_aux_lemma =>
         obtain rfl:K=k:=by omega
         have HE:=Lib.hid (show E=0 by rw [HC7.out.1,hok])
         go_wp2_with fail
         go_ret
         exact ⟨by rw [HE.out];rfl,HYr.bel⟩
end Go.Proofs.YtmncjibcoffmfaaGreat
