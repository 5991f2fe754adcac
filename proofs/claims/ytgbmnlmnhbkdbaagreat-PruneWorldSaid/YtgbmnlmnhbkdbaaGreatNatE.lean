/- nat.digit, walked: a digit of a quotient, and what is left, in place. Conditions: the divisor's highest bit is set; the window says less than the divisor times the base. -/
import Derived.Test.YtgbmnlmnhbkdbaaGreatNatD
set_option linter.unusedVariables false
set_option linter.unusedSimpArgs false
namespace Go.Proofs.YtgbmnlmnhbkdbaaGreat
open Go.RowKit

theorem wrap_add32 (a b:Int):IntKind.u32.wrap (a + b % 4294967296)=(a + b) % 4294967296:=by
 unfold IntKind.wrap;simp [IntKind.signed,IntKind.bits]
theorem wrap_add32' (a b:Int):IntKind.u32.wrap (a + b)=(a + b) % 4294967296:=by
 unfold IntKind.wrap;simp [IntKind.signed,IntKind.bits]
theorem add_cell (x c:Nat):eU ((x + c) % bB)=.int .u32 (((x:Int) + c) % 4294967296):=by
 unfold eU;rw [bB_eq];rfl
def DigitPost (g j m:Nat) (a s b V:List Nat) (rest:List Value) (w:World) (e:Ending) (w':World):Prop:=
 ∃ t,e=.returned (.int .u32 ((val s / val V:Nat):Int))∧Win w' g j a t b rest∧t.length=m + 1∧L32 t∧val t=val s % val V∧w.grownBy w' (some g)
set_option maxRecDepth 100000 in
set_option maxHeartbeats 1600000 in
theorem nat_digit (g j m cu gv ov cv:Nat) (a s b V:List Nat) (rest:List Value) (w:World) (h:Win w g j a s b rest) (hsl:s.length=m + 1) (hs:L32 s) (hV:Sl eU w (some ⟨gv,ov,none⟩) m V) (hVl:L32 V) (hne:gv ≠ g)
 (hm:2≤m) (hm2:m≤140737488351000) (htop:bB≤2 * nth V (m - 1)) (hlt:val s < val V * bB) :
 Calls Tryz.prog 71 #[.slice (some ⟨g,j,none⟩) (m + 1) cu,.slice (some ⟨gv,ov,none⟩) m cv] w (DigitPost g j m a s b V rest w):=by
 have hVlen:=hV.len
 obtain ⟨k,hk⟩:∃ k,m=k + 2:=⟨m - 2,by omega⟩
 have hVd:=val_top2 (l:=V) (k:=k) (by omega)
 have hUd:=val_top3 (l:=s) (k:=k) (by omega)
 have hvl:=val_take_lt hVl k
 have hul:=val_take_lt hs k
 have hv1:=hVl.nth (m - 1)
 have hv2:=hVl.nth (m - 2)
 have hu0:=hs.nth m
 have hu1:=hs.nth (m - 1)
 have hu2:=hs.nth (m - 2)
 rw [show k + 1=m - 1 by omega,show nth V k=nth V (m - 2) by congr 1;omega] at hVd
 rw [show k + 2=m by omega,show k + 1=m - 1 by omega,show nth s k=nth s (m - 2) by congr 1;omega] at hUd
 have c0:=h.cell (i:=m) (by omega)
 have c1:=h.cell (i:=m - 1) (by omega)
 have c2:=h.cell (i:=m - 2) (by omega)
 have d1:=sl_atU hV (i:=m - 1) (by omega)
 have d2:=sl_atU hV (i:=m - 2) (by omega)
 have hV0:0 < val V:=by
  rcases Nat.eq_zero_or_pos (val V) with h0 | h0
  ·rw [h0] at hlt;omega
  ·exact h0
 generalize hv1e:nth V (m - 1)=v1 at *
 generalize hv2e:nth V (m - 2)=v2 at *
 generalize hu0e:nth s m=u0 at *
 generalize hu1e:nth s (m - 1)=u1 at *
 generalize hu2e:nth s (m - 2)=u2 at *
 have hst:=Guess.start hVd hvl hv2 hUd hul hlt htop hu1 hu2
 have htopl:u0 * bB + u1 < bB * bB:=by
  have:(u0 + 1) * bB≤bB * bB:=Nat.mul_le_mul_right _ hu0
  rw [Nat.add_mul] at this
  omega
 have hdown:=fun {g' r':Nat} (hg:Guess (val s / val V) v1 (u0 * bB + u1) g' r') hc=>hg.down hVd hUd hul hlt hV0 hc
 have hdone:=fun {g' r':Nat} (hg:Guess (val s / val V) v1 (u0 * bB + u1) g' r') hc=>hg.done hVd hvl hv2 hUd hlt htop hu1 hc
 have HM:=Lib.hid (And.intro h (And.intro hV (And.intro hs (And.intro hVl (And.intro hlt (And.intro hV0 (And.intro hu0e (And.intro hsl hVlen))))))))
 have HD:=Lib.hid (And.intro @hdown @hdone)
 have w1:=or_high hu0 hu1
 have x1:(v1:Int) < 4294967296:=by rw [bB_eq] at hv1;omega
 have x2:(v2:Int) < 4294967296:=by rw [bB_eq] at hv2;omega
 have x3:(u0:Int) < 4294967296:=by rw [bB_eq] at hu0;omega
 have x4:(u1:Int) < 4294967296:=by rw [bB_eq] at hu1;omega
 have x5:(u2:Int) < 4294967296:=by rw [bB_eq] at hu2;omega
 have x6:(0:Int) < (v1:Nat):=by rw [bB_eq] at htop;omega
 have hq1:((u0:Int) * 4294967296 + (u1:Int)) / (v1:Nat)=(((u0 * bB + u1) / v1:Nat):Int):=by rw [bB_eq];simp
 have hq2:((u0:Int) * 4294967296 + (u1:Int)) % (v1:Nat)=(((u0 * bB + u1) % v1:Nat):Int):=by rw [bB_eq];simp
 have hq3:((u0:Int) * 4294967296 + (u1:Int)).tdiv (v1:Nat)=(((u0 * bB + u1) / v1:Nat):Int):=by rw [Int.tdiv_eq_ediv_of_nonneg (by omega)];exact hq1
 have hq4:((u0:Int) * 4294967296 + (u1:Int)).tmod (v1:Nat)=(((u0 * bB + u1) % v1:Nat):Int):=by rw [Int.tmod_eq_emod_of_nonneg (by omega)];exact hq2
 have hgle:=hst.le
 have hr0:(u0 * bB + u1) % v1 < v1:=Nat.mod_lt _ (by omega)
 generalize (u0 * bB + u1) / v1=g0 at *
 generalize (u0 * bB + u1) % v1=r0 at *
 have HST:=Lib.hid hst
 have y1:(g0:Int) < 4294967299:=by rw [bB_eq] at hgle;omega
 have y2:(r0:Int) < (v1:Nat):=by omega
 have i1:((m:Int) - 1).toNat=m - 1:=by omega
 have i2:((m:Int) - 2).toNat=m - 2:=by omega
 have i3:(0:Int)≤(m:Int) - 1:=by omega
 have i4:(0:Int)≤(m:Int) - 2:=by omega
 have i5:(m:Int) - 1 < (m:Nat):=by omega
 have i6:(m:Int) - 2 < (m:Nat):=by omega
 have i7:(m:Int) - 1 < (m:Int) + 1:=by omega
 have i8:(m:Int) - 2 < (m:Int) + 1:=by omega
 have i9:(m:Int) < (m:Int) + 1:=by omega
 have i10:IntKind.i64.wrap ((m:Int) - 1)=(m:Int) - 1:=by rw [IntKind.wrap_i64];omega
 have i11:IntKind.i64.wrap ((m:Int) - 2)=(m:Int) - 2:=by rw [IntKind.wrap_i64];omega
 clear hst hdown hdone hVd hUd hvl hul h hV hVl hs hlt hV0 hu0e hsl hVlen hv1e hv2e hu1e hu2e hk hv1 hv2 hu0 hu1 hu2
 obtain ⟨wa,hwa⟩:∃ wa:World,wa=w:=⟨_,rfl⟩
 subst hwa
 go_enter Tryz.func71,Tryz.ntmps71
 go_wp2_with fail
 go_quiet (fail)
 obtain ⟨wq,hwq⟩:∃ wq:World,wq=wa.drewN nq:=⟨_,rfl⟩
 rw [← hwq]
 have e1:wq.cell? ⟨gv,ov + (m - 1),none⟩=some (.int .u32 (v1:Int)):=by rw [hwq];exact d1
 have e2:wq.cell? ⟨gv,ov + (m - 2),none⟩=some (.int .u32 (v2:Int)):=by rw [hwq];exact d2
 have e3:wq.cell? ⟨g,j + (m - 2),none⟩=some (.int .u32 (u2:Int)):=by rw [hwq];exact c2
 have HWQ:=Lib.hid hwq
 clear hwq c0 c1 c2 d1 d2
 go_upto_block 0 with fail
 go_cut [7,8] from 49 to 86 (fun gv' rv' wx=>∃ gg rr q:Nat,gv'=.int .u64 (gg:Int)∧rv'=.int .u64 (rr:Int)∧gg < bB∧gg * val V≤val s + val V∧val s / val V≤gg∧wx=wq.drewN q)
 case first=>as_aux_lemma =>
  go_wp2_with fail
  go_loopw [7,8] (fun gv' rv' wr=>∃ gg rr q:Nat,gv'=.int .u64 (gg:Int)∧rv'=.int .u64 (rr:Int)∧Guess (val s / val V) v1 (u0 * bB + u1) gg rr∧rr < bB∧wr=wq.drewN q) (fun gv' _ _=>(intOf gv').toNat)
  case atStart=>exact ⟨g0,r0,0,rfl,rfl,HST.out,by rw [bB_eq];omega,rfl⟩
  case round =>
   obtain ⟨gg,rr,q,rfl,rfl,hG,hrr,hwr⟩:=hrel
   have f1:wr.cell? ⟨gv,ov + (m - 1),none⟩=some (.int .u32 (v1:Int)):=by rw [hwr];exact e1
   have f2:wr.cell? ⟨gv,ov + (m - 2),none⟩=some (.int .u32 (v2:Int)):=by rw [hwr];exact e2
   have f3:wr.cell? ⟨g,j + (m - 2),none⟩=some (.int .u32 (u2:Int)):=by rw [hwr];exact e3
   have hgl:=hG.le
   have HW:=Lib.hid (And.intro hwr hG)
   have w2:=or_high hrr (show u2 < bB by rw [bB_eq];omega)
   have hrr':(rr:Int) < 4294967296:=by rw [bB_eq] at hrr;omega
   have hgl':(gg:Int)≤4294967297:=by rw [bB_eq] at hgl;omega
   clear hwr hG e1 e2 e3 w1 hrr hgl
   have hv2n:v2 < 4294967296:=by omega
   by_cases hbig:bB≤gg
   ·have hc:=HD.out.1 HW.out.2 (.inl hbig)
    have k1:decide ((4294967295:Int) < (gg:Nat))=true:=by rw [bB_eq] at hbig;simp;omega
    have k2:decide (4294967295 < gg)=true:=by rw [bB_eq] at hbig;simp;omega
    have k3:(1:Int)≤(gg:Nat):=by rw [bB_eq] at hbig;omega
    have HC:=Lib.hid hc
    clear hc w2
    go_wp2_with fail
    go_quiet (fail)
    obtain ⟨wp,hwp⟩:∃ wp:World,wp=wr.drewN nq:=⟨_,rfl⟩
    rw [← hwp]
    have f1':wp.cell? ⟨gv,ov + (m - 1),none⟩=some (.int .u32 (v1:Int)):=by rw [hwp];exact f1
    have HWP:=Lib.hid hwp
    clear hwp f1 f2 f3
    by_cases hr2:rr + v1 < bB
    ·have k4:decide ((4294967295:Int) < (rr:Int) + (v1:Nat))=false:=by rw [bB_eq] at hr2;simp;omega
     have k5:¬ (4294967295:Int) < (rr:Int) + (v1:Nat):=by rw [bB_eq] at hr2;omega
     go_wp2_with fail
     exact ⟨⟨gg - 1,rr + v1,_,by congr 1;omega,by first | rfl | go_num,HC.out.2,hr2,by rw [HWP.out,HW.out.1];exact World.drewN_drewN _ _ _⟩,by simp [intOf];omega⟩
    ·have k4:decide ((4294967295:Int) < (rr:Int) + (v1:Nat))=true:=by rw [bB_eq] at hr2;simp;omega
     have k5:(4294967295:Int) < (rr:Int) + (v1:Nat):=by rw [bB_eq] at hr2;omega
     have hdn:=HD.out.2 HC.out.2 (.inr (by omega))
     have hge:=HC.out.2.ge
     have HN:=Lib.hid (And.intro hdn hge)
     clear hdn hge
     go_wp2_with fail
     go_meet
     exact ⟨gg - 1,rr + v1,_,by congr 1;omega,by first | rfl | go_num,HN.out.1.1,HN.out.1.2,HN.out.2,by rw [HWP.out,HW.out.1];exact World.drewN_drewN _ _ _⟩
   ·have k1:decide ((4294967295:Int) < (gg:Nat))=false:=by rw [bB_eq] at hbig;simp;omega
    have k2:decide (4294967295 < gg)=false:=by rw [bB_eq] at hbig;simp;omega
    have k6:decide ((rr:Int)≤4294967295)=true:=by simp;omega
    have k7:decide (rr≤4294967295)=true:=by simp;omega
    have hgb:gg≤4294967295:=by rw [bB_eq] at hbig;omega
    have hprod:gg * v2≤4294967295 * 4294967295:=Nat.mul_le_mul hgb (by omega)
    have hp:(gg:Int) * (v2:Nat)=((gg * v2:Nat):Int):=(Int.natCast_mul _ _).symm
    have z1:(gg:Int) * (v2:Nat) < 18446744073709551616:=by rw [hp];omega
    have z0:(0:Int)≤(gg:Int) * (v2:Nat):=Int.mul_nonneg (by omega) (by omega)
    have HPR:=Lib.hid hp
    clear hprod hp
    by_cases htest:rr * bB + u2 < gg * v2
    ·have hc:=HD.out.1 HW.out.2 (.inr htest)
     have k3:(1:Int)≤(gg:Nat):=by have:=hc.1;omega
     have k8:decide ((rr:Int) * 4294967296 + (u2:Nat) < (gg:Int) * (v2:Nat))=true:=by
      rw [decide_eq_true_iff]
      rw [HPR.out]
      rw [bB_eq] at htest
      omega
     have HC:=Lib.hid hc
     clear hc htest
     go_wp2_with fail
     go_quiet (fail)
     obtain ⟨wp,hwp⟩:∃ wp:World,wp=wr.drewN nq:=⟨_,rfl⟩
     rw [← hwp]
     have f1':wp.cell? ⟨gv,ov + (m - 1),none⟩=some (.int .u32 (v1:Int)):=by rw [hwp];exact f1
     have HWP:=Lib.hid hwp
     clear hwp f1 f2 f3
     by_cases hr2:rr + v1 < bB
     ·have k4:decide ((4294967295:Int) < (rr:Int) + (v1:Nat))=false:=by rw [bB_eq] at hr2;simp;omega
      have k5:¬ (4294967295:Int) < (rr:Int) + (v1:Nat):=by rw [bB_eq] at hr2;omega
      go_wp2_with fail
      exact ⟨⟨gg - 1,rr + v1,_,by congr 1;omega,by first | rfl | go_num,HC.out.2,hr2,by rw [HWP.out,HW.out.1];exact World.drewN_drewN _ _ _⟩,by simp [intOf];omega⟩
     ·have k4:decide ((4294967295:Int) < (rr:Int) + (v1:Nat))=true:=by rw [bB_eq] at hr2;simp;omega
      have k5:(4294967295:Int) < (rr:Int) + (v1:Nat):=by rw [bB_eq] at hr2;omega
      have hdn:=HD.out.2 HC.out.2 (.inr (by omega))
      have hge:=HC.out.2.ge
      have HN:=Lib.hid (And.intro hdn hge)
      clear hdn hge
      go_wp2_with fail
      go_meet
      exact ⟨gg - 1,rr + v1,_,by congr 1;omega,by first | rfl | go_num,HN.out.1.1,HN.out.1.2,HN.out.2,by rw [HWP.out,HW.out.1];exact World.drewN_drewN _ _ _⟩
    ·have hdn:=HD.out.2 HW.out.2 (.inl ⟨by omega,by omega⟩)
     have hge:=HW.out.2.ge
     have k8:decide ((rr:Int) * 4294967296 + (u2:Nat) < (gg:Int) * (v2:Nat))=false:=by
      rw [decide_eq_false_iff_not]
      intro h
      apply htest
      rw [HPR.out] at h
      rw [bB_eq]
      omega
     have HN:=Lib.hid (And.intro hdn hge)
     clear hdn hge htest
     go_wp2_with fail
     go_quiet (fail)
     go_wp2_with fail
     go_meet
     exact ⟨gg,rr,_,rfl,rfl,HN.out.1.1,HN.out.1.2,HN.out.2,by rw [HW.out.1];exact World.drewN_drewN _ _ _⟩
 case rest=>as_aux_lemma =>
  obtain ⟨gg,rr,q,rfl,rfl,hgg,hnear,hge,rfl⟩:=hcut
  have hg0:wa.grownBy (wq.drewN q) (some g):=by rw [HWQ.out];exact grown_drewN (grown_drewN (grown_refl _ _) _) _
  have hwin:Win (wq.drewN q) g j a s b rest:=by rw [HWQ.out];exact (HM.out.1.drewN _).drewN _
  have hnd:=near_div HM.out.2.2.2.2.2.1 hge hnear
  have HN:=Lib.hid (And.intro hnd (And.intro hg0 hwin))
  generalize wq.drewN q=wv at *
  have hgg':(gg:Int) < 4294967296:=by rw [bB_eq] at hgg;omega
  clear hnd hg0 hwin hge hnear e1 e2 e3 HWQ hq1 hq2 hq3 hq4 i10 i11 w1 HST HD i2 i4 i6 i8 y1 y2 x1 x2 x4 x5 x6 hgle hr0 htop htopl
  go_wp2_with fail
  go_loopw [9,10,89] (fun c9 c10 iv wr=>∃ (i c b':Nat) (t:List Nat),c9=.int .u64 (c:Int)∧c10=.int .u64 (b':Int)∧iv=.int .i64 (i:Nat)∧i≤m∧TakeAt s V t gg i c b'∧Win wr g j a t b rest∧wa.grownBy wr (some g)) (fun _ _ iv _=>m - (intOf iv).toNat)
  case atStart=>exact ⟨0,0,0,s,rfl,rfl,rfl,Nat.zero_le _,TakeAt.start gg HM.out.2.2.1,HN.out.2.2,HN.out.2.1⟩
  case round =>
   obtain ⟨i,c,b',t,rfl,rfl,rfl,hi,hT,hW,hgr⟩:=hrel
   obtain ⟨wb,hwb⟩:∃ wb:World,wb=wr:=⟨_,rfl⟩
   subst hwb
   have htl:=hT.len
   rw [HM.out.2.2.2.2.2.2.2.1] at htl
   have hcB:=hT.cB
   have hb1:=hT.b1
   by_cases hlt:i < m
   ·as_aux_lemma =>
     have g1:=hW.cell (i:=i) (by omega)
     rw [hT.rest i (Nat.le_refl _)] at g1
     have g4:=hW.frozen (j + i)
     have g2:=sl_atU (HM.out.2.1.grownM hgr hne) hlt
     have hx:=HM.out.2.2.1.nth i
     have hy:=HM.out.2.2.2.1.nth i
     have hst:=hT.step HM.out.2.2.1 HM.out.2.2.2.1 hgg (by rw [HM.out.2.2.2.2.2.2.2.1];omega)
     have hrow:=hW.set (i:=i) (by omega) (lessD (nth s i) ((c + gg * nth V i) % bB + b'))
     have hgr2:=grown_setCell hgr (j + i) (eU (lessD (nth s i) ((c + gg * nth V i) % bB + b')))
     generalize nth s i=x at *
     generalize nth V i=y at *
     have hf:=mul_fits hcB hgg hy bB_pos
     have hlo:(c + gg * y) % bB < bB:=Nat.mod_lt _ bB_pos
     have e1:=less_cell hx (show (c + gg * y) % bB + b'≤bB by omega)
     rw [Int.natCast_add] at e1
     rw [e1] at hrow hgr2
     have hprod:gg * y≤4294967295 * 4294967295:=Nat.mul_le_mul (by rw [bB_eq] at hgg;omega) (by rw [bB_eq] at hy;omega)
     have q0:((gg:Int) * (y:Int))=((gg * y:Nat):Int):=(Int.natCast_mul _ _).symm
     generalize gg * y=gy at *
     have q1:((c:Int) + (gy:Nat)) / 4294967296=(((c + gy) / bB:Nat):Int):=by rw [bB_eq];omega
     have q2:bits .and .u64 ((c:Int) + (gy:Nat)) 4294967295=(((c + gy) % bB:Nat):Int):=by
      have h1:(c:Int) + (gy:Nat)=((c + gy:Nat):Int):=by omega
      have h2:(4294967295:Int)=((4294967295:Nat):Int):=rfl
      rw [h1,h2,bits_and_u64_nat _ _ (by rw [bB_eq] at hf;omega) (by omega)]
      congr 1
      exact Nat.and_two_pow_sub_one_eq_mod (c + gy) 32
     have q3:(gy:Int) < 18446744073709551616:=by omega
     have q4:(c:Int) + (gy:Nat) < 18446744073709551616:=by rw [bB_eq] at hf;omega
     have q5:(0:Int)≤(gy:Nat):=by omega
     generalize (c + gy) / bB=hi' at *
     generalize (c + gy) % bB=lo at *
     have hx':(x:Int) < 4294967296:=by rw [bB_eq] at hx;omega
     have hy':(y:Int) < 4294967296:=by rw [bB_eq] at hy;omega
     have hlo':(lo:Int) < 4294967296:=by rw [bB_eq] at hlo;omega
     have hb1':(b':Int)≤1:=by omega
     have hlt':(i:Int) < (m:Nat):=by omega
     have hlt2:(i:Int) < (m:Int) + 1:=by omega
     have hi0:(0:Int)≤(i:Nat):=by omega
     have w1:=wrap_sub32 (x:Int) ((lo:Int) + (b':Nat))
     have w2:=wrap_sub32' (x:Int) ((lo:Int) + (b':Nat))
     have HS:=Lib.hid (And.intro hst (And.intro hrow hgr2))
     clear hst hrow hgr2 e1 hf hprod hT hW hgr hx hy hlo hcB
     by_cases hbo:x < lo + b'
     ·have j1:decide ((x:Int) < (lo:Int) + (b':Nat))=true:=by simp;omega
      have hc:lessC x (lo + b')=1:=if_pos hbo
      rw [hc] at HS
      clear hc
      go_wp2_with fail
      exact ⟨⟨i + 1,hi',1,_,rfl,rfl,by go_num,by omega,HS.out.1,HS.out.2.1,HS.out.2.2⟩,by simp [intOf];omega⟩
     ·have j1:decide ((x:Int) < (lo:Int) + (b':Nat))=false:=by simp;omega
      have hc:lessC x (lo + b')=0:=if_neg hbo
      rw [hc] at HS
      clear hc
      go_wp2_with fail
      exact ⟨⟨i + 1,hi',0,_,rfl,rfl,by go_num,by omega,HS.out.1,HS.out.2.1,HS.out.2.2⟩,by simp [intOf];omega⟩
   ·obtain rfl:i=m:=by omega
    have hdn:=hT.done HM.out.2.2.1 HM.out.2.2.2.2.2.2.2.1 HM.out.2.2.2.2.2.2.2.2
    have g1:=hW.cell (i:=i) (by omega)
    rw [hT.rest i (Nat.le_refl _),HM.out.2.2.2.2.2.2.1] at g1
    rw [HM.out.2.2.2.2.2.2.1] at hdn
    have g4:=hW.frozen (j + i)
    have hrow:=hW.set (i:=i) (by omega) (lessD u0 (c + b'))
    have hgr2:=grown_setCell hgr (j + i) (eU (lessD u0 (c + b')))
    have hu0:u0 < bB:=by rw [bB_eq];omega
    have e1:=less_cell hu0 (show c + b'≤bB by omega)
    rw [Int.natCast_add] at e1
    rw [e1] at hrow hgr2
    have hL:=hT.l32.set (show lessD u0 (c + b') < bB from Nat.mod_lt _ bB_pos) i
    have hcB':(c:Int) < 4294967296:=by rw [bB_eq] at hcB;omega
    have hb1':(b':Int)≤1:=by omega
    have w1:=wrap_sub32 (u0:Int) ((c:Int) + (b':Nat))
    have w2:=wrap_sub32' (u0:Int) ((c:Int) + (b':Nat))
    have hlt':¬ (i:Int) < (i:Nat):=by omega
    have HS:=Lib.hid (And.intro hdn (And.intro hrow (And.intro hgr2 (And.intro hL (show (t.set i (lessD u0 (c + b'))).length=i + 1 by rw [List.length_set];exact htl)))))
    have hBV:val V < bB ^ i:=by have:=val_lt HM.out.2.2.2.1;rwa [HM.out.2.2.2.2.2.2.2.2] at this
    have hBV1:bB ^ i≤bB ^ (i + 1):=Nat.pow_le_pow_right bB_pos (by omega)
    have hTl:=val_lt hL
    rw [List.length_set,htl] at hTl
    have HV:=Lib.hid (And.intro (show val V≤bB ^ (i + 1) by omega) hTl)
    clear hdn hrow hgr2 hL e1 hT hW hgr hcB hb1 hBV hBV1 hTl
    by_cases hbo:u0 < c + b'
    ·have j1:decide ((u0:Int) < (c:Int) + (b':Nat))=true:=by simp;omega
     have hc:lessC u0 (c + b')=1:=if_pos hbo
     rw [hc] at HS
     clear hc
     generalize ht1:t.set i (lessD u0 (c + b'))=t1 at *
     clear ht1
     have hg1:(1:Int)≤(gg:Nat):=by
      have h1:=HS.out.1
      rcases Nat.eq_zero_or_pos gg with h0 | h0
      ·exfalso
       rw [h0,Nat.zero_mul,Nat.add_zero,Nat.one_mul] at h1
       have:=HV.out.2
       omega
      ·omega
     go_wp2_with fail
     generalize (wb.setCell ⟨g,j + i,none⟩ (.int .u32 (((u0:Int) - ((c:Int) + (b':Nat))) % 4294967296)))=wc at *
     go_loopw [9,145] (fun c9 iv wr=>∃ (k c2:Nat) (t2:List Nat),c9=.int .u64 (c2:Int)∧iv=.int .i64 (k:Nat)∧k≤i∧BackAt t1 V t2 k c2∧Win wr g j a t2 b rest∧wa.grownBy wr (some g)) (fun _ iv _=>i - (intOf iv).toNat)
     case atStart=>exact ⟨0,0,t1,rfl,rfl,Nat.zero_le _,BackAt.start HS.out.2.2.2.1,HS.out.2.1,HS.out.2.2.1⟩
     case round=>as_aux_lemma =>
      obtain ⟨k,c2,t2,rfl,rfl,hk,hT,hW,hgr⟩:=hrel
      obtain ⟨wd,hwd⟩:∃ wd:World,wd=wr:=⟨_,rfl⟩
      subst hwd
      have htl2:=hT.len
      rw [HS.out.2.2.2.2] at htl2
      have hc1:=hT.c1
      by_cases hlk:k < i
      ·have g1:=hW.cell (i:=k) (by omega)
       rw [hT.rest k (Nat.le_refl _)] at g1
       have g4:=hW.frozen (j + k)
       have g2:=sl_atU (HM.out.2.1.grownM hgr hne) hlk
       have hx:=HS.out.2.2.2.1.nth k
       have hy:=HM.out.2.2.2.1.nth k
       have hst:=hT.step HS.out.2.2.2.1 HM.out.2.2.2.1 (by rw [HS.out.2.2.2.2];omega)
       have hrow:=hW.set (i:=k) (by omega) ((c2 + (nth t1 k + nth V k)) % bB)
       have hgr2:=grown_setCell hgr (j + k) (eU ((c2 + (nth t1 k + nth V k)) % bB))
       generalize nth t1 k=x at *
       generalize nth V k=y at *
       have e1:eU ((c2 + (x + y)) % bB)=.int .u32 (((c2:Int) + ((x:Int) + (y:Nat))) % 4294967296):=by unfold eU;rw [bB_eq];rfl
       rw [e1] at hrow hgr2
       have e2:(((c2 + (x + y)) / bB:Nat):Int)=((c2:Int) + ((x:Int) + (y:Nat))) / 4294967296:=by rw [bB_eq];omega
       have hx':(x:Int) < 4294967296:=by rw [bB_eq] at hx;omega
       have hy':(y:Int) < 4294967296:=by rw [bB_eq] at hy;omega
       have hlk':(k:Int) < (i:Nat):=by omega
       have hlk2:(k:Int) < (i:Int) + 1:=by omega
       have hi0:(0:Int)≤(k:Nat):=by omega
       have HX:=Lib.hid (And.intro hst (And.intro hrow (And.intro hgr2 e2)))
       clear hst hrow hgr2 e1 e2 hT hW hgr hx hy
       go_wp2_with fail
       exact ⟨⟨k + 1,_,_,by rw [HX.out.2.2.2],by go_num,by omega,HX.out.1,HX.out.2.1,HX.out.2.2.1⟩,by simp [intOf];omega⟩
      ·obtain rfl:k=i:=by omega
       obtain ⟨e,hbk⟩:=hT.done HS.out.2.2.2.2 HM.out.2.2.2.2.2.2.2.2
       have g1:=hW.cell (i:=k) (by omega)
       rw [hT.rest k (Nat.le_refl _)] at g1
       have g4:=hW.frozen (j + k)
       have hrow:=hW.set (i:=k) (by omega) ((nth t1 k + c2) % bB)
       have hgr2:=grown_setCell hgr (j + k) (eU ((nth t1 k + c2) % bB))
       have hL:=hT.l32.set (show (nth t1 k + c2) % bB < bB from Nat.mod_lt _ bB_pos) k
       have hWl:=val_lt hL
       rw [List.length_set,htl2] at hWl
       have hx:=HS.out.2.2.2.1.nth k
       have hbb:=digit_back HM.out.2.2.2.2.2.1 HV.out.1 HN.out.1 HV.out.2 HS.out.1 hWl hbk
       generalize nth t1 k=x at *
       rw [add_cell] at hrow hgr2
       have w3:=wrap_add32 (x:Int) (c2:Nat)
       have w4:=wrap_add32' (x:Int) (c2:Nat)
       have hx':(x:Int) < 4294967296:=by rw [bB_eq] at hx;omega
       have hlk':¬ (k:Int) < (k:Nat):=by omega
       have HX:=Lib.hid (And.intro hrow (And.intro hgr2 (And.intro hL (And.intro hbb (show (t2.set k ((x + c2) % bB)).length=k + 1 by rw [List.length_set];exact htl2)))))
       clear hrow hgr2 hL hbb hbk hWl hT hW hgr hx
       go_wp2_with fail
       go_ret
       exact ⟨_,by rw [← HX.out.2.2.2.1.2.1];exact ret_int (by have:=HX.out.2.2.2.1.1;omega),HX.out.1,HX.out.2.2.2.2,HX.out.2.2.1,HX.out.2.2.2.1.2.2,HX.out.2.1⟩
    ·have j1:decide ((u0:Int) < (c:Int) + (b':Nat))=false:=by simp;omega
     have hc:lessC u0 (c + b')=0:=if_neg hbo
     rw [hc] at HS
     clear hc
     have hrt:=digit_right HM.out.2.2.2.2.2.1 HN.out.1 HS.out.1
     have HR:=Lib.hid hrt
     clear hrt
     go_wp2_with fail
     go_ret
     exact ⟨_,by rw [← HR.out.1];rfl,HS.out.2.1,HS.out.2.2.2.2,HS.out.2.2.2.1,HR.out.2,HS.out.2.2.1⟩
end Go.Proofs.YtgbmnlmnhbkdbaaGreat
