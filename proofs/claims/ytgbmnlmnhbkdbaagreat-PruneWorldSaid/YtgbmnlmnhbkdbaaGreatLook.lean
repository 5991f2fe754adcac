/- sep.look, walked: a view, or why there is none. Conditions: the parents and the points read, within Go's bound. -/
import Derived.Test.YtgbmnlmnhbkdbaaGreatJ15
import Derived.Test.YtgbmnlmnhbkdbaaGreatJ17
set_option linter.unusedVariables false
set_option linter.unusedSimpArgs false
namespace Go.Proofs.YtgbmnlmnhbkdbaaGreat
open Go.RowKit

noncomputable def lookE (Ps:List (List Int)) (given named:List Int):Int:=if checkP Ps ≠ 0 then checkP Ps else if inRow Ps.length given=true∧inRow Ps.length named=true then 0 else 3
structure View (w:World) (G:List (List Nat)) (Z:List Int) (A B C D:Option Addr) (n k1 k2:Nat):Prop where
 par:Rows eN w A n G
 kid:Rows eN w B n (kids G)
 giv:ISet w C k1 Z
 abv:ISet w D k2 (castL (upList G (Z.map Int.toNat)))
instance {G:List (List Nat)} {Z:List Int} {A B C D:Option Addr} {n k1 k2:Nat}:Stable (fun w=>View w G Z A B C D n k1 k2):=
 ⟨fun hb h=>⟨h.par.below (Nat.le_refl _) hb,h.kid.below (Nat.le_refl _) hb,h.giv.below (Nat.le_refl _) hb,h.abv.below (Nat.le_refl _) hb⟩⟩
def LookPost (w:World) (A0:Option Addr) (n c0:Nat) (Ps:List (List Int)) (given named:List Int) (e:Ending) (w':World):Prop:=
 Below w.heap.size w w'∧∃ A na c B nb cb C k1 c1 D k2 c2,e=.returned (.tuple #[.agg #[.slice A na c,.slice B nb cb,.slice C k1 c1,.slice D k2 c2],.int .i64 (lookE Ps given named)]) ∧
  (lookE Ps given named=0→A=A0∧na=n∧c=c0∧nb=n∧View w' (toG Ps) given A B C D n k1 k2)
theorem lookE_bad1 {Ps:List (List Int)} {given named:List Int} (h:checkP Ps=0) (hb:inRow Ps.length given=false):lookE Ps given named=3:=by
 unfold lookE;rw [if_neg (by rw [h];simp),if_neg (by rw [hb];simp)]
theorem lookE_bad2 {Ps:List (List Int)} {given named:List Int} (h:checkP Ps=0) (hb:inRow Ps.length named=false):lookE Ps given named=3:=by
 unfold lookE;rw [if_neg (by rw [h];simp),if_neg (by rw [hb];simp)]
theorem lookE_ok {Ps:List (List Int)} {given named:List Int} (h:checkP Ps=0) (h1:inRow Ps.length given=true) (h2:inRow Ps.length named=true):lookE Ps given named=0:=by
 unfold lookE;rw [if_neg (by rw [h];simp),if_pos ⟨h1,h2⟩]
theorem lookE_check {Ps:List (List Int)} {given named:List Int} (h:checkP Ps ≠ 0):lookE Ps given named=checkP Ps:=by unfold lookE;rw [if_pos h]
theorem lookE_inv {Ps:List (List Int)} {given named:List Int} (h:lookE Ps given named=0):checkP Ps=0∧inRow Ps.length given=true∧inRow Ps.length named=true:=by
 unfold lookE at h
 split at h
 ·exact absurd h ‹_›
 ·split at h
  ·exact ⟨Classical.not_not.1 ‹_›,‹_›⟩
  ·omega

theorem RowC.put4 {w:World} {g:Nat} {e:TypeId} {a b c d:Value} (h:RowC w g e [a,b,c,d]) (v0 v1 v2 v3:Value) :
 RowC ((((w.setCell ⟨g,0,none⟩ v0).setCell ⟨g,1,none⟩ v1).setCell ⟨g,2,none⟩ v2).setCell ⟨g,3,none⟩ v3) g e [v0,v1,v2,v3]:=(((h.put 0 v0).put 1 v1).put 2 v2).put 3 v3
theorem below_put4 {B:Nat} {a w:World} (h:Below B a w) {g:Nat} (hg:B≤g) (v0 v1 v2 v3:Value) :
 Below B a ((((w.setCell ⟨g,0,none⟩ v0).setCell ⟨g,1,none⟩ v1).setCell ⟨g,2,none⟩ v2).setCell ⟨g,3,none⟩ v3):=
 (((h.setCell (p:=⟨g,0,none⟩) hg v0).setCell (p:=⟨g,1,none⟩) hg v1).setCell (p:=⟨g,2,none⟩) hg v2).setCell (p:=⟨g,3,none⟩) hg v3

set_option maxRecDepth 100000 in
set_option maxHeartbeats 4000000 in
theorem look_any (A B0 C0:Option Addr) (n c m1 d1 m2 d2:Nat) (Ps:List (List Int)) (given named:List Int) (w:World) (h:Rows (Value.int .i64) w A n Ps) (hg:Sl (Value.int .i64) w B0 m1 given) (hm:Sl (Value.int .i64) w C0 m2 named)
 (hn:n * 24≤140737488351232) (hgb:m1 * 8≤140737488355328):Calls Tryz.prog 33 #[.slice A n c,.slice B0 m1 d1,.slice C0 m2 d2] w (LookPost w A n c Ps given named):=by
 have hg1:=hg.big
 have hm1:=hm.big
 have HL:=Lib.hid (And.intro h.len (And.intro hg.len hm.len))
 have HP:=Lib.hid h
 have H1:=(((Held.init w).and (Q:=fun w=>Rows (Value.int .i64) w A n Ps) h).sl hg).sl hm
 have H2:=H1.new 68 [.slice none 0 0,.slice none 0 0,.slice none 0 0,.slice none 0 0]
 clear H1 h hg hm
 obtain ⟨wa,hwa⟩:∃ wa:World,wa=w:=⟨_,rfl⟩
 subst hwa
 generalize hp:wa.heap.size=p at *
 go_enter Tryz.func33,Tryz.ntmps33
 go_wp2_with fail
 have hpar:=H2.has.2.2.2.1
 refine (check_dag A n c Ps _ hpar hn).mono ?_
 rintro e w1 ⟨rfl,hb⟩
 have H3:=H2.step hb
 clear H2 hb hpar
 by_cases hf:checkP Ps=0
 ·have HF:=Lib.hid hf
  rw [hf]
  clear hf
  have hsz1:=H3.has.1.lt
  have H4:=H3.new 23 [.slice B0 m1 d1,.slice C0 m2 d2]
  have r0:=H4.has.1.cell 0
  have r1:=H4.has.1.cell 1
  have rr0:=H4.has.2.1.cell 0
  have rr1:=H4.has.2.1.cell 1
  have rr2:=H4.has.2.1.cell 2
  have rr3:=H4.has.2.1.cell 3
  have ff0:=H4.has.2.1.frozen 0
  have ff1:=H4.has.2.1.frozen 1
  have ff2:=H4.has.2.1.frozen 2
  have ff3:=H4.has.2.1.frozen 3
  clear H3
  go_wp2_with fail
  generalize w1.alloc (.cells #[.slice B0 m1 d1,.slice C0 m2 d2] 23)=w2 at *
  generalize hq1:w1.heap.size=p1 at *
  go_loopw [27] (fun i wr=>∃ k:Nat,i=.int .i64 (k:Nat)∧k≤2∧(1≤k→inRow n given=true)∧(2≤k→inRow n named=true)∧wr=w2) (fun i _=>2 - (intOf i).toNat)
  case atStart=>exact ⟨0,rfl,by omega,fun h=>by omega,fun h=>by omega,rfl⟩
  case round =>
   obtain ⟨k,rfl,hk,hin1,hin2,hwr⟩:=hrel
   have hwr:=hwr.symm
   subst hwr
   have HI:=Lib.hid (And.intro hin1 hin2);clear hin1 hin2
   rcases (show k=0 ∨ k=1 ∨ k=2 from by omega) with rfl | rfl | rfl
   ·have hsl:=H4.has.2.2.2.1
    go_wp2_with fail
    go_loopw [33] (fun j wr=>∃ q:Nat,j=.int .i64 (q:Nat)∧q≤m1∧inRow n (given.take q)=true∧wr=w2) (fun j _=>m1 - (intOf j).toNat)
    case atStart=>exact ⟨0,rfl,Nat.zero_le _,rfl,rfl⟩
    case round =>
     obtain ⟨q,rfl,hq,hin,hwr⟩:=hrel
     have hwr:=hwr.symm
     subst hwr
     by_cases hqm:q < m1
     ·obtain ⟨b2,off2,rfl,_,hc⟩:=hsl.at' (by omega)
      have g2:=hc q hqm
      have hql:q < given.length:=by rw [hsl.len];exact hqm
      have hsn:=all_inRow_snoc (n:=n) hql
      rw [hin,Bool.true_and] at hsn
      have hbad:¬ (0≤nth given q∧nth given q < (n:Int))→lookE Ps given named=3:=fun hb=>by
       refine lookE_bad1 HF.out ?_
       rw [HL.out.1]
       refine all_down _ hql ?_
       simp only [Bool.and_eq_false_iff,decide_eq_false_iff_not];omega
      have HS:=Lib.hid (And.intro hbad hsn);clear hbad hsn hc hin hql
      generalize hs:nth given q=s at *
      by_cases hs0:s < 0
      ·have HC:=Lib.hid (HS.out.1 (by omega))
       go_wp2_with fail
       have hz:=H4.has.2.1.put4 (.slice none 0 0) (.slice none 0 0) (.slice none 0 0) (.slice none 0 0)
       have hzb:=below_put4 H4.bel (Nat.le_of_eq hp) (.slice none 0 0) (.slice none 0 0) (.slice none 0 0) (.slice none 0 0)
       generalize (((w2.setCell ⟨p,0,none⟩ (.slice none 0 0)).setCell ⟨p,1,none⟩ (.slice none 0 0)).setCell ⟨p,2,none⟩ (.slice none 0 0)).setCell ⟨p,3,none⟩ (.slice none 0 0)=wz at *
       have z0:=hz.cell 0
       have z1:=hz.cell 1
       have z2:=hz.cell 2
       have z3:=hz.cell 3
       exact bodyPost_ret (v:=.tuple #[.agg #[.slice none 0 0,.slice none 0 0,.slice none 0 0,.slice none 0 0],.int .i64 3]) (by simp [results,Tryz.results33,go_sem,z0,z1,z2,z3]) rfl ⟨hzb,none,0,0,none,0,0,none,0,0,none,0,0,by rw [HC.out],fun h0=>(by rw [HC.out] at h0;cases h0)⟩
      ·by_cases hs1:(n:Int)≤s
       ·have HC:=Lib.hid (HS.out.1 (by omega))
        go_wp2_with fail
        have hz:=H4.has.2.1.put4 (.slice none 0 0) (.slice none 0 0) (.slice none 0 0) (.slice none 0 0)
        have hzb:=below_put4 H4.bel (Nat.le_of_eq hp) (.slice none 0 0) (.slice none 0 0) (.slice none 0 0) (.slice none 0 0)
        generalize (((w2.setCell ⟨p,0,none⟩ (.slice none 0 0)).setCell ⟨p,1,none⟩ (.slice none 0 0)).setCell ⟨p,2,none⟩ (.slice none 0 0)).setCell ⟨p,3,none⟩ (.slice none 0 0)=wz at *
        have z0:=hz.cell 0
        have z1:=hz.cell 1
        have z2:=hz.cell 2
        have z3:=hz.cell 3
        exact bodyPost_ret (v:=.tuple #[.agg #[.slice none 0 0,.slice none 0 0,.slice none 0 0,.slice none 0 0],.int .i64 3]) (by simp [results,Tryz.results33,go_sem,z0,z1,z2,z3]) rfl ⟨hzb,none,0,0,none,0,0,none,0,0,none,0,0,by rw [HC.out],fun h0=>(by rw [HC.out] at h0;cases h0)⟩
       ·have HC:=Lib.hid (show inRow n (given.take (q + 1))=true by rw [HS.out.2];simp;omega)
        clear hs
        go_wp2_with fail
        exact ⟨⟨q + 1,by go_num,by omega,HC.out,trivial⟩,by simp [intOf];omega⟩
     ·obtain rfl:q=m1:=by omega
      have hall:inRow n given=true:=by rw [take_all (by rw [hsl.len];exact Nat.le_refl _)] at hin;exact hin
      have HC:=Lib.hid hall;clear hall hin
      go_wp2_with fail
      exact ⟨⟨1,by go_num,by omega,fun _=>HC.out,fun h=>by omega,trivial⟩,by simp [intOf]⟩
   ·have hsl:=H4.has.2.2.1
    go_wp2_with fail
    go_loopw [33] (fun j wr=>∃ q:Nat,j=.int .i64 (q:Nat)∧q≤m2∧inRow n (named.take q)=true∧wr=w2) (fun j _=>m2 - (intOf j).toNat)
    case atStart=>exact ⟨0,rfl,Nat.zero_le _,rfl,rfl⟩
    case round =>
     obtain ⟨q,rfl,hq,hin,hwr⟩:=hrel
     have hwr:=hwr.symm
     subst hwr
     by_cases hqm:q < m2
     ·obtain ⟨b2,off2,rfl,_,hc⟩:=hsl.at' (by omega)
      have g2:=hc q hqm
      have hql:q < named.length:=by rw [hsl.len];exact hqm
      have hsn:=all_inRow_snoc (n:=n) hql
      rw [hin,Bool.true_and] at hsn
      have hbad:¬ (0≤nth named q∧nth named q < (n:Int))→lookE Ps given named=3:=fun hb=>by
       refine lookE_bad2 HF.out ?_
       rw [HL.out.1]
       refine all_down _ hql ?_
       simp only [Bool.and_eq_false_iff,decide_eq_false_iff_not];omega
      have HS:=Lib.hid (And.intro hbad hsn);clear hbad hsn hc hin hql
      generalize hs:nth named q=s at *
      by_cases hs0:s < 0
      ·have HC:=Lib.hid (HS.out.1 (by omega))
       go_wp2_with fail
       have hz:=H4.has.2.1.put4 (.slice none 0 0) (.slice none 0 0) (.slice none 0 0) (.slice none 0 0)
       have hzb:=below_put4 H4.bel (Nat.le_of_eq hp) (.slice none 0 0) (.slice none 0 0) (.slice none 0 0) (.slice none 0 0)
       generalize (((w2.setCell ⟨p,0,none⟩ (.slice none 0 0)).setCell ⟨p,1,none⟩ (.slice none 0 0)).setCell ⟨p,2,none⟩ (.slice none 0 0)).setCell ⟨p,3,none⟩ (.slice none 0 0)=wz at *
       have z0:=hz.cell 0
       have z1:=hz.cell 1
       have z2:=hz.cell 2
       have z3:=hz.cell 3
       exact bodyPost_ret (v:=.tuple #[.agg #[.slice none 0 0,.slice none 0 0,.slice none 0 0,.slice none 0 0],.int .i64 3]) (by simp [results,Tryz.results33,go_sem,z0,z1,z2,z3]) rfl ⟨hzb,none,0,0,none,0,0,none,0,0,none,0,0,by rw [HC.out],fun h0=>(by rw [HC.out] at h0;cases h0)⟩
      ·by_cases hs1:(n:Int)≤s
       ·have HC:=Lib.hid (HS.out.1 (by omega))
        go_wp2_with fail
        have hz:=H4.has.2.1.put4 (.slice none 0 0) (.slice none 0 0) (.slice none 0 0) (.slice none 0 0)
        have hzb:=below_put4 H4.bel (Nat.le_of_eq hp) (.slice none 0 0) (.slice none 0 0) (.slice none 0 0) (.slice none 0 0)
        generalize (((w2.setCell ⟨p,0,none⟩ (.slice none 0 0)).setCell ⟨p,1,none⟩ (.slice none 0 0)).setCell ⟨p,2,none⟩ (.slice none 0 0)).setCell ⟨p,3,none⟩ (.slice none 0 0)=wz at *
        have z0:=hz.cell 0
        have z1:=hz.cell 1
        have z2:=hz.cell 2
        have z3:=hz.cell 3
        exact bodyPost_ret (v:=.tuple #[.agg #[.slice none 0 0,.slice none 0 0,.slice none 0 0,.slice none 0 0],.int .i64 3]) (by simp [results,Tryz.results33,go_sem,z0,z1,z2,z3]) rfl ⟨hzb,none,0,0,none,0,0,none,0,0,none,0,0,by rw [HC.out],fun h0=>(by rw [HC.out] at h0;cases h0)⟩
       ·have HC:=Lib.hid (show inRow n (named.take (q + 1))=true by rw [HS.out.2];simp;omega)
        clear hs
        go_wp2_with fail
        exact ⟨⟨q + 1,by go_num,by omega,HC.out,trivial⟩,by simp [intOf];omega⟩
     ·obtain rfl:q=m2:=by omega
      have hall:inRow n named=true:=by rw [take_all (by rw [hsl.len];exact Nat.le_refl _)] at hin;exact hin
      have HC:=Lib.hid hall;clear hall hin
      go_wp2_with fail
      exact ⟨⟨2,by go_num,by omega,fun _=>HI.out.1 (by omega),fun _=>HC.out,trivial⟩,by simp [intOf]⟩
   ·have hi1:=HI.out.1 (by omega)
    have hi2:=HI.out.2 (by omega)
    have H5:=H4
    clear H4
    have hpar:=H5.has.2.2.2.2.1
    go_wp2_with fail
    refine (childrenC_any A n c Ps _ hpar hn).mono ?_
    rintro e w3 ⟨B,nb,db,rfl,hk2,hb⟩
    obtain ⟨hnb,hkids⟩:=hk2 HF.out
    clear hk2
    obtain rfl:n=nb:=hnb.symm
    rw [HF.out]
    have H6:=(H5.step hb).and (Q:=fun w=>RowsF (p + 1) eN w B n (kids (toG Ps))) (hkids.mono H5.has.2.1.lt)
    clear H5 hb hkids hpar
    have hpar:=H6.has.2.2.2.2.2.1
    have hgiv:=H6.has.2.2.2.2.1
    go_wp2_with fail
    refine (above_any A B0 n c m1 d1 Ps given _ hpar hgiv hn).mono ?_
    rintro e w4 ⟨hb,D,kD,dD,rfl,habv,_⟩
    have hae:aboveE Ps given=0:=by unfold aboveE;rw [if_neg (by rw [HF.out];simp),HL.out.1,if_pos hi1]
    have habv:=habv hae
    rw [hae]
    have hkD:kD≤n:=by
     have h1:=habv.len
     have h2:=ptsOf_length_le (toG Ps).length (Up (toG Ps) (· ∈ given.map Int.toNat))
     rw [toG_length,HL.out.1] at h2
     unfold upList at h1
     rw [toG_length,HL.out.1] at h1
     omega
    have H7:=(H6.step hb).sl habv.toInt
    clear H6 hb habv hpar hgiv hae
    have hgiv:=H7.has.2.2.2.2.2.1
    go_wp2_with fail
    refine (of_I B0 m1 d1 given _ hgiv hgb).mono ?_
    rintro e w5 ⟨C,kC,cC,rfl,hset,_,hb⟩
    have H8:=(H7.step hb).and (Q:=fun w=>ISetF (p + 1) w C kC given) (hset.mono H7.has.2.2.2.1.lt)
    clear H7 hb hset hgiv
    have habv:=H8.has.2.1
    go_wp2_with fail
    refine (of_I D kD dD _ _ habv (by omega)).mono ?_
    rintro e w6 ⟨E,kE,cE,rfl,hset,_,hb⟩
    have H9:=(H8.step hb).and (Q:=fun w=>ISetF (p + 1) w E kE (castL (upList (toG Ps) (given.map Int.toNat)))) (hset.mono H8.has.2.2.2.2.1.lt)
    clear H8 hb hset habv
    have hrow:=H9.has.2.2.2.2.2.1
    have rr0:=hrow.cell 0
    have rr1:=hrow.cell 1
    have rr2:=hrow.cell 2
    have rr3:=hrow.cell 3
    have ff0:=hrow.frozen 0
    have ff1:=hrow.frozen 1
    have ff2:=hrow.frozen 2
    have ff3:=hrow.frozen 3
    clear hrow
    go_wp2_with fail
    have hz:=H9.has.2.2.2.2.2.1.put4 (.slice A n c) (.slice B n db) (.slice C kC cC) (.slice E kE cE)
    have hzb:=below_put4 H9.bel (Nat.le_of_eq hp) (.slice A n c) (.slice B n db) (.slice C kC cC) (.slice E kE cE)
    have hput:∀ (Q:World→Prop),(∀ w (a:Addr) v,a.block=p→Q w→Q (w.setCell a v))→Q w6→Q ((((w6.setCell ⟨p,0,none⟩ (.slice A n c)).setCell ⟨p,1,none⟩ (.slice B n db)).setCell ⟨p,2,none⟩ (.slice C kC cC)).setCell ⟨p,3,none⟩ (.slice E kE cE)):=
     fun Q hQ h0=>hQ _ _ _ rfl (hQ _ _ _ rfl (hQ _ _ _ rfl (hQ _ _ _ rfl h0)))
    have hkF:=hput (fun w=>RowsF (p + 1) eN w B n (kids (toG Ps))) (fun w a v ha h=>h.setLow (by omega) v) H9.has.2.2.2.1
    have hgF:=hput (fun w=>ISetF (p + 1) w C kC given) (fun w a v ha h=>h.setLow (by omega) v) H9.has.2.1
    have haF:=hput (fun w=>ISetF (p + 1) w E kE (castL (upList (toG Ps) (given.map Int.toNat)))) (fun w a v ha h=>h.setLow (by omega) v) H9.has.1
    have HV:=Lib.hid (And.intro hkF (And.intro hgF haF));clear hkF hgF haF hput
    generalize (((w6.setCell ⟨p,0,none⟩ (.slice A n c)).setCell ⟨p,1,none⟩ (.slice B n db)).setCell ⟨p,2,none⟩ (.slice C kC cC)).setCell ⟨p,3,none⟩ (.slice E kE cE)=wz at *
    have z0:=hz.cell 0
    have z1:=hz.cell 1
    have z2:=hz.cell 2
    have z3:=hz.cell 3
    have hl0:lookE Ps given named=0:=lookE_ok HF.out (by rw [HL.out.1];exact hi1) (by rw [HL.out.1];exact hi2)
    obtain ⟨hr,_,_⟩:=checkP_ok HF.out
    refine bodyPost_ret (v:=.tuple #[.agg #[.slice A n c,.slice B n db,.slice C kC cC,.slice E kE cE],.int .i64 0]) (by simp [results,Tryz.results33,go_sem,z0,z1,z2,z3]) rfl ⟨hzb,A,n,c,B,n,db,C,kC,cC,E,kE,cE,by rw [hl0],fun _=>⟨rfl,rfl,rfl,rfl,?_⟩⟩
    have hV:=HV.out
    exact ⟨(HP.out.below (Nat.le_refl _) hzb).toNat hr,hV.1.rows,hV.2.1.1,hV.2.2.1⟩
 ·have HE:=Lib.hid (lookE_check (given:=given) (named:=named) hf)
  have hle:=checkP_le Ps
  have hz:=H3.has.1
  have rr0:=hz.cell 0
  have rr1:=hz.cell 1
  have rr2:=hz.cell 2
  have rr3:=hz.cell 3
  have ff0:=hz.frozen 0
  have ff1:=hz.frozen 1
  have ff2:=hz.frozen 2
  have ff3:=hz.frozen 3
  have HC:=HE
  clear hz
  go_wp2_with fail
  have hz:=H3.has.1.put4 (.slice none 0 0) (.slice none 0 0) (.slice none 0 0) (.slice none 0 0)
  have hzb:=below_put4 H3.bel (Nat.le_of_eq hp) (.slice none 0 0) (.slice none 0 0) (.slice none 0 0) (.slice none 0 0)
  generalize (((w1.setCell ⟨p,0,none⟩ (.slice none 0 0)).setCell ⟨p,1,none⟩ (.slice none 0 0)).setCell ⟨p,2,none⟩ (.slice none 0 0)).setCell ⟨p,3,none⟩ (.slice none 0 0)=wz at *
  have z0:=hz.cell 0
  have z1:=hz.cell 1
  have z2:=hz.cell 2
  have z3:=hz.cell 3
  exact bodyPost_ret (v:=.tuple #[.agg #[.slice none 0 0,.slice none 0 0,.slice none 0 0,.slice none 0 0],.int .i64 (checkP Ps)]) (by simp [results,Tryz.results33,go_sem,z0,z1,z2,z3]) rfl ⟨hzb,none,0,0,none,0,0,none,0,0,none,0,0,by rw [HC.out],fun h0=>absurd (HC.out.symm.trans h0) hf⟩
end Go.Proofs.YtgbmnlmnhbkdbaaGreat
