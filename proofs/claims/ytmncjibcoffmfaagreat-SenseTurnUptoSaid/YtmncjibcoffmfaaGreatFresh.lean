/- credenceref20.Fresh, walked, on numbers whose lists are a family, each in a block of its own. Conditions: within Go's bound. -/
import Derived.Test.YtmncjibcoffmfaaGreatJ22
set_option linter.unusedVariables false
set_option linter.unusedSimpArgs false
namespace Go.Proofs.YtmncjibcoffmfaaGreat
open Go.RowKit

theorem eimNat:EIM Tryz.prog 32 54 (.int .u32 0) 1 4:=.mk' Tryz.underlying32 (by kernel_rfl) rfl (by omega) (by omega)
abbrev kA:Key:=(10,0,0)
def hdC (M:Key→Lst) (neg:Nat × Nat→Bool) (q:Nat × Nat):List Value:=[.bool (neg q),.slice (M (kn q.1 q.2)).A (M (kn q.1 q.2)).n (M (kn q.1 q.2)).c,.slice (M (kd q.1 q.2)).A (M (kd q.1 q.2)).n (M (kd q.1 q.2)).c]
def hdE (M:Key→Lst) (neg:Nat × Nat→Bool):Enc (Nat × Nat) 3:=⟨hdC M neg,fun _=>rfl,fun q u hu=>by
 simp only [hdC,List.mem_cons,List.not_mem_nil,or_false] at hu
 rcases hu with rfl | rfl | rfl <;> rfl⟩
def Far78 (C C':Key→List Value):Prop:=∀ k:Key,k.1 ≠ 7→k.1 ≠ 8→C' k=C k
structure AllAt (M:Key→Lst) (C:Key→List Value) (K:List (Nat × Nat)) (neg:Nat × Nat→Bool):Prop where
 s:(M kA).s=3
 n:(M kA).n=K.length
 cs:C kA=K.flatMap (hdE M neg).cells
 num:∀ q,q ∈ K→(M (kn q.1 q.2)).e=54∧(M (kn q.1 q.2)).s=1∧(M (kn q.1 q.2)).n≤1000000000000
 den:∀ q,q ∈ K→(M (kd q.1 q.2)).e=54∧(M (kd q.1 q.2)).s=1∧(M (kd q.1 q.2)).n≤1000000000000
 nd:K.Nodup
 big:K.length≤1000000000
section
variable {w0 w w':World} {S:Nat→Prop} {lo:Nat} {M:Key→Lst} {C C':Key→List Value} {K:List (Nat × Nat)} {neg:Nat × Nat→Bool}
theorem AllAt.cells (a:AllAt M C K neg) (hC:C' kA=C kA) (h:OwnS w0 S lo M C' w) {p:Nat} (hp:p < K.length):∃ g,(M kA).A=some ⟨g,0,none⟩∧g < w.heap.size ∧
 w.cell? ⟨g,p * 3 + 1,none⟩=some (.slice (M (kn (nth K p).1 (nth K p).2)).A (M (kn (nth K p).1 (nth K p).2)).n (M (kn (nth K p).1 (nth K p).2)).c) ∧
 w.cell? ⟨g,p * 3 + 2,none⟩=some (.slice (M (kd (nth K p).1 (nth K p).2)).A (M (kd (nth K p).1 (nth K p).2)).n (M (kd (nth K p).1 (nth K p).2)).c):=by
 have hn:=a.n
 have hs:=a.s
 obtain ⟨g,e,_,hg,_,hc⟩:=h.at kA (by omega)
 rw [hn,hs] at hc
 refine ⟨g,e,hg,?_,?_⟩
 ·rw [hc _ (by omega),hC,a.cs,flat_nth _ _ _ _ hp (by omega)];rfl
 ·rw [hc _ (by omega),hC,a.cs,flat_nth _ _ _ _ hp (by omega)];rfl
theorem OwnS.fill {k:Key} {t g:Nat} {v:Value} (h:OwnS w0 S lo M (updC C k (fillL (C k) t v)) w) (hg:(M k).A=some ⟨g,0,none⟩) (ht:t < (C k).length):OwnS w0 S lo M (updC C k (fillL (C k) (t + 1) v)) (w.setCell ⟨g,t,none⟩ v):=by
 have h1:=h.put k hg t [v]
 rw [updC_twice,updC_same,fillL_set _ _ _ ht] at h1
 exact h1
structure FillTo (M:Key→Lst) (C C':Key→List Value) (K:List (Nat × Nat)) (p:Nat):Prop where
 far:∀ k:Key,k.1 ≠ 7→k.1 ≠ 8→C' k=C k
 num:∀ r,r < p→C' (kn (nth K r).1 (nth K r).2)=List.replicate (M (kn (nth K r).1 (nth K r).2)).n (.int .u32 ((1000 + 2 * r:Nat):Int))
 den:∀ r,r < p→C' (kd (nth K r).1 (nth K r).2)=List.replicate (M (kd (nth K r).1 (nth K r).2)).n (.int .u32 ((1001 + 2 * r:Nat):Int))
theorem nth_nodup {K:List (Nat × Nat)} (h:K.Nodup) {i j:Nat} (hi:i < K.length) (hj:j < K.length) (hne:i ≠ j):nth K i ≠ nth K j:=fun e=>by
 rw [nth_eq hi,nth_eq hj] at e
 have hp:=List.pairwise_iff_getElem.1 h
 rcases Nat.lt_or_gt_of_ne hne with h1 | h1
 ·exact hp i j hi hj h1 e
 ·exact hp j i hj hi h1 e.symm
theorem kn_ne {q r:Nat × Nat} (h:q ≠ r):kn q.1 q.2 ≠ kn r.1 r.2:=fun e=>by
 injection e with _ e
 injection e with e1 e2
 exact h (Prod.ext e1 e2)
theorem kd_ne {q r:Nat × Nat} (h:q ≠ r):kd q.1 q.2 ≠ kd r.1 r.2:=fun e=>by
 injection e with _ e
 injection e with e1 e2
 exact h (Prod.ext e1 e2)
theorem FillTo.next {p:Nat} (f:FillTo M C C' K p) (a:AllAt M C K neg) (hp:p < K.length) {C2:Key→List Value} (hC2:C2=updC (updC C' (kn (nth K p).1 (nth K p).2) (List.replicate (M (kn (nth K p).1 (nth K p).2)).n (.int .u32 ((1000 + 2 * p:Nat):Int)))) (kd (nth K p).1 (nth K p).2) (List.replicate (M (kd (nth K p).1 (nth K p).2)).n (.int .u32 ((1001 + 2 * p:Nat):Int)))):FillTo M C C2 K (p + 1):=by
 subst hC2
 refine ⟨fun k h7 h8=>?_,fun r hr=>?_,fun r hr=>?_⟩
 ·rw [updC_ne _ _ (fun e=>h8 (by rw [e])),updC_ne _ _ (fun e=>h7 (by rw [e]))]
  exact f.far k h7 h8
 ·rw [updC_ne _ _ (kne (by omega))]
  by_cases e:r=p
  ·subst e;rw [updC_same]
  ·rw [updC_ne _ _ (kn_ne (nth_nodup a.nd (by omega) hp e))]
   exact f.num r (by omega)
 ·by_cases e:r=p
  ·subst e;rw [updC_same]
  ·rw [updC_ne _ _ (kd_ne (nth_nodup a.nd (by omega) hp e)),updC_ne _ _ (kne (by omega))]
   exact f.den r (by omega)
end
set_option maxRecDepth 100000 in
set_option maxHeartbeats 4000000 in
theorem fresh_any (w0:World) (S:Nat→Prop) (lo:Nat) (M:Key→Lst) (C:Key→List Value) (K:List (Nat × Nat)) (neg:Nat × Nat→Bool) (w:World) (h:OwnS w0 S lo M C w) (a:AllAt M C K neg) (hlo:lo≤w.heap.size) :
 Calls Tryz.prog 28 #[.slice (M kA).A (M kA).n (M kA).c] w fun e w'=>e=.returned (.bool true)∧∃ C',OwnS w0 S lo M C' w'∧Far78 C C':=by
 have hn:=a.n
 have hbig:=a.big
 obtain ⟨AA,hAA⟩:∃ A,A=(M kA).A:=⟨_,rfl⟩
 obtain ⟨cA,hcA⟩:∃ A,A=(M kA).c:=⟨_,rfl⟩
 rw [hn,← hAA,← hcA]
 obtain ⟨n,hK⟩:∃ n,n=K.length:=⟨_,rfl⟩
 rw [← hK] at hbig ⊢
 have hcap:n≤cA:=by rw [hcA,hK,← hn];exact h.cap kA
 have HA:=Lib.hid (And.intro a (And.intro hAA (And.intro hK hlo)))
 have HO:=Lib.hid h
 have hC0:C kA=C kA:=rfl
 clear hn a hAA hcA hK h hC0 hlo
 have hnI:(n:Int)≤1000000000:=by omega
 go_enter Tryz.func28,Tryz.ntmps28
 go_wp2_with fail
 go_loopw [4,3] (fun i m wr=>∃ (p mk:Nat) (C':Key→List Value),p≤n∧mk=1000 + 2 * p∧i=.int .i64 (p:Nat)∧m=.int .u32 (mk:Nat)∧FillTo M C C' K p∧OwnS w0 S lo M C' wr) (fun i _ _=>n - (intOf i).toNat)
 case atStart=>exact ⟨0,1000,C,by omega,by omega,rfl,rfl,⟨fun _ _ _=>rfl,fun r hr=>absurd hr (Nat.not_lt_zero r),fun r hr=>absurd hr (Nat.not_lt_zero r)⟩,HO.out⟩
 case round =>
  obtain ⟨p,mk,C',hp,hmk,rfl,rfl,hf,hO⟩:=hrel
  have hmkb:mk≤2000001000:=by omega
  have hmkI:(mk:Int)≤2000001000:=by omega
  have HM:=Lib.hid hmk
  clear hmk
  by_cases hpn:p < n
  ·as_aux_lemma =>
   have hCA:C' kA=C kA:=hf.far kA (by decide) (by decide)
   obtain ⟨mk1,hmk1⟩:∃ m:Nat,m=mk + 1:=⟨_,rfl⟩
   obtain ⟨mk2,hmk2⟩:∃ m:Nat,m=mk + 2:=⟨_,rfl⟩
   have hw1:IntKind.u32.wrap ((mk:Int) + 1)=(mk1:Int):=by simp only [IntKind.wrap_u32];omega
   have hw2:IntKind.u32.wrap ((mk:Int) + 2)=(mk2:Int):=by simp only [IntKind.wrap_u32];omega
   have hpK:p < K.length:=by rw [← HA.out.2.2.1];exact hpn
   have hpI:(p:Int) < (n:Int):=by omega
   have hbn:=HA.out.1.num _ (nth_mem (xs:=K) hpK)
   have hbd:=HA.out.1.den _ (nth_mem (xs:=K) hpK)
   have hcells:=fun {y:World} {C':Key→List Value} (hC:C' kA=C kA) (h:OwnS w0 S lo M C' y)=>HA.out.1.cells hC h hpK
   have e0:=HA.out.2.1
   obtain ⟨k1,hk1⟩:∃ k,k=kn (nth K p).1 (nth K p).2:=⟨_,rfl⟩
   obtain ⟨k2,hk2⟩:∃ k,k=kd (nth K p).1 (nth K p).2:=⟨_,rfl⟩
   have h1A:kA ≠ k1:=by rw [hk1];exact kne (by omega)
   have h2A:kA ≠ k2:=by rw [hk2];exact kne (by omega)
   have h21:k2 ≠ k1:=by rw [hk1,hk2];exact kne (by omega)
   rw [← hk1] at hbn
   rw [← hk2] at hbd
   rw [← hk1,← hk2] at hcells
   obtain ⟨gA,eA,hgA,c1,c2⟩:=hcells hCA hO
   rw [← e0] at eA
   subst eA
   obtain ⟨A1,hA1⟩:∃ A,A=(M k1).A:=⟨_,rfl⟩
   obtain ⟨n1,hn1⟩:∃ A,A=(M k1).n:=⟨_,rfl⟩
   obtain ⟨d1,hd1⟩:∃ A,A=(M k1).c:=⟨_,rfl⟩
   obtain ⟨A2,hA2⟩:∃ A,A=(M k2).A:=⟨_,rfl⟩
   obtain ⟨n2,hn2⟩:∃ A,A=(M k2).n:=⟨_,rfl⟩
   obtain ⟨d2,hd2⟩:∃ A,A=(M k2).c:=⟨_,rfl⟩
   rw [← hA1,← hn1,← hd1] at c1
   rw [← hA2,← hn2,← hd2] at c2
   have hcell2:∀ (y:World) (C':Key→List Value),C' kA=C kA→OwnS w0 S lo M C' y→gA < y.heap.size∧y.cell? ⟨gA,p * 3 + 1,none⟩=some (.slice A1 n1 d1)∧y.cell? ⟨gA,p * 3 + 2,none⟩=some (.slice A2 n2 d2):=fun y C' hC h=>by
    obtain ⟨g,eg,hg,r1,r2⟩:=hcells hC h
    rw [← e0] at eg
    injection eg with eg
    injection eg with eg
    subst eg
    rw [hA1,hn1,hd1,hA2,hn2,hd2]
    exact ⟨hg,r1,r2⟩
   have hcap1:n1≤d1:=by rw [hn1,hd1];exact hO.cap k1
   have hcap2:n2≤d2:=by rw [hn2,hd2];exact hO.cap k2
   have hb1:n1≤1000000000000:=by rw [hn1];exact hbn.2.2
   have hb2:n2≤1000000000000:=by rw [hn2];exact hbd.2.2
   have hl1:(C' k1).length=n1:=by rw [hO.len k1,hbn.2.1,Nat.mul_one,hn1]
   have hl2:(C' k2).length=n2:=by rw [hO.len k2,hbd.2.1,Nat.mul_one,hn2]
   have HB:=Lib.hid (And.intro hcell2 (And.intro hO (And.intro hf (And.intro hk1 (And.intro hk2 (And.intro hA1 (And.intro hn1 (And.intro hA2 (And.intro hn2 (And.intro hl1 (And.intro hl2 (And.intro hmk1 (And.intro hmk2 hbn)))))))))))))
   obtain ⟨w1,rfl⟩:∃ y,y=wr:=⟨_,rfl⟩
   clear hcell2 hcells hO hf hk1 hk2 hA1 hn1 hA2 hn2 hl1 hl2 hbn hbd hd1 hd2 hpK hmk1 hmk2 e0
   go_wp2_with fail
   go_loopw [5] (fun i wx=>∃ t:Nat,t≤n1∧i=.int .i64 (t:Nat)∧OwnS w0 S lo M (updC C' k1 (fillL (C' k1) t (.int .u32 (mk:Nat)))) wx) (fun i _=>n1 - (intOf i).toNat)
   case atStart=>exact ⟨0,by omega,rfl,by rw [fillL_zero,updC_self];exact HB.out.2.1⟩
   case round =>
    clear c1 c2
    obtain ⟨t,ht,rfl,hX⟩:=hrel
    obtain ⟨hgx,c1,c2⟩:=HB.out.1 _ _ ((updC_ne _ _ h1A).trans hCA) hX
    by_cases htn:t < n1
    ·as_aux_lemma =>
     obtain ⟨g,eg,_,hg,hfz,hcell⟩:=hX.at k1 (by rw [← HB.out.2.2.2.2.2.2.1];omega)
     have g1:=hcell t (by rw [← HB.out.2.2.2.2.2.2.1,HB.out.2.2.2.2.2.2.2.2.2.2.2.2.2.2.1];omega)
     have hlt:t < (updC C' k1 (fillL (C' k1) t (.int .u32 (mk:Nat))) k1).length:=by rw [updC_same,fillL_length _ _ _ (by rw [HB.out.2.2.2.2.2.2.2.2.2.1];omega),HB.out.2.2.2.2.2.2.2.2.2.1];exact htn
     rw [List.getElem?_eq_getElem hlt] at g1
     generalize (updC C' k1 (fillL (C' k1) t (.int .u32 (mk:Nat))) k1)[t]=u at g1
     have eg':=HB.out.2.2.2.2.2.1.trans eg
     subst eg'
     have HX:=Lib.hid (And.intro hX eg)
     have htI:(t:Int) < (n1:Int):=by omega
     have fz:=hfz t
     clear hfz hcell hlt hX eg c2
     go_wp2_with fail
     exact ⟨⟨t + 1,by omega,by go_num,HX.out.1.fill HX.out.2 (by rw [HB.out.2.2.2.2.2.2.2.2.2.1];exact htn)⟩,by simp [intOf];omega⟩
    ·obtain rfl:n1=t:=by omega
     rw [fillL_full _ _ _ (by rw [HB.out.2.2.2.2.2.2.2.2.2.1];exact Nat.le_refl _)] at hX
     obtain ⟨C1,hC1⟩:∃ c,c=updC C' k1 (List.replicate n1 (.int .u32 (mk:Nat))):=⟨_,rfl⟩
     rw [← hC1] at hX
     have hC1A:C1 kA=C kA:=by rw [hC1,updC_ne _ _ h1A];exact hCA
     have hC12:C1 k2=C' k2:=by rw [hC1,updC_ne _ _ h21]
     have HX:=Lib.hid (And.intro hX (And.intro hC1 hC12))
     clear hX hC1 hC12
     go_wp2_with fail
     go_loopw [6] (fun i wx=>∃ t:Nat,t≤n2∧i=.int .i64 (t:Nat)∧OwnS w0 S lo M (updC C1 k2 (fillL (C1 k2) t (.int .u32 (mk1:Nat)))) wx) (fun i _=>n2 - (intOf i).toNat)
     case atStart=>exact ⟨0,by omega,rfl,by rw [fillL_zero,updC_self];exact HX.out.1⟩
     case round =>
      clear c1 c2
      obtain ⟨t,ht,rfl,hX⟩:=hrel
      obtain ⟨hgx,c1,c2⟩:=HB.out.1 _ _ ((updC_ne _ _ h2A).trans hC1A) hX
      by_cases htn:t < n2
      ·as_aux_lemma =>
       have hl2:(C1 k2).length=n2:=by rw [HX.out.2.2];exact HB.out.2.2.2.2.2.2.2.2.2.2.1
       obtain ⟨g,eg,_,hg,hfz,hcell⟩:=hX.at k2 (by rw [← HB.out.2.2.2.2.2.2.2.2.1];omega)
       have hlt:t < (updC C1 k2 (fillL (C1 k2) t (.int .u32 (mk1:Nat))) k2).length:=by rw [updC_same,fillL_length _ _ _ (by omega),hl2];exact htn
       have g1:=hcell t (by rw [← hX.len k2];exact hlt)
       rw [List.getElem?_eq_getElem hlt] at g1
       generalize (updC C1 k2 (fillL (C1 k2) t (.int .u32 (mk1:Nat))) k2)[t]=u at g1
       have eg':=HB.out.2.2.2.2.2.2.2.1.trans eg
       subst eg'
       have HX2:=Lib.hid (And.intro hX eg)
       have HL2:=Lib.hid hl2
       have htI:(t:Int) < (n2:Int):=by omega
       have fz:=hfz t
       clear hfz hcell hlt hX eg c1 hl2
       go_wp2_with fail
       exact ⟨⟨t + 1,by omega,by go_num,HX2.out.1.fill HX2.out.2 (by rw [HL2.out];exact htn)⟩,by simp [intOf];omega⟩
      ·as_aux_lemma =>
       obtain rfl:n2=t:=by omega
       rw [fillL_full _ _ _ (by rw [HX.out.2.2,HB.out.2.2.2.2.2.2.2.2.2.2.1];exact Nat.le_refl _)] at hX
       have HX2:=Lib.hid hX
       clear hX c1
       go_wp2_with fail
       refine ⟨⟨p + 1,mk2,_,by omega,?_,by go_num,by first | rfl | go_num,HB.out.2.2.1.next HA.out.1 ?_ ?_,HX2.out⟩,by simp [intOf];omega⟩
       ·have:=HM.out
        have:=HB.out.2.2.2.2.2.2.2.2.2.2.2.2.1
        omega
       ·rw [← HA.out.2.2.1];exact hpn
       ·have e1:=HM.out
        have e2:=HB.out.2.2.2.2.2.2.2.2.2.2.2.1
        rw [← HB.out.2.2.2.1,← HB.out.2.2.2.2.1,HX.out.2.1,← HB.out.2.2.2.2.2.2.1,← HB.out.2.2.2.2.2.2.2.2.1]
        rw [show 1000 + 2 * p=mk from by omega,show 1001 + 2 * p=mk1 from by omega]
  ·obtain rfl:n=p:=by omega
   have HF:=Lib.hid (And.intro hf hO)
   have hCA:C' kA=C kA:=hf.far kA (by decide) (by decide)
   clear hf hO
   go_wp2_with fail
   go_loopw [7] (fun i wr=>∃ p:Nat,p≤n∧i=.int .i64 (p:Nat)∧OwnS w0 S lo M C' wr) (fun i _=>n - (intOf i).toNat)
   case atStart=>exact ⟨0,by omega,rfl,HF.out.2⟩
   case round =>
    clear hp hmkb hmkI
    obtain ⟨p,hp,rfl,hO⟩:=hrel
    by_cases hpn:p < n
    ·as_aux_lemma =>
     have hpK:p < K.length:=by rw [← HA.out.2.2.1];exact hpn
     have hpI:(p:Int) < (n:Int):=by omega
     have hbn:=HA.out.1.num _ (nth_mem (xs:=K) hpK)
     have hbd:=HA.out.1.den _ (nth_mem (xs:=K) hpK)
     have hcells:=fun {y:World} {C':Key→List Value} (hC:C' kA=C kA) (h:OwnS w0 S lo M C' y)=>HA.out.1.cells hC h hpK
     have e0:=HA.out.2.1
     obtain ⟨k1,hk1⟩:∃ k,k=kn (nth K p).1 (nth K p).2:=⟨_,rfl⟩
     obtain ⟨k2,hk2⟩:∃ k,k=kd (nth K p).1 (nth K p).2:=⟨_,rfl⟩
     have h1A:kA ≠ k1:=by rw [hk1];exact kne (by omega)
     have h2A:kA ≠ k2:=by rw [hk2];exact kne (by omega)
     have h21:k2 ≠ k1:=by rw [hk1,hk2];exact kne (by omega)
     rw [← hk1] at hbn
     rw [← hk2] at hbd
     rw [← hk1,← hk2] at hcells
     obtain ⟨gA,eA,hgA,c1,c2⟩:=hcells hCA hO
     rw [← e0] at eA
     subst eA
     obtain ⟨A1,hA1⟩:∃ A,A=(M k1).A:=⟨_,rfl⟩
     obtain ⟨n1,hn1⟩:∃ A,A=(M k1).n:=⟨_,rfl⟩
     obtain ⟨d1,hd1⟩:∃ A,A=(M k1).c:=⟨_,rfl⟩
     obtain ⟨A2,hA2⟩:∃ A,A=(M k2).A:=⟨_,rfl⟩
     obtain ⟨n2,hn2⟩:∃ A,A=(M k2).n:=⟨_,rfl⟩
     obtain ⟨d2,hd2⟩:∃ A,A=(M k2).c:=⟨_,rfl⟩
     rw [← hA1,← hn1,← hd1] at c1
     rw [← hA2,← hn2,← hd2] at c2
     have hcell2:∀ (y:World) (C':Key→List Value),C' kA=C kA→OwnS w0 S lo M C' y→gA < y.heap.size∧y.cell? ⟨gA,p * 3 + 1,none⟩=some (.slice A1 n1 d1)∧y.cell? ⟨gA,p * 3 + 2,none⟩=some (.slice A2 n2 d2):=fun y C' hC h=>by
      obtain ⟨g,eg,hg,r1,r2⟩:=hcells hC h
      rw [← e0] at eg
      injection eg with eg
      injection eg with eg
      subst eg
      rw [hA1,hn1,hd1,hA2,hn2,hd2]
      exact ⟨hg,r1,r2⟩
     have hcap1:n1≤d1:=by rw [hn1,hd1];exact hO.cap k1
     have hcap2:n2≤d2:=by rw [hn2,hd2];exact hO.cap k2
     have hb1:n1≤1000000000000:=by rw [hn1];exact hbn.2.2
     have hb2:n2≤1000000000000:=by rw [hn2];exact hbd.2.2
     have hl1:(C' k1).length=n1:=by rw [hO.len k1,hbn.2.1,Nat.mul_one,hn1]
     have hl2:(C' k2).length=n2:=by rw [hO.len k2,hbd.2.1,Nat.mul_one,hn2]
     have HB:=Lib.hid (And.intro hO (And.intro hA1 (And.intro hn1 (And.intro hd1 (And.intro hA2 (And.intro hn2 (And.intro hd2 (And.intro hbn hbd))))))))
     obtain ⟨w1,rfl⟩:∃ y,y=wr:=⟨_,rfl⟩
     clear hcell2 hcells hO hk1 hk2 hA1 hn1 hA2 hn2 hl1 hl2 hbn hbd hd1 hd2 hpK e0
     have HG1:=Lib.hid (show Gone w0 S lo M C' k1 A1 n1 d1 w1 by have h1:=HB.out.1.start k1;rw [← HB.out.2.1,← HB.out.2.2.1,← HB.out.2.2.2.1] at h1;exact h1)
     go_wp2_with fail
     go_loopw [10,8] (fun i s wx=>∃ (t:Nat) (A:Option Addr) (c:Nat),t≤12∧i=.int .i64 (t:Nat)∧s=.slice A (n1 + t) c∧Gone w0 S lo M C' k1 A (n1 + t) c wx) (fun i _ _=>12 - (intOf i).toNat)
     case atStart=>exact ⟨0,_,_,by omega,rfl,rfl,HG1.out⟩
     case round =>
      obtain ⟨t,A,c,ht,rfl,rfl,hG⟩:=hrel
      by_cases htn:t < 12
      ·as_aux_lemma =>
       have htI:(t:Int) < 12:=by omega
       have HG:=Lib.hid hG
       have hbe:=HB.out.2.2.2.2.2.2.2.1
       clear hG
       go_wp2_with (refine wpList_gone _ (HG.out.below ((Below.refl _ _).alloc (Nat.le_refl _) _)) eimNat hbe.1 hbe.2.1 (by rfl) (.tmp 83) (.tmp 84) (by rfl) (by rfl) ⟨wr.heap.size,0,none⟩ 1 1 [.int .u32 7] (by rfl) (by rfl) (newCells _ _ _) (by simp [Value.oneCell']) (by omega) (by have:=HG.out.1.lo_le;simp;omega) (by omega) ?_;intro A' c' w' hG')
       exact ⟨⟨t + 1,A',c',by omega,by go_num,rfl,hG'⟩,by simp [intOf];omega⟩
      ·have htI:¬ (t:Int) < 12:=by omega
       have HG2:=Lib.hid (show Gone w0 S lo M C' k2 A2 n2 d2 wr by have h1:=hG.1.start k2;rw [← HB.out.2.2.2.2.1,← HB.out.2.2.2.2.2.1,← HB.out.2.2.2.2.2.2.1] at h1;exact h1)
       clear hG ht htn
       go_wp2_with fail
       go_loopw [11,9] (fun i s wx=>∃ (t:Nat) (A:Option Addr) (c:Nat),t≤12∧i=.int .i64 (t:Nat)∧s=.slice A (n2 + t) c∧Gone w0 S lo M C' k2 A (n2 + t) c wx) (fun i _ _=>12 - (intOf i).toNat)
       case atStart=>exact ⟨0,_,_,by omega,rfl,rfl,HG2.out⟩
       case round =>
        obtain ⟨t,A,c,ht,rfl,rfl,hG⟩:=hrel
        by_cases htn:t < 12
        ·as_aux_lemma =>
         have htI:(t:Int) < 12:=by omega
         have HG:=Lib.hid hG
         have hbe:=HB.out.2.2.2.2.2.2.2.2
         clear hG
         go_wp2_with (refine wpList_gone _ (HG.out.below ((Below.refl _ _).alloc (Nat.le_refl _) _)) eimNat hbe.1 hbe.2.1 (by rfl) (.tmp 90) (.tmp 91) (by rfl) (by rfl) ⟨wr.heap.size,0,none⟩ 1 1 [.int .u32 8] (by rfl) (by rfl) (newCells _ _ _) (by simp [Value.oneCell']) (by omega) (by have:=HG.out.1.lo_le;simp;omega) (by omega) ?_;intro A' c' w' hG')
         exact ⟨⟨t + 1,A',c',by omega,by go_num,rfl,hG'⟩,by simp [intOf];omega⟩
        ·as_aux_lemma =>
         have htI:¬ (t:Int) < 12:=by omega
         have HG:=Lib.hid hG.1
         clear hG
         go_wp2_with fail
         exact ⟨⟨p + 1,by omega,by go_num,HG.out⟩,by simp [intOf];omega⟩
    ·obtain rfl:n=p:=by omega
     have HO2:=Lib.hid hO
     clear hO
     go_wp2_with fail
     go_loopw [12,3] (fun i m wr=>∃ (p mk:Nat),p≤n∧mk=1000 + 2 * p∧i=.int .i64 (p:Nat)∧m=.int .u32 (mk:Nat)∧OwnS w0 S lo M C' wr) (fun i _ _=>n - (intOf i).toNat)
     case atStart=>exact ⟨0,1000,by omega,by omega,rfl,rfl,HO2.out⟩
     case round =>
      clear hp
      obtain ⟨p,mk,hp,hmk,rfl,rfl,hO⟩:=hrel
      have hmkb:mk≤2000001000:=by omega
      have hmkI:(mk:Int)≤2000001000:=by omega
      have HM:=Lib.hid hmk
      clear hmk
      by_cases hpn:p < n
      ·as_aux_lemma =>
       obtain ⟨mk1,hmk1⟩:∃ m:Nat,m=mk + 1:=⟨_,rfl⟩
       obtain ⟨mk2,hmk2⟩:∃ m:Nat,m=mk + 2:=⟨_,rfl⟩
       have hw1:IntKind.u32.wrap ((mk:Int) + 1)=(mk1:Int):=by simp only [IntKind.wrap_u32];omega
       have hw2:IntKind.u32.wrap ((mk:Int) + 2)=(mk2:Int):=by simp only [IntKind.wrap_u32];omega
       have hpK:p < K.length:=by rw [← HA.out.2.2.1];exact hpn
       have hpI:(p:Int) < (n:Int):=by omega
       have hbn:=HA.out.1.num _ (nth_mem (xs:=K) hpK)
       have hbd:=HA.out.1.den _ (nth_mem (xs:=K) hpK)
       have hcells:=fun {y:World} {C':Key→List Value} (hC:C' kA=C kA) (h:OwnS w0 S lo M C' y)=>HA.out.1.cells hC h hpK
       have e0:=HA.out.2.1
       obtain ⟨k1,hk1⟩:∃ k,k=kn (nth K p).1 (nth K p).2:=⟨_,rfl⟩
       obtain ⟨k2,hk2⟩:∃ k,k=kd (nth K p).1 (nth K p).2:=⟨_,rfl⟩
       have h1A:kA ≠ k1:=by rw [hk1];exact kne (by omega)
       have h2A:kA ≠ k2:=by rw [hk2];exact kne (by omega)
       have h21:k2 ≠ k1:=by rw [hk1,hk2];exact kne (by omega)
       rw [← hk1] at hbn
       rw [← hk2] at hbd
       rw [← hk1,← hk2] at hcells
       obtain ⟨gA,eA,hgA,c1,c2⟩:=hcells hCA hO
       rw [← e0] at eA
       subst eA
       obtain ⟨A1,hA1⟩:∃ A,A=(M k1).A:=⟨_,rfl⟩
       obtain ⟨n1,hn1⟩:∃ A,A=(M k1).n:=⟨_,rfl⟩
       obtain ⟨d1,hd1⟩:∃ A,A=(M k1).c:=⟨_,rfl⟩
       obtain ⟨A2,hA2⟩:∃ A,A=(M k2).A:=⟨_,rfl⟩
       obtain ⟨n2,hn2⟩:∃ A,A=(M k2).n:=⟨_,rfl⟩
       obtain ⟨d2,hd2⟩:∃ A,A=(M k2).c:=⟨_,rfl⟩
       rw [← hA1,← hn1,← hd1] at c1
       rw [← hA2,← hn2,← hd2] at c2
       have hcell2:∀ (y:World) (C':Key→List Value),C' kA=C kA→OwnS w0 S lo M C' y→gA < y.heap.size∧y.cell? ⟨gA,p * 3 + 1,none⟩=some (.slice A1 n1 d1)∧y.cell? ⟨gA,p * 3 + 2,none⟩=some (.slice A2 n2 d2):=fun y C' hC h=>by
        obtain ⟨g,eg,hg,r1,r2⟩:=hcells hC h
        rw [← e0] at eg
        injection eg with eg
        injection eg with eg
        subst eg
        rw [hA1,hn1,hd1,hA2,hn2,hd2]
        exact ⟨hg,r1,r2⟩
       have hcap1:n1≤d1:=by rw [hn1,hd1];exact hO.cap k1
       have hcap2:n2≤d2:=by rw [hn2,hd2];exact hO.cap k2
       have hb1:n1≤1000000000000:=by rw [hn1];exact hbn.2.2
       have hb2:n2≤1000000000000:=by rw [hn2];exact hbd.2.2
       have hl1:(C' k1).length=n1:=by rw [hO.len k1,hbn.2.1,Nat.mul_one,hn1]
       have hl2:(C' k2).length=n2:=by rw [hO.len k2,hbd.2.1,Nat.mul_one,hn2]
       have hrep1:C' k1=List.replicate n1 (.int .u32 (mk:Nat)):=by
        have h1:=HF.out.1.num p hpn
        rw [← hk1,← hn1] at h1
        rw [h1,HM.out]
       have hrep2:C' k2=List.replicate n2 (.int .u32 (mk1:Nat)):=by
        have h1:=HF.out.1.den p hpn
        have e1:=HM.out
        rw [← hk2,← hn2] at h1
        rw [h1,hmk1,HM.out,show 1000 + 2 * p + 1=1001 + 2 * p by omega]
       have hmk2':mk2=1000 + 2 * (p + 1):=by have:=HM.out;omega
       have HB:=Lib.hid (And.intro hcell2 (And.intro hO (And.intro hA1 (And.intro hn1 (And.intro hA2 (And.intro hn2 (And.intro hrep1 (And.intro hrep2 (And.intro hmk2' (And.intro hl1 (And.intro hl2 (And.intro hbn.2.1 hbd.2.1))))))))))))
       obtain ⟨w1,rfl⟩:∃ y,y=wr:=⟨_,rfl⟩
       clear hcell2 hcells hO hk1 hk2 hA1 hn1 hA2 hn2 hl1 hl2 hbn hbd hd1 hd2 hpK hmk1 hmk2 hmk2' hrep1 hrep2 e0
       go_wp2_with fail
       go_loopw [13] (fun i wx=>∃ t:Nat,t≤n1∧i=.int .i64 (t:Nat)∧OwnS w0 S lo M C' wx) (fun i _=>n1 - (intOf i).toNat)
       case atStart=>exact ⟨0,by omega,rfl,HB.out.2.1⟩
       case round =>
        clear c1 c2
        obtain ⟨t,ht,rfl,hX⟩:=hrel
        obtain ⟨hgx,c1,c2⟩:=HB.out.1 _ _ hCA hX
        by_cases htn:t < n1
        ·as_aux_lemma =>
         obtain ⟨g,eg,_,hg,hfz,hcell⟩:=hX.at k1 (by rw [← HB.out.2.2.2.1];omega)
         have g1:=hcell t (by rw [← HB.out.2.2.2.1,HB.out.2.2.2.2.2.2.2.2.2.2.2.1];omega)
         rw [HB.out.2.2.2.2.2.2.1,List.getElem?_replicate,if_pos htn] at g1
         have eg':=HB.out.2.2.1.trans eg
         subst eg'
         have HX:=Lib.hid hX
         have htI:(t:Int) < (n1:Int):=by omega
         clear hfz hcell hX eg c2
         go_wp2_with fail
         exact ⟨⟨t + 1,by omega,by go_num,HX.out⟩,by simp [intOf];omega⟩
        ·obtain rfl:n1=t:=by omega
         have HX:=Lib.hid hX
         clear hX
         go_wp2_with fail
         go_loopw [14] (fun i wx=>∃ t:Nat,t≤n2∧i=.int .i64 (t:Nat)∧OwnS w0 S lo M C' wx) (fun i _=>n2 - (intOf i).toNat)
         case atStart=>exact ⟨0,by omega,rfl,HX.out⟩
         case round =>
          clear c1 c2
          obtain ⟨t,ht,rfl,hX⟩:=hrel
          obtain ⟨hgx,c1,c2⟩:=HB.out.1 _ _ hCA hX
          by_cases htn:t < n2
          ·as_aux_lemma =>
           obtain ⟨g,eg,_,hg,hfz,hcell⟩:=hX.at k2 (by rw [← HB.out.2.2.2.2.2.1];omega)
           have g1:=hcell t (by rw [← HB.out.2.2.2.2.2.1,HB.out.2.2.2.2.2.2.2.2.2.2.2.2];omega)
           rw [HB.out.2.2.2.2.2.2.2.1,List.getElem?_replicate,if_pos htn] at g1
           have eg':=HB.out.2.2.2.2.1.trans eg
           subst eg'
           have HX2:=Lib.hid hX
           have htI:(t:Int) < (n2:Int):=by omega
           clear hfz hcell hX eg c1
           go_wp2_with fail
           exact ⟨⟨t + 1,by omega,by go_num,HX2.out⟩,by simp [intOf];omega⟩
          ·as_aux_lemma =>
           obtain rfl:n2=t:=by omega
           have HX2:=Lib.hid hX
           clear hX c1
           go_wp2_with fail
           exact ⟨⟨p + 1,mk2,by omega,HB.out.2.2.2.2.2.2.2.2.1,by go_num,by first | rfl | go_num,HX2.out⟩,by simp [intOf];omega⟩
      ·as_aux_lemma =>
       have HO3:=Lib.hid hO
       clear hO
       have hpn':¬ (p:Int) < (n:Int):=by omega
       go_wp2_with fail
       go_ret
       exact ⟨rfl,_,HO3.out,HF.out.1.far⟩
end Go.Proofs.YtmncjibcoffmfaaGreat
