/- Joined by program out of: OpenR, Fits, Clos. What each says stands at its own head. -/
import Derived.Test.YtgbmnlmnhbkdbaaGreatOpen
import Derived.Test.YtgbmnlmnhbkdbaaGreatJ4
import Derived.Test.YtgbmnlmnhbkdbaaGreatJ2
import Derived.IntWalk
import Derived.Test.YtgbmnlmnhbkdbaaGreatJ5
set_option linter.unusedVariables false
set_option linter.unusedSimpArgs false
/- Arguments that are slices of slices of ints, opened. Conditions: the row's own reach. -/
namespace Go.Proofs.YtgbmnlmnhbkdbaaGreat
open Go.ChangeShapes Go.WideShapes Go.ChangeAt Go.RowKit Go.Joins
section
variable {H:Type} {enc:TypeId × Value→H} {P:Program}
theorem cell_rows {T S e:TypeId} {W:World} {v:Value} {fuel:Nat} {y:DataW H × List MemPlace} (ht:P.underlying T=some (.slice S)) (hs:P.underlying S=some (.slice e)) (he:P.underlying e=some (.int .i64)) (hc1:P.cellsOf S=1) (hb1:P.bytesOf S=24) (hc:P.cellsOf e=1) (hby:P.bytesOf e=8)
 (hf:DataW.trod enc P W 0 (fun _=>true) true fuel T [v]=some y) (hw:Wt P T y.1) :
 ∃ A n c L,v=.slice A n c∧Rows (Value.int .i64) W A n L∧n * 24≤140737488351232∧n≤c∧(∀ i,i < n→(nth L i).length * 8≤140737488351232)∧∀ l ∈ L,∀ x ∈ l,(Lit.int .i64 x).wf=true:=by
 obtain ⟨A,n,c,xs,rfl,hsl,hb,hnc,hg⟩:=cell_slice (enc:=enc) (W:=W) (fun x:(Option Addr × Nat × Nat) × List Int=>eS x.1)
  (fun x=>Sl (Value.int .i64) W x.1.1 x.1.2.1 x.2∧x.1.2.1 * 8≤140737488351232∧x.1.2.1≤x.1.2.2∧∀ z ∈ x.2,(Lit.int .i64 z).wf=true) ht hc1 (by omega)
  (fun m c0 z hz hwz=>by
    obtain ⟨A,n,c,xs,rfl,h1,h2,h3,h4⟩:=cell_ints hs he hc hby hz hwz
    exact ⟨((A,n,c),xs),rfl,h1,h2,h3,h4⟩) hf hw
 rw [hb1] at hb
 have hl:=hsl.len
 refine ⟨A,n,c,xs.map (·.2),rfl,⟨⟨xs.map (·.1),⟨by simpa using hl,hsl.big,fun hp=>?_⟩,fun i hi=>?_⟩,by simpa using hl⟩,hb,hnc,fun i hi=>?_,fun l hm x hx=>?_⟩
 ·obtain ⟨b,off,e1,hlt,hcell⟩:=hsl.at' hp
  exact ⟨b,off,e1,hlt,fun j hj=>by rw [hcell j hj,nth_map _ (by omega)]⟩
 ·rw [nth_map _ (by omega),nth_map _ (by omega)]
  have:=hg _ (nth_mem (xs:=xs) (j:=i) (by omega))
  exact ⟨this.1,this.2.2.1⟩
 ·rw [nth_map _ (by omega)]
  have:=hg _ (nth_mem (xs:=xs) (j:=i) (by omega))
  rw [this.1.len];exact this.2.1
 ·obtain ⟨z,hz,rfl⟩:=List.mem_map.1 hm
  exact (hg z hz).2.2.2 x hx
end
end Go.Proofs.YtgbmnlmnhbkdbaaGreat
/- dag.fits, walked: are all parents points, does none stand twice. Condition: the parents read. -/
namespace Go.Proofs.YtgbmnlmnhbkdbaaGreat
open Go.RowKit

theorem zeroI (w:World):(zeroValue 3).run Tryz.prog w=.ok (.int .i64 0) w:=by kernel_rfl
def fitsC (Ps:List (List Int)):Int:=if inR Ps=false then 3 else if Ps.any dup=true then 40 else 0
theorem fitsC_3 {Ps:List (List Int)} {k:Nat} (h:k < Ps.length) {q:Nat} (hq:q < (nth Ps k).length) (hb:¬ (0≤nth (nth Ps k) q∧nth (nth Ps k) q < (Ps.length:Int))):fitsC Ps=3:=by
 unfold fitsC;rw [if_pos]
 refine all_down _ h ?_
 refine all_down _ hq ?_
 simp only [Bool.and_eq_false_iff,decide_eq_false_iff_not]
 omega
theorem fitsC_40 {Ps:List (List Int)} (hr:inR Ps=true) {k:Nat} (h:k < Ps.length) {q:Nat} (hq:q < (nth Ps k).length) (hd:dupAt (nth Ps k) q=true):fitsC Ps=40:=by
 unfold fitsC;rw [if_neg (by rw [hr];simp),if_pos (any_upp _ h (dup_up hq hd))]
theorem fitsC_0 {Ps:List (List Int)} (hr:inR Ps=true) (hd:Ps.any dup=false):fitsC Ps=0:=by
 unfold fitsC;rw [if_neg (by rw [hr];simp),if_neg (by rw [hd];simp)]
def seenI (l:List Int):Int→Option Int:=fun x=>if x ∈ l then some 1 else none
theorem seenI_snoc (l:List Int) (x y:Int):putI (seenI l) x 1 y=seenI (l ++ [x]) y:=by
 unfold putI seenI
 by_cases h:y=x
 ·subst h;simp
 ·simp [h]
theorem seenI_val (l:List Int) (x:Int):(seenI l x).getD 0=if l.contains x then 1 else 0:=by
 unfold seenI
 by_cases h:x ∈ l
 ·rw [if_pos h,if_pos (by simpa using h)];rfl
 ·rw [if_neg h,if_neg (by simpa using h)];rfl

set_option maxRecDepth 100000 in
set_option maxHeartbeats 1600000 in
theorem fits_any (A:Option Addr) (n c:Nat) (Ps:List (List Int)) (w:World) (h:Rows (Value.int .i64) w A n Ps) :
 Calls Tryz.prog 50 #[.slice A n c] w fun e w'=>e=.returned (.int .i64 (fitsC Ps))∧Below w.heap.size w w':=by
 have hbig:=h.big
 have HI:=Lib.hid h.len
 obtain ⟨wa,hwa⟩:∃ wa:World,wa=w:=⟨_,rfl⟩
 subst hwa
 have hmm:=fun (n:Int) (w:World)=>run_makeMap_some (P:=Tryz.prog) Tryz.underlying50 n w
 go_enter Tryz.func50,Tryz.ntmps50
 go_wp2_with fail
 go_loopw [14] (fun i wr=>∃ k:Nat,i=.int .i64 (k:Nat)∧k≤n∧(Ps.take k).all (inRow n)=true∧wr=wa) (fun i _=>n - (intOf i).toNat)
 case atStart=>exact ⟨0,rfl,Nat.zero_le _,by simp,rfl⟩
 case round =>
  obtain ⟨k,rfl,hk,hall,hwr⟩:=hrel
  have hwr:=hwr.symm
  subst hwr
  by_cases hlt:k < n
  ·obtain ⟨b,off,B,m,d,rfl,_,g1,hrow⟩:=h.row hlt
   have hbm:=hrow.big
   have HL:=Lib.hid (And.intro hrow.len hall);clear hall
   go_wp2_with fail
   go_loopw [20] (fun j wr=>∃ q:Nat,j=.int .i64 (q:Nat)∧q≤m∧inRow n ((nth Ps k).take q)=true∧wr=wa) (fun j _=>m - (intOf j).toNat)
   case atStart=>exact ⟨0,rfl,Nat.zero_le _,by simp [inRow],rfl⟩
   case round =>
    obtain ⟨q,rfl,hq,hin,hwr⟩:=hrel
    have hwr:=hwr.symm
    subst hwr
    by_cases hqm:q < m
    ·obtain ⟨b2,off2,rfl,_,hc⟩:=hrow.at' (by omega)
     have g2:=hc q hqm
     have hbad:¬ (0≤nth (nth Ps k) q∧nth (nth Ps k) q < (Ps.length:Int))→fitsC Ps=3:=fitsC_3 (by rw [HI.out];exact hlt) (by rw [HL.out.1];exact hqm)
     have hsn:inRow n ((nth Ps k).take (q + 1))=(inRow n ((nth Ps k).take q) && (decide (0≤nth (nth Ps k) q) && decide (nth (nth Ps k) q < (n:Int)))):=all_take_succ _ (by rw [HL.out.1];exact hqm)
     rw [hin,Bool.true_and] at hsn
     rw [HI.out] at hbad
     have HS:=Lib.hid (And.intro hbad hsn);clear hbad hsn hc hin
     generalize hs:nth (nth Ps k) q=s at g2
     have HE:=Lib.hid hs;clear hs
     by_cases hs0:s < 0
     ·have HC:=Lib.hid (HS.out.1 (by rw [HE.out];omega))
      go_wp2_with fail
      go_ret
      exact ⟨ret_int HC.out.symm,Below.refl _ _⟩
     ·by_cases hs1:(n:Int)≤s
      ·have HC:=Lib.hid (HS.out.1 (by rw [HE.out];omega))
       go_wp2_with fail
       go_ret
       exact ⟨ret_int HC.out.symm,Below.refl _ _⟩
      ·have HC:=Lib.hid (show inRow n ((nth Ps k).take (q + 1))=true by rw [HS.out.2,HE.out];simp;omega)
       go_wp2_with fail
       exact ⟨⟨q + 1,by go_num,by omega,HC.out,trivial⟩,by simp [intOf];omega⟩
    ·obtain rfl:q=m:=by omega
     have HC:=Lib.hid (show (Ps.take (k + 1)).all (inRow n)=true by
      rw [all_take_succ _ (by rw [HI.out];exact hlt),HL.out.2]
      rw [take_all (by rw [HL.out.1];exact Nat.le_refl _)] at hin
      simpa using hin)
     clear hin
     go_wp2_with fail
     exact ⟨⟨k + 1,by go_num,by omega,HC.out,trivial⟩,by simp [intOf];omega⟩
  ·obtain rfl:k=n:=by omega
   have hR:inR Ps=true:=by
    unfold inR;rw [HI.out];rw [take_all (by rw [HI.out];exact Nat.le_refl _)] at hall;exact hall
   have HR:=Lib.hid hR;clear hR hall
   go_wp2_with fail
   go_loopw [36] (fun i wr=>∃ j:Nat,i=.int .i64 (j:Nat)∧j≤k∧(Ps.take j).any dup=false∧Below wa.heap.size wa wr) (fun i _=>k - (intOf i).toNat)
   case atStart=>exact ⟨0,rfl,Nat.zero_le _,by simp,Below.refl _ _⟩
   case round =>
    obtain ⟨j,rfl,hj,hany,hbl⟩:=hrel
    obtain ⟨wb,hwb⟩:∃ wb:World,wb=wr:=⟨_,rfl⟩
    subst hwb
    by_cases hlt:j < k
    ·obtain ⟨b,off,B,m,d,rfl,hbs,g0,hrow⟩:=h.row hlt
     have g1:=((keeps hbl).1 b (off + j) hbs).trans g0
     have hbm:=hrow.big
     have hM:=MapI.made wb Tryz.prog 3 3
     have hsz:=hbl.size
     have HL:=Lib.hid (And.intro hrow.len (And.intro hany (And.intro (hbl.alloc hbl.size (.map #[] 0)) hrow)));clear hany hbl hrow g0
     generalize hp:wb.heap.size=p at *
     go_wp2_with fail
     generalize hwm:wb.alloc (.map #[] 0)=wm at *
     clear g1 hwm hp
     go_loopw [45] (fun x wr=>∃ q:Nat,x=.int .i64 (q:Nat)∧q≤m∧dupTo (nth Ps j) q=false∧MapI Tryz.prog 3 3 wr p q (seenI ((nth Ps j).take q))∧Below wa.heap.size wa wr) (fun x _=>m - (intOf x).toNat)
     case atStart=>exact ⟨0,rfl,Nat.zero_le _,rfl,hM,HL.out.2.2.1⟩
     case round =>
      obtain ⟨q,rfl,hq,hdup,hmap,hbl⟩:=hrel
      obtain ⟨wc,hwc⟩:∃ wc:World,wc=wr:=⟨_,rfl⟩
      subst hwc
      by_cases hqm:q < m
      ·obtain ⟨b2,off2,rfl,hb2,hc⟩:=(HL.out.2.2.2.below (Nat.le_refl _) hbl).at' (by omega)
       have g2:=hc q hqm
       have hin:=inR_row HR.out (by rw [HI.out];exact hlt) (nth (nth Ps j) q) (nth_mem (by rw [HL.out.1];exact hqm))
       rw [HI.out] at hin
       have hwf:(Lit.int .i64 (nth (nth Ps j) q)).wf=true:=WalkArith.wf_i64 (by omega)
       have hbad:dupAt (nth Ps j) q=true→fitsC Ps=40:=fitsC_40 HR.out (by rw [HI.out];exact hlt) (by rw [HL.out.1];exact hqm)
       have hsn:=dupTo_succ (nth Ps j) q
       rw [hdup,Bool.false_or] at hsn
       have htk:=take_snoc (xs:=nth Ps j) (k:=q) (by rw [HL.out.1];exact hqm)
       have hval:=seenI_val ((nth Ps j).take q) (nth (nth Ps j) q)
       have hda:dupAt (nth Ps j) q=((nth Ps j).take q).contains (nth (nth Ps j) q):=rfl
       have hsz2:=hbl.size
       have HS:=Lib.hid (And.intro hbad (And.intro hsn (And.intro htk (And.intro hda hbl))));clear hbad hsn htk hda hc hdup hbl hin
       generalize hs:nth (nth Ps j) q=s at *
       generalize hl:(nth Ps j).take q=l at *
       have HE:=Lib.hid (And.intro hs hl);clear hs hl
       rcases hcb:l.contains s
       ·rw [hcb] at hval
        have HV:=Lib.hid (And.intro hval hcb);clear hval hcb
        go_wp2_with (first
         | (at_lookup;refine wpList_look_I _ rfl _ _ 50 rfl 3 3 Tryz.underlying3 Tryz.underlying50 Tryz.underlying3 (zeroI _) p q _ rfl hmap _ rfl hwf ?_;rw [HV.out.1])
         | (at_mapUpdate;refine wpList_store_I _ rfl _ _ _ 50 rfl 3 3 Tryz.underlying3 Tryz.underlying50 Tryz.underlying3 p q _ rfl hmap (by unfold maxLen;omega) _ rfl hwf 1 rfl (by decide) ?_)
         | fail)
        intro w1 hm1 hg1
        have hm2:=hm1.congr (seenI_snoc l s)
        rw [← HS.out.2.2.1] at hm2
        have hb2:=HS.out.2.2.2.2.grown hg1 hsz2 (fun g e=>by cases e;exact hsz)
        have H2:=Lib.hid (And.intro hm2 hb2);clear hm2 hb2 hm1 hg1 hmap
        go_wp2_with fail
        exact ⟨⟨q + 1,by go_num,by omega,by rw [HS.out.2.1,HS.out.2.2.2.1,HV.out.2],H2.out.1,H2.out.2⟩,by simp [intOf];omega⟩
       ·rw [hcb] at hval
        have HV:=Lib.hid (And.intro hval hcb);clear hval hcb
        go_wp2_with (first
         | (at_lookup;refine wpList_look_I _ rfl _ _ 50 rfl 3 3 Tryz.underlying3 Tryz.underlying50 Tryz.underlying3 (zeroI _) p q _ rfl hmap _ rfl hwf ?_;rw [HV.out.1])
         | fail)
        go_ret
        exact ⟨ret_int (HS.out.1 (by rw [HS.out.2.2.2.1,HV.out.2])).symm,HS.out.2.2.2.2⟩
      ·obtain rfl:q=m:=by omega
       have hdd:(Ps.take (j + 1)).any dup=false:=by
        rw [any_take_succ _ (by rw [HI.out];exact hlt),HL.out.2.1,Bool.false_or]
        unfold dup;rw [HL.out.1];exact hdup
       have HC:=Lib.hid (And.intro hdd hbl);clear hdd hbl hmap hdup
       go_wp2_with fail
       exact ⟨⟨j + 1,by go_num,by omega,HC.out.1,HC.out.2⟩,by simp [intOf];omega⟩
    ·obtain rfl:j=k:=by omega
     have hcc:fitsC Ps=0:=fitsC_0 HR.out (by rw [take_all (by rw [HI.out];exact Nat.le_refl _)] at hany;exact hany)
     have HC:=Lib.hid (And.intro hcc hbl);clear hcc hany hbl
     go_wp2_with fail
     go_ret
     exact ⟨ret_int HC.out.1.symm,HC.out.2⟩
end Go.Proofs.YtgbmnlmnhbkdbaaGreat
/- Plain law: passes over all points, each telling its parents, come to all that is above. No condition. -/
namespace Go.Proofs.YtgbmnlmnhbkdbaaGreat

structure PassU (G:List (List Nat)) (S:Nat→Prop) (L0 L:List Bool) (v k:Nat):Prop where
 len:L.length=G.length
 le:∀ x,nth L0 x=true→nth L x=true
 sound:∀ x,nth L x=true→Up G S x
 prev:∀ v',v' < v→nth L0 v'=true→∀ p,p ∈ nth G v'→nth L p=true
 cur:∀ j,j < k→nth L (nth (nth G v) j)=true
section
variable {G:List (List Nat)} {S:Nat→Prop} {L0 L:List Bool} {v k i:Nat}
theorem PassU.next (h:PassU G S L0 L v k) (he:(nth G v).length≤k ∨ nth L v=false):PassU G S L0 L (v + 1) 0:=by
 refine ⟨h.len,h.le,h.sound,fun v' hv' h0 p hp=>?_,fun j hj=>by omega⟩
 rcases Nat.lt_or_ge v' v with h1 | h1
 ·exact h.prev v' h1 h0 p hp
 ·obtain rfl:v'=v:=by omega
  rcases he with he | he
  ·obtain ⟨j,hj,rfl⟩:=mem_nth hp
   exact h.cur j (by omega)
  ·rw [h.le _ h0] at he;cases he
structure PassesU (G:List (List Nat)) (S:Nat→Prop) (L:List Bool) (i:Nat):Prop where
 len:L.length=G.length
 base:∀ x,S x→nth L x=true
 sound:∀ x,nth L x=true→Up G S x
 done:(∀ x,nth L x=true→∀ p,p ∈ nth G x→nth L p=true) ∨ i≤L.count true
theorem PassesU.all (h:PassesU G S L i) (hg:GoodG G) (hi:G.length≤i) (x:Nat):nth L x=true ↔ Up G S x:=by
 have hd:∀ x,nth L x=true→∀ p,p ∈ nth G x→nth L p=true:=by
  rcases h.done with hd | hd
  ·exact hd
  ·intro x hx p hp
   have hlt:x < G.length:=by
    rw [← h.len]
    rcases Nat.lt_or_ge x L.length with h1 | h1
    ·exact h1
    ·have:nth L x=false:=by simp [nth,List.getD,List.getElem?_eq_none h1]
     rw [this] at hx;cases hx
   have hpl:=hg x hlt p hp
   have hc:L.count true=L.length:=by have:=List.count_le_length (a:=true) (l:=L);have:=h.len;omega
   rw [List.count_eq_length] at hc
   have hm:=nth_mem (xs:=L) (j:=p) (by rw [h.len];exact hpl)
   exact (hc _ hm).symm
 refine ⟨h.sound x,fun hup=>?_⟩
 induction hup with
 | base hs=>exact h.base _ hs
 | step _ hp ih=>exact hd _ ih _ hp
end
end Go.Proofs.YtgbmnlmnhbkdbaaGreat
