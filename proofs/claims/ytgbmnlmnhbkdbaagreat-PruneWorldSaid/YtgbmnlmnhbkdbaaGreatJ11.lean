/- Joined by program out of: Sort1I, Sort2I. What each says stands at its own head. -/
import Derived.Test.YtgbmnlmnhbkdbaaGreatJ10
import Derived.Test.YtgbmnlmnhbkdbaaGreatJ9
import Derived.BigRegion
import Derived.Outline
set_option linter.unusedVariables false
set_option linter.unusedSimpArgs false
/- The small callees of slices.SortStableFunc at int, walked: swapRangeCmpFunc, rotateCmpFunc, insertionSortCmpFunc, over a row that the call owns. Conditions: the ranges lie in the row. -/
namespace Go.Proofs.YtgbmnlmnhbkdbaaGreat
open Go.RowKit
namespace SoI

abbrev Z:=Int × Nat
def enc (z:Z):Value:=Value.int .i64 z.1
def lt (a b:Int):Prop:=cmpI a b < 0

theorem cmp_q (a b:Int) (w:World):Calls Tryz.prog 63 #[Value.int .i64 a,Value.int .i64 b] w fun e w'=>e=.returned (.int .i64 (cmpI a b))∧w'=w:=
 (cmp_i a b w).mono fun _ _ h=>⟨h.1,h.2.symm⟩

theorem swap_range (g n c:Nat) (ai bi mi:Int) (a b m:Nat) (f:Value) (xs:List Z) (rest:List Value) (w:World) (ea:ai=a) (eb:bi=b) (em:mi=m) (hr:RowAt enc w g 3 xs rest)
 (hn:xs.length=n) (hbig:n≤140737488351232) (hab:a + m≤b) (hb:b + m≤n) :
 Calls Tryz.prog 105 #[.slice (some ⟨g,0,none⟩) n c,.int .i64 ai,.int .i64 bi,.int .i64 mi,f] w fun e w' =>
  e=.returned (.tuple #[])∧RowAt enc w' g 3 (swapR xs a b m) rest∧w.grownBy w' (some g):=by
 subst ea eb em
 have HN:=Lib.hid hn;clear hn
 go_enter Tryz.func105,Tryz.ntmps105
 go_wp2
 go_loopw [10] (fun i wr=>∃ k:Nat,k≤m∧i=.int .i64 k∧RowAt enc wr g 3 (swapR xs a b k) rest∧w.grownBy wr (some g)) (fun i _=>m - (intOf i).toNat)
 case atStart=>exact ⟨0,Nat.zero_le _,rfl,hr,grown_refl _ _⟩
 case round =>
  obtain ⟨k,hk,rfl,hrow,hg⟩:=hrel
  by_cases hlt:k < m
  ·have hl:n≤(swapR xs a b k).length:=by rw [swapR_length,HN.out];omega
   generalize hys:swapR xs a b k=ys at hrow hl
   have HY:=Lib.hid hys;clear hys
   have c1:wr.cell? ⟨g,a + k,none⟩=some (Value.int .i64 (nth ys (a + k)).1):=hrow.cell (by omega)
   have c2:wr.cell? ⟨g,b + k,none⟩=some (Value.int .i64 (nth ys (b + k)).1):=hrow.cell (by omega)
   have f1:=hrow.frozen (a + k)
   have f2:=hrow.frozen (b + k)
   go_wp2
   go_region
   go_wp2
   refine ⟨⟨k + 1,by omega,by go_num,?_,?_⟩,by simp [intOf];omega⟩
   ·have h1:=(hrow.set (j:=a + k) (by omega) (nth ys (b + k))).set (j:=b + k) (by simp;omega) (nth ys (a + k))
    rw [swapR,HY.out]
    exact h1.drew
   ·exact grown_drew (grown_setCell (grown_setCell hg _ _) _ _)
  ·obtain rfl:k=m:=by omega
   go_wp2
   go_end0
   exact ⟨rfl,hrow,hg⟩

theorem rotate (g n c:Nat) (ai mi bi:Int) (a m b:Nat) (f:Value) (P L R Q:List Z) (rest:List Value) (w:World) (ea:ai=a) (em:mi=m) (eb:bi=b) (hr:RowAt enc w g 3 (P ++ L ++ R ++ Q) rest)
 (hn:(P ++ L ++ R ++ Q).length=n) (hbig:n≤140737488351232) (ha:P.length=a) (hm:P.length + L.length=m) (hb:P.length + L.length + R.length=b)
 (hL:0 < L.length) (hR:0 < R.length) :
 Calls Tryz.prog 99 #[.slice (some ⟨g,0,none⟩) n c,.int .i64 ai,.int .i64 mi,.int .i64 bi,f] w fun e w' =>
  e=.returned (.tuple #[])∧RowAt enc w' g 3 (P ++ R ++ L ++ Q) rest∧w.grownBy w' (some g):=by
 subst ea em eb
 have hbn:b≤n:=by simp at hn;omega
 have ham:a≤m:=by omega
 have hmb:m≤b:=by omega
 have HA:=Lib.hid (And.intro ha (And.intro hm hb));clear ha hm hb
 have HN:=Lib.hid hn;clear hn
 go_enter Tryz.func99,Tryz.ntmps99
 go_wp2
 go_loopw [10,11] (fun i j wr=>∃ P' L' R' Q':List Z,i=.int .i64 (L'.length:Nat)∧j=.int .i64 (R'.length:Nat)∧0 < L'.length∧0 < R'.length ∧
  P'.length + L'.length=m∧P' ++ R' ++ L' ++ Q'=P ++ R ++ L ++ Q∧RowAt enc wr g 3 (P' ++ L' ++ R' ++ Q') rest∧w.grownBy wr (some g))
  (fun i j _=>(intOf i).toNat + (intOf j).toNat)
 case atStart =>
  refine ⟨P,L,R,Q,?_,?_,hL,hR,HA.out.2.1,rfl,hr,grown_refl _ _⟩
  ·have:=HA.out.2.1;have:=HA.out.1;congr 1;omega
  ·have:=HA.out.2.1;have:=HA.out.2.2;congr 1;omega
 case round =>
  obtain ⟨P',L',R',Q',rfl,rfl,hL',hR',hm',htgt,hrow,hg⟩:=hrel
  have hlen:P'.length + L'.length + R'.length + Q'.length=n:=by
   have:=congrArg List.length htgt
   have h2:=HN.out
   simp at this h2;omega
  generalize hi:L'.length=i at hL' hm' hlen ⊢
  generalize hj:R'.length=j at hR' hlen ⊢
  generalize hp:P'.length=p at hm' hlen
  have hpm:p + i≤m:=by omega
  have hpm':m≤p + i:=by omega
  have hlen':p + i + j≤n:=by omega
  have HI:=Lib.hid (And.intro hi (And.intro hj (And.intro hp (And.intro hm' hlen))));clear hi hj hp hm' hlen
  have HT:=Lib.hid htgt;clear htgt
  by_cases hij:i=j
  ·subst hij
   have he:((i:Int) != (i:Int))=false:=by simp
   go_wp2_with fail
   refine (swap_range g n c _ _ _ (m - i) m i f _ rest _ (by omega) (by omega) (by omega) hrow (by have:=HI.out;simp;omega) hbig (by omega) (by omega)).mono ?_
   rintro e w' ⟨rfl,hrow',hg'⟩
   go_wp2
   go_end0
   refine ⟨rfl,?_,grown_trans hg hg'⟩
   have h:=swapR_split P' L' [] R' Q' (by rw [HI.out.1,HI.out.2.1])
   simp only [List.append_nil,List.length_nil,Nat.add_zero] at h
   rw [HI.out.1,HI.out.2.2.1] at h
   rw [show m - i=p from by omega,show m=p + i from by omega,h,HT.out] at hrow'
   exact hrow'
  ·have he:((i:Int) != (j:Int))=true:=by rw [bne_iff_ne];omega
   by_cases hgt:j < i
   ·go_wp2_with fail
    refine (swap_range g n c _ _ _ (m - i) m j f _ rest _ (by omega) (by omega) (by omega) hrow (by have:=HI.out;simp;omega) hbig (by omega) (by omega)).mono ?_
    rintro e w' ⟨rfl,hrow',hg'⟩
    go_wp2
    refine ⟨⟨P' ++ R',L'.drop j,L'.take j,Q',?_,?_,?_,?_,?_,?_,?_,grown_trans hg hg'⟩,?_⟩
    ·have:=HI.out.1;simp;omega
    ·have:=HI.out.1;simp;omega
    ·have:=HI.out.1;simp;omega
    ·have:=HI.out.1;simp;omega
    ·have:=HI.out;simp;omega
    ·rw [← HT.out];simp only [List.append_assoc];rw [← List.append_assoc (L'.take j),List.take_append_drop]
    ·have h:=swapR_split P' (L'.take j) (L'.drop j) R' Q' (by have:=HI.out;simp;omega)
     rw [List.append_assoc P' (L'.take j),List.take_append_drop] at h
     have hl:(L'.take j).length=j:=by have:=HI.out.1;simp;omega
     have hl2:(L'.drop j).length=i - j:=by have:=HI.out.1;simp;omega
     rw [hl,hl2,HI.out.2.2.1] at h
     rw [show m - i=p from by omega,show m=p + j + (i - j) from by omega,h] at hrow'
     simpa only [List.append_assoc] using hrow'
    ·simp [intOf];omega
   ·go_wp2_with fail
    refine (swap_range g n c _ _ _ (m - i) (m + j - i) i f _ rest _ (by omega) (by omega) (by omega) hrow (by have:=HI.out;simp;omega) hbig (by omega) (by omega)).mono ?_
    rintro e w' ⟨rfl,hrow',hg'⟩
    go_wp2
    refine ⟨⟨P',R'.drop (j - i),R'.take (j - i),L' ++ Q',?_,?_,?_,?_,?_,?_,?_,grown_trans hg hg'⟩,?_⟩
    ·have:=HI.out;simp;omega
    ·have:=HI.out;simp;omega
    ·have:=HI.out;simp;omega
    ·have:=HI.out;simp;omega
    ·have:=HI.out;simp;omega
    ·rw [← HT.out];simp only [List.append_assoc];rw [← List.append_assoc (R'.take (j - i)),List.take_append_drop]
    ·have h:=swapR_split P' L' (R'.take (j - i)) (R'.drop (j - i)) Q' (by have:=HI.out;simp;omega)
     have hl:(R'.take (j - i)).length=j - i:=by have:=HI.out;simp;omega
     rw [hl,HI.out.1,HI.out.2.2.1] at h
     rw [List.append_assoc (P' ++ L'),List.take_append_drop] at h
     rw [show m - i=p from by omega,show m + j - i=p + i + (j - i) from by omega,h] at hrow'
     simpa only [List.append_assoc] using hrow'
    ·simp [intOf];omega
theorem ahead_of_perm {L S:List Z} {k:Nat} (hu:Ups L) (hk:k < L.length) (hp:S.Perm (L.take k)):∀ y,y ∈ S→y.2 < (nth L k).2:=by
 intro y hy
 have h:Ups (L.take k ++ L.drop k):=by rw [List.take_append_drop];exact hu
 refine (List.pairwise_append.1 h).2.2 y (hp.mem_iff.1 hy) _ ?_
 rw [nth_eq hk,List.drop_eq_getElem_cons hk]
 exact List.mem_cons_self

set_option maxHeartbeats 800000 in
theorem insertion (hs:Swo lt) (g n c:Nat) (ai bi:Int) (a b:Nat) (P L Q:List Z) (rest:List Value) (w:World) (ea:ai=a) (eb:bi=b) (hr:RowAt enc w g 3 (P ++ L ++ Q) rest)
 (hn:(P ++ L ++ Q).length=n) (hbig:n≤140737488351232) (ha:P.length=a) (hb:P.length + L.length=b) (hu:Ups L) :
 Calls Tryz.prog 86 #[.slice (some ⟨g,0,none⟩) n c,.int .i64 ai,.int .i64 bi,.func (.func 63) #[] #[]] w fun e w' =>
  e=.returned (.tuple #[])∧(∃ S,S.Perm L∧Srt lt S∧RowAt enc w' g 3 (P ++ S ++ Q) rest)∧w.grownBy w' (some g):=by
 subst ea eb
 have hbn:b≤n:=by simp at hn;omega
 have hab:a≤b:=by omega
 have HA:=Lib.hid (And.intro ha (And.intro hb hn));clear ha hb hn
 go_enter Tryz.func86,Tryz.ntmps86
 go_wp2
 go_loopw [8] (fun i wr=>∃ (k:Nat) (S:List Z),i=.int .i64 ((a + k:Nat):Int)∧1≤k∧(k≤L.length ∨ k=1)∧S.Perm (L.take k)∧Srt lt S ∧
  RowAt enc wr g 3 (P ++ S ++ (L.drop k ++ Q)) rest∧w.grownBy wr (some g)) (fun i _=>b - (intOf i).toNat)
 case atStart =>
  refine ⟨1,L.take 1,by go_num,Nat.le_refl _,.inr rfl,List.Perm.refl _,?_,?_,grown_refl _ _⟩
  ·rcases L with _ | ⟨x,L⟩
   ·exact List.Pairwise.nil
   ·simp [Srt]
  ·rw [List.append_assoc P,← List.append_assoc (L.take 1),List.take_append_drop,← List.append_assoc];exact hr
 case round =>
  obtain ⟨k,S,rfl,hk1,hkL,hperm,hsrt,hrow,hg⟩:=hrel
  have hkn:a + k≤n + 1:=by rcases hkL with h | h <;> (have:=HA.out;omega)
  by_cases hlt:a + k < b
  ·have hkl:k < L.length:=by have:=HA.out;omega
   have hah:=ahead_of_perm hu hkl hperm
   have hSl:S.length=k:=by rw [hperm.length_eq,List.length_take];omega
   have HS:=Lib.hid (And.intro hSl (And.intro hperm hsrt));clear hSl hperm hsrt
   have HAH:=Lib.hid hah;clear hah
   rw [List.drop_eq_getElem_cons hkl,← nth_eq hkl] at hrow
   generalize hx:nth L k=x at hrow HAH
   have HX:=Lib.hid hx;clear hx hkL
   go_wp2_with fail
   go_loopw [9] (fun j wr=>∃ (jj q:Nat) (S1 S2:List Z),j=.int .i64 (jj:Nat)∧jj=a + q∧S1.length=q∧q≤k∧S1 ++ S2=S∧(∀ y,y ∈ S2→zlt lt x y) ∧
    RowAt enc wr g 3 (P ++ S1 ++ x :: S2 ++ (L.drop (k + 1) ++ Q)) rest∧w.grownBy wr (some g)) (fun j _=>(intOf j).toNat)
   case atStart=>exact ⟨a + k,k,S,[],rfl,rfl,HS.out.1,Nat.le_refl _,by simp,by simp,by simpa using hrow,hg⟩
   case round =>
    obtain ⟨jj,q,S1,S2,rfl,hjj,hq,hqk,hS,hS2,hrow,hg⟩:=hrel
    rcases List.eq_nil_or_concat S1 with rfl | ⟨S1',y,rfl⟩
    ·obtain rfl:q=0:=by simpa using hq.symm
     have hd:decide ((a:Int) < (jj:Int))=false:=by simp;omega
     have hd':decide (a < jj)=false:=by simp;omega
     have hjn:jj≤n:=by omega
     clear hjj hq
     go_wp2
     go_quiet (fail)
     go_wp2
     refine ⟨⟨k + 1,x :: S2,by go_num,by omega,.inl (by omega),?_,?_,?_,grown_drewN hg _⟩,by simp [intOf];omega⟩
     ·rw [take_snoc hkl,HX.out]
      simp only [List.nil_append] at hS
      subst hS
      exact (List.Perm.cons x HS.out.2.1).trans (List.perm_append_comm (l₁:=[x]))
     ·simp only [List.nil_append] at hS
      subst hS
      exact List.pairwise_cons.2 ⟨hS2,HS.out.2.2⟩
     ·have:=hrow.drewN nq;simpa using this
    ·rw [List.concat_eq_append] at hq hS hrow
     obtain ⟨r,rfl⟩:∃ r,q=r + 1:=⟨S1'.length,by simpa using hq.symm⟩
     have hr1:S1'.length=r:=by simpa using hq
     have hrow2:RowAt enc wr g 3 ((P ++ S1') ++ y :: x :: (S2 ++ (L.drop (k + 1) ++ Q))) rest:=by simpa using hrow
     have hlen:((P ++ S1') ++ y :: x :: (S2 ++ (L.drop (k + 1) ++ Q))).length=n:=by
      have h1:=HA.out.2.2
      have h2:=HS.out.1
      rw [← hS] at h2
      simp at h1 h2 ⊢
      omega
     have hpr:(P ++ S1').length=a + r:=by have:=HA.out.1;simp;omega
     have c1:wr.cell? ⟨g,jj - 1,none⟩=some (Value.int .i64 y.1):=by
      have h:=hrow2.cell (j:=jj - 1) (by rw [hlen];omega)
      rwa [nth_mid (by omega)] at h
     have c2:wr.cell? ⟨g,jj,none⟩=some (Value.int .i64 x.1):=by
      have h:=hrow2.cell (j:=jj) (by rw [hlen];omega)
      rwa [nth_mid1 (by omega)] at h
     have f1:=hrow2.frozen (jj - 1)
     have f2:=hrow2.frozen jj
     have hrn:jj < n:=by omega
     have hja:a < jj:=by omega
     have hja':(a:Int) < (jj:Int):=by omega
     have HQ:=Lib.hid (And.intro hq (And.intro hS (And.intro hr1 (And.intro hlen (And.intro hpr hjj)))));clear hq hS hr1 hlen hpr hrow hjj
     go_wp2
     go_quiet ((go_at_call 63;exact Calls.quiet_of_same (cmp_q _ _ _)))
     go_wp2
     ·have hlt':cmpI x.1 y.1 < 0:=by assumption
      go_region
      go_wp2
      refine ⟨⟨jj - 1,r,S1',y :: S2,by go_num,?_,?_,?_,?_,?_,?_,?_⟩,by simp [intOf];omega⟩
      ·have:=HQ.out.2.2.2.2.2;omega
      ·exact HQ.out.2.2.1
      ·omega
      ·have:=HQ.out.2.1;simpa using this
      ·intro z hz
       rcases List.mem_cons.1 hz with rfl | hz
       ·exact zlt_of_lt hlt'
       ·exact hS2 z hz
      ·have h1:=((hrow2.drewN (nq + 1)).set (j:=jj) (by rw [HQ.out.2.2.2.1];omega) y).set (j:=jj - 1) (by rw [List.length_set,HQ.out.2.2.2.1];omega) x
       have hj1:jj=(jj - 1) + 1:=by omega
       have hsm:=set_mid (P:=P ++ S1') (x:=y) (y:=x) (v:=y) (u:=x) (Q:=S2 ++ (L.drop (k + 1) ++ Q)) (k:=jj - 1) (by have:=HQ.out;omega)
       rw [← hj1] at hsm
       rw [hsm] at h1
       simpa [enc] using h1
      ·exact grown_setCell (grown_setCell (grown_drewN hg _) _ _) _ _
     ·have hge:¬ cmpI x.1 y.1 < 0:=Int.not_lt.2 (by assumption)
      refine ⟨⟨k + 1,S1' ++ [y] ++ x :: S2,by go_num,by omega,.inl (by omega),?_,?_,?_,grown_drewN hg _⟩,by simp [intOf];omega⟩
      ·have hS:=HQ.out.2.1
       rw [take_snoc hkl,HX.out]
       have hp:=HS.out.2.1
       rw [← hS] at hp
       exact List.perm_middle.trans ((List.Perm.cons x hp).trans (List.perm_append_comm (l₁:=[x])))
      ·have hS:=HQ.out.2.1
       have hst:=HS.out.2.2
       have hyx:zlt lt y x:=zlt_early (HAH.out y (by rw [← hS];simp)) hge
       rw [← hS] at hst
       refine Srt.append hst.left (List.pairwise_cons.2 ⟨hS2,hst.right⟩) fun u hu v hv=>?_
       have hux:zlt lt u x:=by
        rcases List.mem_append.1 hu with hu | hu
        ·exact zlt_trans hs ((hst.left).cross u hu y (by simp)) hyx
        ·rw [List.mem_singleton.1 hu];exact hyx
       rcases List.mem_cons.1 hv with rfl | hv
       ·exact hux
       ·exact hst.cross u hu v hv
      ·have:=hrow2.drewN nq;simpa using this
  ·have hkl:L.length≤k:=by have:=HA.out;omega
   go_wp2
   go_end0
   refine ⟨rfl,⟨S,?_,hsrt,?_⟩,hg⟩
   ·rwa [List.take_of_length_le hkl] at hperm
   ·rw [List.drop_of_length_le hkl,List.nil_append] at hrow
    exact hrow
end SoI
end Go.Proofs.YtgbmnlmnhbkdbaaGreat
/- slices.symMergeCmpFunc at int, walked: it merges two sorted neighbours of a row that the call owns, stably. Conditions: both pieces lie in the row, none is empty. -/
namespace Go.Proofs.YtgbmnlmnhbkdbaaGreat
open Go.RowKit
namespace SoI

def SymAt (g:Nat) (P L R Q:List Z) (rest:List Value) (w:World):Ending→World→Prop:=fun e w' =>
 e=.returned (.tuple #[])∧(∃ S,Merged lt L R S∧RowAt enc w' g 3 (P ++ S ++ Q) rest)∧w.grownBy w' (some g)

set_option maxRecDepth 100000 in
set_option maxHeartbeats 800000 in
theorem sym_one (hs:Swo lt) (g n c:Nat) (ai mi bi:Int) (a m b:Nat) (x:Z) (P R Q:List Z) (rest:List Value) (w:World) (ea:ai=a) (em:mi=m) (eb:bi=b)
 (hr:RowAt enc w g 3 (P ++ [x] ++ R ++ Q) rest)
 (hn:(P ++ [x] ++ R ++ Q).length=n) (hbig:n≤140737488351232) (ha:P.length=a) (hm:P.length + 1=m) (hb:P.length + 1 + R.length=b)
 (hR:0 < R.length) (hsR:Srt lt R) (hah:Ahead [x] R) :
 Calls Tryz.prog 87 #[.slice (some ⟨g,0,none⟩) n c,.int .i64 ai,.int .i64 mi,.int .i64 bi,.func (.func 63) #[] #[]] w (SymAt g P [x] R Q rest w):=by
 subst ea em eb
 have hbn:b≤n:=by simp at hn;omega
 have h1:((m:Int) - (a:Int) == 1)=true:=beq_iff_eq.2 (by omega)
 have hmb:m≤b:=by omega
 have ham:a < m:=by omega
 have HA:=Lib.hid (And.intro ha (And.intro hm (And.intro hb hn)));clear ha hm hb hn
 go_enter Tryz.func87,Tryz.ntmps87
 go_wp2
 go_loopw [10,11] (fun i j wr=>∃ (ii jj:Nat),i=.int .i64 (ii:Nat)∧j=.int .i64 (jj:Nat)∧m≤ii∧ii≤jj∧jj≤b∧RowAt enc wr g 3 (P ++ [x] ++ R ++ Q) rest∧w.grownBy wr (some g) ∧
  (∀ t,t < ii - m→lt (nth R t).1 x.1)∧(∀ t,jj - m≤t→t < R.length→¬ lt (nth R t).1 x.1)) (fun i j _=>(intOf j).toNat - (intOf i).toNat)
 case atStart=>exact ⟨m,b,rfl,rfl,Nat.le_refl _,hmb,Nat.le_refl _,hr,grown_refl _ _,by intro t ht;omega,by intro t ht ht';have:=HA.out;omega⟩
 case round =>
  obtain ⟨ii,jj,rfl,rfl,hi1,hij,hj1,hrow0,hg0,hlo,hhi⟩:=hrel
  have HLO:=Lib.hid hlo;clear hlo
  have HHI:=Lib.hid hhi;clear hhi
  by_cases hlt:ii < jj
  ·obtain ⟨h,hh⟩:∃ h:Nat,((ii:Int) + (jj:Int)) / 2=(h:Int):=⟨(ii + jj) / 2,by omega⟩
   have hh1:ii≤h:=by omega
   have hh2:h < jj:=by omega
   have hhn:h < n:=by omega
   have han:a < n:=by omega
   have c1:wr.cell? ⟨g,h,none⟩=some (Value.int .i64 (nth R (h - m)).1):=by
    have h1:=hrow0.cell (j:=h) (by have:=HA.out;omega)
    rwa [List.append_assoc (P ++ [x]),nth_append_right (by have:=HA.out;simp;omega),nth_append_left (by have:=HA.out;simp;omega),
     show h - (P ++ [x]).length=h - m from by have:=HA.out;simp;omega] at h1
   have c2:wr.cell? ⟨g,a,none⟩=some (Value.int .i64 x.1):=by
    have h1:=hrow0.cell (j:=a) (by have:=HA.out;omega)
    rwa [List.append_assoc (P ++ [x]),List.append_assoc P,List.singleton_append,nth_mid (by have:=HA.out;omega)] at h1
   generalize hy:nth R (h - m)=y at c1
   have HY:=Lib.hid hy;clear hy
   go_wp2
   go_quiet ((go_at_call 63;exact Calls.quiet_of_same (cmp_q _ _ _)))
   go_wp2
   ·have hc:cmpI y.1 x.1 < 0:=by assumption
    refine ⟨⟨h + 1,jj,by go_num,rfl,by omega,by omega,hj1,hrow0.drewN _,grown_drewN hg0 _,?_,HHI.out⟩,by simp [intOf];omega⟩
    intro t ht
    have hsx:∀ t,t < h - m→lt (nth R t).1 x.1:=by
     intro t ht
     have hp:=nth_pair hsR (i:=t) (j:=h - m) ht (by have:=HA.out;omega)
     rw [HY.out] at hp
     have hyx:zlt lt y x:=.inl hc
     exact (zlt_late (hah x (by simp) _ (nth_mem (by have:=HA.out;omega)))).1 (zlt_trans hs hp hyx)
    by_cases e:t < h - m
    ·exact hsx t e
    ·obtain rfl:t=h - m:=by omega
     rw [HY.out];exact hc
   ·have hc:¬ cmpI y.1 x.1 < 0:=Int.not_lt.2 (by assumption)
    refine ⟨⟨ii,h,rfl,by go_num,hi1,hh1,by omega,hrow0.drewN _,grown_drewN hg0 _,HLO.out,?_⟩,by simp [intOf];omega⟩
    intro t ht ht'
    by_cases e:t=h - m
    ·subst e;rw [HY.out];exact hc
    ·intro hlt'
     have hp:=nth_pair hsR (i:=h - m) (j:=t) (by omega) ht'
     rw [HY.out] at hp
     have hyx:zlt lt (nth R t) x:=.inl hlt'
     have hym:y ∈ R:=by rw [← HY.out];exact nth_mem (by omega)
     exact hc ((zlt_late (hah x (by simp) _ hym)).1 (zlt_trans hs hp hyx))
  ·obtain rfl:ii=jj:=by omega
   have hLo:=HLO.out
   have hHi:=HHI.out
   have hS:Merged lt [x] R (R.take (ii - m) ++ x :: R.drop (ii - m)):=by
    refine ⟨?_,?_⟩
    ·refine List.perm_middle.trans ?_
     rw [List.take_append_drop];exact List.Perm.refl _
    ·have hRR:Srt lt (R.take (ii - m) ++ R.drop (ii - m)):=by rw [List.take_append_drop];exact hsR
     refine Srt.append hRR.left (List.pairwise_cons.2 ⟨?_,hRR.right⟩) ?_
     ·intro u hu
      obtain ⟨t,ht,rfl⟩:=mem_nth hu
      rw [nth_drop]
      simp only [List.length_drop] at ht
      exact zlt_early (hah x (by simp) _ (nth_mem (by omega))) (hHi _ (by omega) (by omega))
     ·intro u hu v hv
      have hux:zlt lt u x:=by
       obtain ⟨t,ht,rfl⟩:=mem_nth hu
       simp only [List.length_take] at ht
       rw [nth_take (by omega)]
       exact .inl (hLo t (by omega))
      rcases List.mem_cons.1 hv with rfl | hv
      ·exact hux
      ·exact hRR.cross u hu v hv
   have HS:=Lib.hid hS;clear hS hLo hHi HLO HHI
   have hiR:ii - m≤R.length:=by have:=HA.out;omega
   have hi0:1≤ii:=by omega
   go_wp2
   go_loopw [13] (fun k wr=>∃ (kk:Nat),k=.int .i64 (kk:Nat)∧a≤kk∧kk≤ii - 1 ∧
    RowAt enc wr g 3 (P ++ R.take (kk - a) ++ x :: (R.drop (kk - a) ++ Q)) rest∧w.grownBy wr (some g)) (fun k _=>ii - (intOf k).toNat)
   case atStart=>exact ⟨a,rfl,Nat.le_refl _,by omega,by simpa using hrow0,hg0⟩
   case round =>
    obtain ⟨kk,rfl,hk1,hk2,hrow,hg⟩:=hrel
    by_cases hlt:kk < ii - 1
    ·have hkR:kk - a < R.length:=by have:=HA.out;omega
     rw [List.drop_eq_getElem_cons hkR,← nth_eq hkR] at hrow
     generalize hy:nth R (kk - a)=y at hrow
     have HY:=Lib.hid hy;clear hy
     have hrow2:RowAt enc wr g 3 ((P ++ R.take (kk - a)) ++ x :: y :: (R.drop (kk - a + 1) ++ Q)) rest:=by simpa using hrow
     have hpl:(P ++ R.take (kk - a)).length=kk:=by have:=HA.out;simp;omega
     have hlen:kk + 1 < ((P ++ R.take (kk - a)) ++ x :: y :: (R.drop (kk - a + 1) ++ Q)).length:=by
      rw [List.length_append,hpl];simp
     have c1:wr.cell? ⟨g,kk,none⟩=some (Value.int .i64 x.1):=by
      have h:=hrow2.cell (j:=kk) (by omega)
      rwa [nth_mid hpl.symm] at h
     have c2:wr.cell? ⟨g,kk + 1,none⟩=some (Value.int .i64 y.1):=by
      have h:=hrow2.cell (j:=kk + 1) (by omega)
      rwa [nth_mid1 (by omega)] at h
     have f1:=hrow2.frozen kk
     have f2:=hrow2.frozen (kk + 1)
     have hkn:kk + 1 < n:=by omega
     have hlt':(kk:Int) < (ii:Int) - 1:=by omega
     have HQ:=Lib.hid (And.intro hpl hlen);clear hpl hlen hrow
     go_wp2
     go_region
     go_wp2
     refine ⟨⟨kk + 1,by go_num,by omega,by omega,?_,?_⟩,by simp [intOf];omega⟩
     ·have h1:=(hrow2.set (j:=kk) (by have:=HQ.out.2;omega) y).set (j:=kk + 1) (by have:=HQ.out.2;rw [List.length_set];omega) x
      rw [set_mid' HQ.out.1.symm] at h1
      rw [show kk + 1 - a=kk - a + 1 from by omega,take_snoc hkR,HY.out]
      have h2:=h1.drew
      simpa [enc] using h2
     ·exact grown_drew (grown_setCell (grown_setCell hg _ _) _ _)
    ·have hge:¬ (kk:Int) < (ii:Int) - 1:=by omega
     go_wp2
     go_end0
     refine ⟨rfl,⟨_,HS.out,?_⟩,hg⟩
     rw [show ii - m=kk - a from by have:=HA.out;omega]
     simpa using hrow

set_option maxRecDepth 100000 in
set_option maxHeartbeats 800000 in
theorem sym_two (hs:Swo lt) (g n c:Nat) (ai mi bi:Int) (a m b:Nat) (x:Z) (P L Q:List Z) (rest:List Value) (w:World) (ea:ai=a) (em:mi=m) (eb:bi=b)
 (hr:RowAt enc w g 3 (P ++ L ++ [x] ++ Q) rest)
 (hn:(P ++ L ++ [x] ++ Q).length=n) (hbig:n≤140737488351232) (ha:P.length=a) (hm:P.length + L.length=m) (hb:P.length + L.length + 1=b)
 (hL:1 < L.length) (hsL:Srt lt L) (hah:Ahead L [x]) :
 Calls Tryz.prog 87 #[.slice (some ⟨g,0,none⟩) n c,.int .i64 ai,.int .i64 mi,.int .i64 bi,.func (.func 63) #[] #[]] w (SymAt g P L [x] Q rest w):=by
 subst ea em eb
 have hbn:b≤n:=by simp at hn;omega
 have h1:((m:Int) - (a:Int) == 1)=false:=beq_eq_false_iff_ne.2 (by omega)
 have h2:((b:Int) - (m:Int) == 1)=true:=beq_iff_eq.2 (by omega)
 have hmb:m < b:=by omega
 have ham:a < m:=by omega
 have HA:=Lib.hid (And.intro ha (And.intro hm (And.intro hb hn)));clear ha hm hb hn
 go_enter Tryz.func87,Tryz.ntmps87
 go_wp2
 go_loopw [14,15] (fun i j wr=>∃ (ii jj:Nat),i=.int .i64 (ii:Nat)∧j=.int .i64 (jj:Nat)∧a≤ii∧ii≤jj∧jj≤m∧RowAt enc wr g 3 (P ++ L ++ [x] ++ Q) rest∧w.grownBy wr (some g) ∧
  (∀ t,t < ii - a→¬ lt x.1 (nth L t).1)∧(∀ t,jj - a≤t→t < L.length→lt x.1 (nth L t).1)) (fun i j _=>(intOf j).toNat - (intOf i).toNat)
 case atStart=>exact ⟨a,m,rfl,rfl,Nat.le_refl _,by omega,Nat.le_refl _,hr,grown_refl _ _,by intro t ht;omega,by intro t ht ht';have:=HA.out;omega⟩
 case round =>
  obtain ⟨ii,jj,rfl,rfl,hi1,hij,hj1,hrow0,hg0,hlo,hhi⟩:=hrel
  have HLO:=Lib.hid hlo;clear hlo
  have HHI:=Lib.hid hhi;clear hhi
  by_cases hlt:ii < jj
  ·obtain ⟨h,hh⟩:∃ h:Nat,((ii:Int) + (jj:Int)) / 2=(h:Int):=⟨(ii + jj) / 2,by omega⟩
   have hh1:ii≤h:=by omega
   have hh2:h < jj:=by omega
   have hhn:h < n:=by omega
   have han:m < n:=by omega
   have c1:wr.cell? ⟨g,h,none⟩=some (Value.int .i64 (nth L (h - a)).1):=by
    have h1:=hrow0.cell (j:=h) (by have:=HA.out;omega)
    rwa [List.append_assoc (P ++ L),List.append_assoc P,nth_append_right (by have:=HA.out;omega),nth_append_left (by have:=HA.out;omega),
     show h - P.length=h - a from by have:=HA.out;omega] at h1
   have c2:wr.cell? ⟨g,m,none⟩=some (Value.int .i64 x.1):=by
    have h1:=hrow0.cell (j:=m) (by have:=HA.out;omega)
    rwa [List.append_assoc (P ++ L),List.singleton_append,nth_mid (by have:=HA.out;simp;omega)] at h1
   generalize hy:nth L (h - a)=y at c1
   have HY:=Lib.hid hy;clear hy
   have hyL:y ∈ L:=by rw [← HY.out];exact nth_mem (by have:=HA.out;omega)
   go_wp2
   go_quiet ((go_at_call 63;exact Calls.quiet_of_same (cmp_q _ _ _)))
   go_wp2
   rotate_left
   ·have hc:lt x.1 y.1:=by
     have h:(!decide (cmpI x.1 y.1 < 0))=false:=by assumption
     unfold lt;simpa using h
    refine ⟨⟨ii,h,rfl,by go_num,hi1,hh1,by omega,hrow0.drewN _,grown_drewN hg0 _,HLO.out,?_⟩,by simp [intOf];omega⟩
    intro t ht ht'
    by_cases e:t=h - a
    ·subst e;rw [HY.out];exact hc
    ·have hp:=nth_pair hsL (i:=h - a) (j:=t) (by omega) ht'
     rw [HY.out] at hp
     exact (zlt_late (hah _ (nth_mem (by omega)) x (by simp))).1 (zlt_trans hs (.inl hc) hp)
   ·have hc:¬ lt x.1 y.1:=by
     have h:(!decide (cmpI x.1 y.1 < 0))=true:=by assumption
     unfold lt;simpa using h
    refine ⟨⟨h + 1,jj,by go_num,rfl,by omega,by omega,hj1,hrow0.drewN _,grown_drewN hg0 _,?_,HHI.out⟩,by simp [intOf];omega⟩
    intro t ht
    by_cases e:t=h - a
    ·subst e;rw [HY.out];exact hc
    ·intro hlt'
     have hp:=nth_pair hsL (i:=t) (j:=h - a) (by omega) (by have:=HA.out;omega)
     rw [HY.out] at hp
     exact hc ((zlt_late (hah _ hyL x (by simp))).1 (zlt_trans hs (.inl hlt') hp))
  ·obtain rfl:ii=jj:=by omega
   have hLo:=HLO.out
   have hHi:=HHI.out
   have hiL:ii - a≤L.length:=by have:=HA.out;omega
   have hS:Merged lt L [x] (L.take (ii - a) ++ x :: L.drop (ii - a)):=by
    refine ⟨?_,?_⟩
    ·refine List.perm_middle.trans ?_
     rw [List.take_append_drop];exact List.perm_append_comm (l₁:=[x])
    ·have hLL:Srt lt (L.take (ii - a) ++ L.drop (ii - a)):=by rw [List.take_append_drop];exact hsL
     refine Srt.append hLL.left (List.pairwise_cons.2 ⟨?_,hLL.right⟩) ?_
     ·intro u hu
      obtain ⟨t,ht,rfl⟩:=mem_nth hu
      rw [nth_drop]
      simp only [List.length_drop] at ht
      exact .inl (hHi _ (by omega) (by omega))
     ·intro u hu v hv
      have hux:zlt lt u x:=by
       obtain ⟨t,ht,rfl⟩:=mem_nth hu
       simp only [List.length_take] at ht
       rw [nth_take (by omega)]
       exact zlt_early (hah _ (nth_mem (by omega)) x (by simp)) (hLo t (by omega))
      rcases List.mem_cons.1 hv with rfl | hv
      ·exact hux
      ·exact hLL.cross u hu v hv
   have HS:=Lib.hid hS;clear hS hLo hHi HLO HHI
   go_wp2
   go_loopw [17] (fun k wr=>∃ (kk:Nat),k=.int .i64 (kk:Nat)∧ii≤kk∧kk≤m ∧
    RowAt enc wr g 3 (P ++ L.take (kk - a) ++ x :: (L.drop (kk - a) ++ Q)) rest∧w.grownBy wr (some g)) (fun k _=>(intOf k).toNat)
   case atStart=>exact ⟨m,rfl,by omega,by omega,by
    have e:m - a=L.length:=by have:=HA.out;omega
    rw [e,List.take_length,List.drop_length];simpa using hrow0,hg0⟩
   case round =>
    obtain ⟨kk,rfl,hk1,hk2,hrow,hg⟩:=hrel
    by_cases hlt:ii < kk
    ·have hkL:kk - a - 1 < L.length:=by have:=HA.out;omega
     rw [show kk - a=kk - a - 1 + 1 from by omega,take_snoc hkL] at hrow
     generalize hy:nth L (kk - a - 1)=y at hrow
     have HY:=Lib.hid hy;clear hy
     have hrow2:RowAt enc wr g 3 ((P ++ L.take (kk - a - 1)) ++ y :: x :: (L.drop (kk - a - 1 + 1) ++ Q)) rest:=by simpa using hrow
     have hpl:(P ++ L.take (kk - a - 1)).length=kk - 1:=by have:=HA.out;simp;omega
     have hlen:kk < ((P ++ L.take (kk - a - 1)) ++ y :: x :: (L.drop (kk - a - 1 + 1) ++ Q)).length:=by
      rw [List.length_append,hpl];simp;omega
     have c1:wr.cell? ⟨g,kk - 1,none⟩=some (Value.int .i64 y.1):=by
      have h:=hrow2.cell (j:=kk - 1) (by omega)
      rwa [nth_mid hpl.symm] at h
     have c2:wr.cell? ⟨g,kk,none⟩=some (Value.int .i64 x.1):=by
      have h:=hrow2.cell (j:=kk) (by omega)
      rwa [nth_mid1 (by omega)] at h
     have f1:=hrow2.frozen (kk - 1)
     have f2:=hrow2.frozen kk
     have hkn:kk < n:=by omega
     have HQ:=Lib.hid (And.intro hpl hlen);clear hpl hlen hrow
     go_wp2
     go_region
     go_wp2
     refine ⟨⟨kk - 1,by go_num,by omega,by omega,?_,?_⟩,by simp [intOf];omega⟩
     ·have h1:=(hrow2.set (j:=kk) (by have:=HQ.out.2;omega) y).set (j:=kk - 1) (by have:=HQ.out.2;rw [List.length_set];omega) x
      have hsm:=set_mid (P:=P ++ L.take (kk - a - 1)) (x:=y) (y:=x) (v:=y) (u:=x) (Q:=L.drop (kk - a - 1 + 1) ++ Q) HQ.out.1.symm
      rw [show kk - 1 + 1=kk from by omega] at hsm
      rw [hsm] at h1
      have h2:=h1.drew
      rw [show kk - 1 - a=kk - a - 1 from by omega,List.drop_eq_getElem_cons hkL,← nth_eq hkL,HY.out]
      simpa [enc] using h2
     ·exact grown_drew (grown_setCell (grown_setCell hg _ _) _ _)
    ·obtain rfl:ii=kk:=by omega
     go_wp2
     go_end0
     refine ⟨rfl,⟨_,HS.out,?_⟩,hg⟩
     simpa using hrow
end SoI
end Go.Proofs.YtgbmnlmnhbkdbaaGreat
