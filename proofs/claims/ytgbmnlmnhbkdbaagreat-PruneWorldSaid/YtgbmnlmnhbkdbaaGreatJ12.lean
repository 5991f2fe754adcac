/- Joined by program out of: Sort3I, Sort4I. What each says stands at its own head. -/
import Derived.Test.YtgbmnlmnhbkdbaaGreatJ11
import Derived.Deep.DeepCutAuto
set_option linter.unusedVariables false
set_option linter.unusedSimpArgs false
/- slices.symMergeCmpFunc at int, whole: it merges two sorted neighbours of a row that the call owns, stably. Conditions: both pieces lie in the row, none is empty. -/
namespace Go.Proofs.YtgbmnlmnhbkdbaaGreat
open Go.RowKit
namespace SoI

theorem parted (hs:Swo lt) {L R:List Z} (hsL:Srt lt L) (hsR:Srt lt R) (hah:Ahead L R) {i j:Nat} (hi:i≤L.length) (hj:j≤R.length)
 (h1:i=0 ∨ j=R.length ∨ ¬ lt (nth R j).1 (nth L (i - 1)).1) (h2:j=0 ∨ i=L.length ∨ lt (nth R (j - 1)).1 (nth L i).1) :
 ∀ y,y ∈ L.take i ∨ y ∈ R.take j→∀ x,x ∈ L.drop i ∨ x ∈ R.drop j→zlt lt y x:=by
 have hLL:Srt lt (L.take i ++ L.drop i):=by rw [List.take_append_drop];exact hsL
 have hRR:Srt lt (R.take j ++ R.drop j):=by rw [List.take_append_drop];exact hsR
 intro y hy x hx
 rcases hy with hy | hy <;> rcases hx with hx | hx
 ·exact hLL.cross y hy x hx
 ·obtain ⟨t,ht,rfl⟩:=mem_nth hy
  obtain ⟨u,hu,rfl⟩:=mem_nth hx
  simp only [List.length_take,List.length_drop] at ht hu
  rw [nth_take (by omega),nth_drop]
  have h3:¬ lt (nth R j).1 (nth L (i - 1)).1:=by rcases h1 with h | h | h;omega;omega;exact h
  have h4:zlt lt (nth L (i - 1)) (nth R j):=zlt_early (hah _ (nth_mem (by omega)) _ (nth_mem (by omega))) h3
  have h5:zlt lt (nth L t) (nth R j):=by
   by_cases e:t=i - 1
   ·rw [e];exact h4
   ·exact zlt_trans hs (nth_pair hsL (by omega) (by omega)) h4
  by_cases e:u=0
  ·subst e;exact h5
  ·exact zlt_trans hs h5 (nth_pair hsR (by omega) (by omega))
 ·obtain ⟨t,ht,rfl⟩:=mem_nth hy
  obtain ⟨u,hu,rfl⟩:=mem_nth hx
  simp only [List.length_take,List.length_drop] at ht hu
  rw [nth_take (by omega),nth_drop]
  have h3:lt (nth R (j - 1)).1 (nth L i).1:=by rcases h2 with h | h | h;omega;omega;exact h
  have h5:zlt lt (nth R t) (nth L i):=by
   by_cases e:t=j - 1
   ·rw [e];exact .inl h3
   ·exact zlt_trans hs (nth_pair hsR (by omega) (by omega)) (.inl h3)
  by_cases e:u=0
  ·subst e;exact h5
  ·exact zlt_trans hs h5 (nth_pair hsL (by omega) (by omega))
 ·exact hRR.cross y hy x hx

def SymUpTo (N:Nat):Prop:=
 ∀ (g n c:Nat) (ai mi bi:Int) (a m b:Nat) (P L R Q:List Z) (rest:List Value) (w:World),L.length + R.length≤N→ai=a→mi=m→bi=b →
  RowAt enc w g 3 (P ++ L ++ R ++ Q) rest→(P ++ L ++ R ++ Q).length=n→n≤140737488351232→P.length=a→P.length + L.length=m→P.length + L.length + R.length=b →
  0 < L.length→0 < R.length→Srt lt L→Srt lt R→Ahead L R →
  Calls Tryz.prog 87 #[.slice (some ⟨g,0,none⟩) n c,.int .i64 ai,.int .i64 mi,.int .i64 bi,.func (.func 63) #[] #[]] w (SymAt g P L R Q rest w)

set_option maxRecDepth 100000 in
set_option maxHeartbeats 1600000 in
theorem sym_step (hs:Swo lt) (N:Nat) (ih:SymUpTo N) (g n c:Nat) (a m b:Nat) (P L R Q:List Z) (rest:List Value) (w:World) (hN:L.length + R.length≤N + 1)
 (hr:RowAt enc w g 3 (P ++ L ++ R ++ Q) rest) (hn:(P ++ L ++ R ++ Q).length=n) (hbig:n≤140737488351232) (ha:P.length=a) (hm:P.length + L.length=m) (hb:P.length + L.length + R.length=b)
 (hL:1 < L.length) (hR:1 < R.length) (hsL:Srt lt L) (hsR:Srt lt R) (hah:Ahead L R) :
 Calls Tryz.prog 87 #[.slice (some ⟨g,0,none⟩) n c,.int .i64 a,.int .i64 m,.int .i64 b,.func (.func 63) #[] #[]] w (SymAt g P L R Q rest w):=by
 have hbn:b≤n:=by simp at hn;omega
 have h1:((m:Int) - (a:Int) == 1)=false:=beq_eq_false_iff_ne.2 (by omega)
 have h2:((b:Int) - (m:Int) == 1)=false:=beq_eq_false_iff_ne.2 (by omega)
 obtain ⟨mid,hmid⟩:∃ mid:Nat,((a:Int) + (b:Int)) / 2=(mid:Int):=⟨(a + b) / 2,by omega⟩
 obtain ⟨pp,hpp⟩:∃ pp:Nat,(mid:Int) + (m:Int) - 1=(pp:Int):=⟨mid + m - 1,by omega⟩
 have hmb:m + 1 < b:=by omega
 have ham:a + 1 < m:=by omega
 have hmid1:a + b≤2 * mid + 1:=by omega
 have hmid2:2 * mid≤a + b:=by omega
 have hpp1:pp + 1≤mid + m:=by omega
 have hpp2:mid + m≤pp + 1:=by omega
 have HA:=Lib.hid (And.intro ha (And.intro hm (And.intro hb hn)));clear ha hm hb hn
 go_enter Tryz.func87,Tryz.ntmps87
 go_upto_if 140 with fail
 go_cut [20,21] (fun s r wx=>∃ s0 r0:Nat,s=.int .i64 (s0:Nat)∧r=.int .i64 (r0:Nat)∧a≤s0∧s0≤r0∧r0≤m∧r0≤mid∧mid + m≤b + s0∧(s0=a ∨ mid + m=b + s0)∧(r0=m ∨ r0=mid)∧w=wx)
 case first=>as_aux_lemma =>
  go_wp2_with fail
  ·have hc:mid < m:=by assumption
   go_meet
   exact ⟨mid + m - b,mid,by go_num,rfl,by omega,by omega,by omega,by omega,by omega,by omega,by omega,rfl⟩
  ·have hc:¬ mid < m:=by omega
   go_meet
   exact ⟨a,m,rfl,rfl,by omega,by omega,by omega,by omega,by omega,by omega,by omega,rfl⟩
 case rest=>as_aux_lemma =>
  obtain ⟨s0,r0,rfl,rfl,hs1,hs2,hs3,hs4,hs5,hs6,hs7,rfl⟩:=hcut
  have HS67:=Lib.hid (And.intro hs6 hs7);clear hs6 hs7
  go_wp2_with fail
  go_loopw [20,21] (fun s r wr=>∃ (ss rr:Nat),s=.int .i64 (ss:Nat)∧r=.int .i64 (rr:Nat)∧s0≤ss∧ss≤rr∧rr≤r0 ∧
   RowAt enc wr g 3 (P ++ L ++ R ++ Q) rest∧w.grownBy wr (some g) ∧
   (s0 < ss→¬ lt (nth R (pp - (ss - 1) - m)).1 (nth L (ss - 1 - a)).1)∧(rr < r0→lt (nth R (pp - rr - m)).1 (nth L (rr - a)).1)) (fun s r _=>(intOf r).toNat - (intOf s).toNat)
  case atStart=>exact ⟨s0,r0,rfl,rfl,Nat.le_refl _,hs2,Nat.le_refl _,hr,grown_refl _ _,by intro h;omega,by intro h;omega⟩
  case round=>as_aux_lemma =>
   obtain ⟨ss,rr,rfl,rfl,hr1,hr2,hr3,hrow,hg,hlo,hhi⟩:=hrel
   have HLO:=Lib.hid hlo;clear hlo
   have HHI:=Lib.hid hhi;clear hhi
   by_cases hlt:ss < rr
   ·obtain ⟨h,hh⟩:∃ h:Nat,((ss:Int) + (rr:Int)) / 2=(h:Int):=⟨(ss + rr) / 2,by omega⟩
    have hh1:ss≤h:=by omega
    have hh2:h < rr:=by omega
    have hhn:h < n:=by omega
    have hpn:pp - h < n:=by omega
    have hpn':(pp:Int) - (h:Int) < (n:Int):=by omega
    have hpn0:0≤(pp:Int) - (h:Int):=by omega
    have c1:wr.cell? ⟨g,h,none⟩=some (Value.int .i64 (nth L (h - a)).1):=by
     have h1:=hrow.cell (j:=h) (by have:=HA.out;omega)
     rwa [List.append_assoc (P ++ L),List.append_assoc P,nth_append_right (by have:=HA.out;omega),nth_append_left (by have:=HA.out;omega),
      show h - P.length=h - a from by have:=HA.out;omega] at h1
    have c2:wr.cell? ⟨g,pp - h,none⟩=some (Value.int .i64 (nth R (pp - h - m)).1):=by
     have h1:=hrow.cell (j:=pp - h) (by have:=HA.out;omega)
     rwa [List.append_assoc (P ++ L),nth_append_right (by have:=HA.out;simp;omega),nth_append_left (by have:=HA.out;simp;omega),
      show pp - h - (P ++ L).length=pp - h - m from by have:=HA.out;simp;omega] at h1
    generalize hy:nth L (h - a)=y at c1
    generalize hx:nth R (pp - h - m)=x at c2
    have HY:=Lib.hid (And.intro hy hx);clear hy hx
    go_wp2_with fail
    go_quiet ((go_at_call 63;exact Calls.quiet_of_same (cmp_q _ _ _)))
    go_wp2_with fail
    rotate_left
    ·have hc:lt x.1 y.1:=by
      have h:(!decide (cmpI x.1 y.1 < 0))=false:=by assumption
      unfold lt;simpa using h
     refine ⟨⟨ss,h,rfl,by go_num,hr1,hh1,by omega,hrow.drewN _,grown_drewN hg _,HLO.out,fun _=>?_⟩,by simp [intOf];omega⟩
     rw [HY.out.1,HY.out.2];exact hc
    ·have hc:¬ lt x.1 y.1:=by
      have h:(!decide (cmpI x.1 y.1 < 0))=true:=by assumption
      unfold lt;simpa using h
     refine ⟨⟨h + 1,rr,by go_num,rfl,by omega,by omega,hr3,hrow.drewN _,grown_drewN hg _,fun _=>?_,HHI.out⟩,by simp [intOf];omega⟩
     rw [show h + 1 - 1=h from by omega,HY.out.1,HY.out.2];exact hc
   ·obtain rfl:ss=rr:=by omega
    obtain ⟨ee,hee⟩:∃ ee:Nat,(mid:Int) + (m:Int) - (ss:Int)=(ee:Int):=⟨mid + m - ss,by omega⟩
    have he1:mid + m≤ee + ss:=by omega
    have he2:ee + ss≤mid + m:=by omega
    have he3:m≤ee:=by omega
    have he4:ee≤b:=by omega
    have hpt:∀ y,y ∈ L.take (ss - a) ∨ y ∈ R.take (ee - m)→∀ x,x ∈ L.drop (ss - a) ∨ x ∈ R.drop (ee - m)→zlt lt y x:=by
     have h67:=HS67.out
     have hA:=HA.out
     have hlo:=HLO.out
     have hhi:=HHI.out
     refine parted hs hsL hsR hah (by omega) (by omega) ?_ ?_
     ·by_cases e:s0 < ss
      ·right;right
       have:=hlo e
       rwa [show pp - (ss - 1) - m=ee - m from by omega,show ss - 1 - a=ss - a - 1 from by omega] at this
      ·rcases h67.1 with h | h
       ·left;omega
       ·right;left;omega
     ·by_cases e:ss < r0
      ·right;right
       have:=hhi e
       rwa [show pp - ss - m=ee - m - 1 from by omega] at this
      ·rcases h67.2 with h | h
       ·right;left;omega
       ·left;omega
    have hl1:(L.take (ss - a)).length=ss - a:=by have:=HA.out;simp;omega
    have hl2:(L.drop (ss - a)).length=m - ss:=by have:=HA.out;simp;omega
    have hl3:(R.take (ee - m)).length=ee - m:=by have:=HA.out;simp;omega
    have hl4:(R.drop (ee - m)).length=b - ee:=by have:=HA.out;simp;omega
    have hLL:=List.take_append_drop (ss - a) L
    have hRR:=List.take_append_drop (ee - m) R
    have hsLL:Srt lt (L.take (ss - a) ++ L.drop (ss - a)):=by rw [hLL];exact hsL
    have hsRR:Srt lt (R.take (ee - m) ++ R.drop (ee - m)):=by rw [hRR];exact hsR
    have hah':Ahead (L.take (ss - a) ++ L.drop (ss - a)) (R.take (ee - m) ++ R.drop (ee - m)):=by rw [hLL,hRR];exact hah
    have hrow':RowAt enc wr g 3 (P ++ (L.take (ss - a) ++ L.drop (ss - a)) ++ (R.take (ee - m) ++ R.drop (ee - m)) ++ Q) rest:=by rw [hLL,hRR];exact hrow
    have hfin:SymAt g P (L.take (ss - a) ++ L.drop (ss - a)) (R.take (ee - m) ++ R.drop (ee - m)) Q rest w=SymAt g P L R Q rest w:=by rw [hLL,hRR]
    have hnn:(P ++ (L.take (ss - a) ++ L.drop (ss - a)) ++ (R.take (ee - m) ++ R.drop (ee - m)) ++ Q).length=n:=by rw [hLL,hRR];exact HA.out.2.2.2
    generalize L.take (ss - a)=L1 at *
    generalize L.drop (ss - a)=L2 at *
    generalize R.take (ee - m)=R1 at *
    generalize R.drop (ee - m)=R2 at *
    have HH:=Lib.hid (And.intro hl1 (And.intro hl2 (And.intro hl3 (And.intro hl4 (And.intro hsLL (And.intro hsRR (And.intro hah' (And.intro hpt (And.intro hfin hnn)))))))))
    clear hl1 hl2 hl3 hl4 hsLL hsRR hah' hpt hfin hLL hRR hrow HLO HHI hnn
    go_upto_region 39 with fail
    go_cut [185] (fun t wx=>∃ bb:Bool,t=.bool bb∧(bb=true ↔ ss < m∧m < ee)∧wr=wx)
    case first=>as_aux_lemma =>
     go_wp2_with fail
     all_goals
      go_meet
      exact ⟨_,rfl,by simp;omega,rfl⟩
    case rest=>as_aux_lemma =>
     obtain ⟨bb,rfl,hbb,rfl⟩:=hcut
     have HB:=Lib.hid hbb;clear hbb
     go_upto_if 185 with fail
     go_cut [] (fun wx=>RowAt enc wx g 3 (P ++ L1 ++ R1 ++ L2 ++ (R2 ++ Q)) rest∧w.grownBy wx (some g))
     case first=>as_aux_lemma =>
      rcases bb
      ·have hbb:¬ (ss < m∧m < ee):=fun h=>by have:=HB.out.2 h;cases this
       have hz:L2=[] ∨ R1=[]:=by
        have:=HH.out
        by_cases h:ss < m
        ·right;exact List.eq_nil_of_length_eq_zero (by omega)
        ·left;exact List.eq_nil_of_length_eq_zero (by omega)
       have HZ:=Lib.hid hz;clear hz hbb
       go_wp2_with fail
       go_meet
       refine ⟨?_,hg⟩
       rcases HZ.out with h | h <;> subst h <;> simpa using hrow'
      ·have hbb:=HB.out.1 rfl
       have h1:ss < m:=hbb.1
       have h2:m < ee:=hbb.2
       clear hbb
       go_wp2_with fail
       refine (rotate g n c _ _ _ ss m ee _ (P ++ L1) L2 R1 (R2 ++ Q) rest _ rfl rfl (by omega) (by simpa using hrow') (by have:=HH.out.2.2.2.2.2.2.2.2.2;simpa using this) hbig
        (by have:=HH.out;have:=HA.out;simp;omega) (by have:=HH.out;have:=HA.out;simp;omega) (by have:=HH.out;have:=HA.out;simp;omega) (by have:=HH.out;omega) (by have:=HH.out;omega)).mono ?_
       rintro e w' ⟨rfl,hrow2,hg2⟩
       go_wp2_with fail
       go_meet
       exact ⟨hrow2,grown_trans hg hg2⟩
     case rest=>as_aux_lemma =>
      obtain ⟨hrow1,hg1⟩:=hcut
      clear hrow' hg HB
      go_upto_region 41 with fail
      go_cut [199] (fun t wx=>∃ bb:Bool,t=.bool bb∧(bb=true ↔ a < ss∧ss < mid)∧wc=wx)
      case first=>as_aux_lemma =>
       go_wp2_with fail
       all_goals
        go_meet
        exact ⟨_,rfl,by simp;omega,rfl⟩
      case rest=>as_aux_lemma =>
       obtain ⟨bb,rfl,hbb,rfl⟩:=hcut
       have HB:=Lib.hid hbb;clear hbb
       go_upto_if 199 with fail
       go_cut [] (fun wx=>(∃ S1,Merged lt L1 R1 S1∧RowAt enc wx g 3 (P ++ S1 ++ L2 ++ R2 ++ Q) rest)∧w.grownBy wx (some g))
       case first=>as_aux_lemma =>
        rcases bb
        ·have hbb:¬ (a < ss∧ss < mid):=fun h=>by have:=HB.out.2 h;cases this
         have hz:L1=[] ∨ R1=[]:=by
          have:=HH.out
          by_cases h:a < ss
          ·right;exact List.eq_nil_of_length_eq_zero (by omega)
          ·left;exact List.eq_nil_of_length_eq_zero (by omega)
         have HZ:=Lib.hid hz;clear hz hbb
         go_wp2_with fail
         go_meet
         refine ⟨?_,hg1⟩
         have hH:=HH.out
         rcases HZ.out with h | h <;> subst h
         ·exact ⟨R1,Merged.nil_left hH.2.2.2.2.2.1.left,by simpa using hrow1⟩
         ·exact ⟨L1,Merged.nil_right hH.2.2.2.2.1.left,by simpa using hrow1⟩
        ·have hbb:=HB.out.1 rfl
         have h1:a < ss:=hbb.1
         have h2:ss < mid:=hbb.2
         clear hbb
         go_wp2_with fail
         refine (ih g n c _ _ _ a ss mid P L1 R1 (L2 ++ R2 ++ Q) rest _ (by have:=HH.out;have:=HA.out;omega) rfl rfl rfl (by simpa using hrow1) (by have:=HH.out.2.2.2.2.2.2.2.2.2;simp at this ⊢;omega) hbig
          HA.out.1 (by have:=HH.out;have:=HA.out;omega) (by have:=HH.out;have:=HA.out;omega) (by have:=HH.out;omega) (by have:=HH.out;omega)
          HH.out.2.2.2.2.1.left HH.out.2.2.2.2.2.1.left (fun y hy x hx=>HH.out.2.2.2.2.2.2.1 y (by simp [hy]) x (by simp [hx]))).mono ?_
         rintro e w' ⟨rfl,⟨S1,hS1,hrow2⟩,hg2⟩
         go_wp2_with fail
         go_meet
         exact ⟨⟨S1,hS1,by simpa using hrow2⟩,grown_trans hg1 hg2⟩
       case rest=>as_aux_lemma =>
        obtain ⟨⟨S1,hS1,hrow2⟩,hg2⟩:=hcut
        have HS1:=Lib.hid hS1;clear hS1
        clear hrow1 hg1 HB
        have hS1l:S1.length=mid - a:=by rw [HS1.out.1.length_eq];have:=HH.out;simp;omega
        by_cases hc:mid < ee∧ee < b
        ·obtain ⟨hc1,hc2⟩:=hc
         go_wp2_with fail
         refine (ih g n c _ _ _ mid ee b (P ++ S1) L2 R2 Q rest _ (by have:=HH.out;have:=HA.out;omega) rfl rfl rfl (by simpa using hrow2)
          (by have:=HH.out.2.2.2.2.2.2.2.2.2;have:=HH.out;simp at this ⊢;omega) hbig
          (by have:=HA.out;simp;omega) (by have:=HH.out;have:=HA.out;simp;omega) (by have:=HH.out;have:=HA.out;simp;omega) (by have:=HH.out;omega) (by have:=HH.out;omega)
          HH.out.2.2.2.2.1.right HH.out.2.2.2.2.2.1.right (fun y hy x hx=>HH.out.2.2.2.2.2.2.1 y (by simp [hy]) x (by simp [hx]))).mono ?_
         rintro e w' ⟨rfl,⟨S2,hS2,hrow3⟩,hg3⟩
         go_wp2_with fail
         go_end0
         rw [← HH.out.2.2.2.2.2.2.2.2.1]
         exact ⟨rfl,⟨S1 ++ S2,Merged.halves HS1.out hS2 HH.out.2.2.2.2.2.2.2.1,by simpa using hrow3⟩,grown_trans hg2 hg3⟩
        ·have hz:L2=[] ∨ R2=[]:=by
          have:=HH.out
          by_cases h:mid < ee
          ·right;exact List.eq_nil_of_length_eq_zero (by omega)
          ·left;exact List.eq_nil_of_length_eq_zero (by omega)
         have HZ:=Lib.hid hz;clear hz
         have HC:=Lib.hid hc;clear hc
         go_wp2_with fail
         all_goals first
          | exact absurd ⟨by assumption,by assumption⟩ HC.out
          | (go_end0
             rw [← HH.out.2.2.2.2.2.2.2.2.1]
             have hH:=HH.out
             rcases HZ.out with h | h <;> subst h
             ·exact ⟨rfl,⟨S1 ++ R2,Merged.halves HS1.out (Merged.nil_left hH.2.2.2.2.2.1.right) hH.2.2.2.2.2.2.2.1,by simpa using hrow2⟩,hg2⟩
             ·exact ⟨rfl,⟨S1 ++ L2,Merged.halves HS1.out (Merged.nil_right hH.2.2.2.2.1.right) hH.2.2.2.2.2.2.2.1,by simpa using hrow2⟩,hg2⟩)
end SoI
end Go.Proofs.YtgbmnlmnhbkdbaaGreat
/- slices.SortStableFunc at int: it sorts a row that the call owns, stably. Condition: the slice is the head of that row. -/
namespace Go.Proofs.YtgbmnlmnhbkdbaaGreat
open Go.RowKit
namespace SoI

theorem sym_upto (hs:Swo lt) (N:Nat):SymUpTo N:=by
 induction N with
 | zero=>intro g n c ai mi bi a m b P L R Q rest w hN _ _ _ _ _ _ _ _ _ hL;omega
 | succ N ih =>
   intro g n c ai mi bi a m b P L R Q rest w hN ea em eb hr hn hbig ha hm hb hL hR hsL hsR hah
   by_cases h1:L.length=1
   ·obtain ⟨x,rfl⟩:=List.length_eq_one_iff.1 h1
    exact sym_one hs g n c ai mi bi a m b x P R Q rest w ea em eb hr hn hbig ha (by simpa using hm) (by simpa using hb) hR hsR hah
   ·by_cases h2:R.length=1
    ·obtain ⟨x,rfl⟩:=List.length_eq_one_iff.1 h2
     exact sym_two hs g n c ai mi bi a m b x P L Q rest w ea em eb hr hn hbig ha hm (by simpa using hb) (by omega) hsL hah
    ·subst ea em eb
     exact sym_step hs N ih g n c a m b P L R Q rest w hN hr hn hbig ha hm hb (by omega) (by omega) hsL hsR hah

theorem ins_seg (hs:Swo lt) (g n c:Nat) (ai bi:Int) (a l:Nat) (cur:List Z) (rest:List Value) (w:World) (ea:ai=a) (eb:bi=((a + l:Nat):Int)) (hr:RowAt enc w g 3 cur rest)
 (hn:cur.length=n) (hbig:n≤140737488351232) (hl:a + l≤n) (hu:Ups (seg cur a l)) :
 Calls Tryz.prog 86 #[.slice (some ⟨g,0,none⟩) n c,.int .i64 ai,.int .i64 bi,.func (.func 63) #[] #[]] w fun e w' =>
  e=.returned (.tuple #[])∧(∃ S,S.Perm (seg cur a l)∧Srt lt S∧RowAt enc w' g 3 (cur.take a ++ S ++ cur.drop (a + l)) rest)∧w.grownBy w' (some g):=
 insertion hs g n c ai bi a (a + l) (cur.take a) (seg cur a l) (cur.drop (a + l)) rest w ea eb (by rw [← split3];exact hr) (by rw [← split3];exact hn) hbig (by simp;omega)
  (by rw [seg_length (by omega)];simp;omega) hu

theorem sym_seg (hs:Swo lt) (g n c:Nat) (ai mi bi:Int) (a l r:Nat) (cur:List Z) (rest:List Value) (w:World) (ea:ai=a) (em:mi=((a + l:Nat):Int)) (eb:bi=((a + (l + r):Nat):Int))
 (hr:RowAt enc w g 3 cur rest) (hn:cur.length=n) (hbig:n≤140737488351232) (hl:a + (l + r)≤n) (hl0:0 < l) (hr0:0 < r)
 (h1:Srt lt (seg cur a l)) (h2:Srt lt (seg cur (a + l) r)) (hah:Ahead (seg cur a l) (seg cur (a + l) r)) :
 Calls Tryz.prog 87 #[.slice (some ⟨g,0,none⟩) n c,.int .i64 ai,.int .i64 mi,.int .i64 bi,.func (.func 63) #[] #[]] w fun e w' =>
  e=.returned (.tuple #[])∧(∃ S,Merged lt (seg cur a l) (seg cur (a + l) r) S∧RowAt enc w' g 3 (cur.take a ++ S ++ cur.drop (a + (l + r))) rest)∧w.grownBy w' (some g):=by
 have e3:cur.take a ++ seg cur a l ++ seg cur (a + l) r ++ cur.drop (a + (l + r))=cur:=by
  rw [List.append_assoc (cur.take a),← seg_split,← split3]
 exact sym_upto hs _ g n c ai mi bi a (a + l) (a + (l + r)) (cur.take a) (seg cur a l) (seg cur (a + l) r) (cur.drop (a + (l + r))) rest w (Nat.le_refl _) ea em eb (by rw [e3];exact hr) (by rw [e3];exact hn) hbig
  (by simp;omega) (by rw [seg_length (by omega)];simp;omega) (by rw [seg_length (by omega),seg_length (by omega)];simp;omega) (by rw [seg_length (by omega)];exact hl0) (by rw [seg_length (by omega)];exact hr0) h1 h2 hah

set_option maxRecDepth 100000 in
set_option maxHeartbeats 800000 in
theorem stable (hs:Swo lt) (g n c:Nat) (zs:List Z) (rest:List Value) (w:World) (hr:RowAt enc w g 3 zs rest) (hn:zs.length=n) (hbig:n≤140737488351232) (hu:Ups zs) :
 Calls Tryz.prog 81 #[.slice (some ⟨g,0,none⟩) n c,.int .i64 n,.func (.func 63) #[] #[]] w fun e w' =>
  e=.returned (.tuple #[])∧(∃ S,S.Perm zs∧Srt lt S∧RowAt enc w' g 3 S rest)∧w.grownBy w' (some g):=by
 have HN:=Lib.hid hn;clear hn
 go_enter Tryz.func81,Tryz.ntmps81
 go_wp2_with fail
 go_loopw [7,8] (fun a b wr=>∃ (aa bb:Nat) (cur:List Z),a=.int .i64 (aa:Nat)∧b=.int .i64 (bb:Nat)∧aa + 20=bb∧aa≤n∧cur.length=n∧RowAt enc wr g 3 cur rest∧w.grownBy wr (some g) ∧
  20 ∣ aa∧cur.drop aa=zs.drop aa∧(∀ d,20 ∣ d→d + 20≤aa→Good lt zs cur d 20)) (fun a _ _=>n - (intOf a).toNat)
 case atStart=>exact ⟨0,20,zs,rfl,rfl,rfl,Nat.zero_le _,HN.out,hr,grown_refl _ _,Nat.dvd_zero _,rfl,by intro d _ h;omega⟩
 case round =>
  obtain ⟨aa,bb,cur,rfl,rfl,hab,han,hcl,hrow,hg,hdv,hdr,hgood⟩:=hrel
  have hab1:aa + 20≤bb:=by omega
  have hab2:bb≤aa + 20:=by omega
  have hus:∀ l,Ups (seg cur aa l):=by
   intro l
   have h:=hu.seg aa l
   unfold seg at *
   rw [hdr];exact h
  have HG:=Lib.hid (And.intro hdv (And.intro hdr (And.intro hgood (And.intro hcl hab))));clear hdv hdr hgood hcl hab
  by_cases hlt:bb≤n
  ·go_wp2_with fail
   refine (ins_seg hs g n c _ _ aa 20 cur rest _ rfl (by omega) hrow HG.out.2.2.2.1 hbig (by omega) (hus 20)).mono ?_
   rintro e w' ⟨rfl,⟨S,hSp,hSs,hrow2⟩,hg2⟩
   go_wp2_with fail
   have hcl:=HG.out.2.2.2.1
   have hSl:S.length=20:=by rw [hSp.length_eq,seg_length (by omega)]
   have hlen:(cur.take aa ++ S ++ cur.drop (aa + 20)).length=n:=by rw [put_length (by omega) hSl,hcl]
   refine ⟨⟨bb,bb + 20,_,by go_num,by go_num,rfl,hlt,hlen,hrow2,grown_trans hg hg2,?_,?_,?_⟩,by simp [intOf];omega⟩
   ·rw [← HG.out.2.2.2.2];exact Nat.dvd_add HG.out.1 (Nat.dvd_refl _)
   ·rw [← HG.out.2.2.2.2,List.drop_append,List.drop_of_length_le (by simp;omega),List.nil_append,List.drop_drop]
    have h:=congrArg (List.drop 20) HG.out.2.1
    rw [List.drop_drop,List.drop_drop] at h
    rw [← h]
    congr 1
    simp
    omega
   ·intro d hd hd2
    by_cases e:d + 20≤aa
    ·exact (HG.out.2.2.1 d hd e).before (by omega) e
    ·obtain rfl:aa=d:=dvd_same HG.out.1 hd (by omega) (by omega)
     exact Good.start HG.out.2.1 (by have:=HN.out;omega) (by have:=HN.out;omega) hSp hSs
  ·go_wp2_with fail
   refine (ins_seg hs g n c _ _ aa (n - aa) cur rest _ rfl (by omega) hrow HG.out.2.2.2.1 hbig (by omega) (hus _)).mono ?_
   rintro e w' ⟨rfl,⟨S,hSp,hSs,hrow2⟩,hg2⟩
   have hcl:=HG.out.2.2.2.1
   have hSl:S.length=n - aa:=by rw [hSp.length_eq,seg_length (by omega)]
   have hlen:(cur.take aa ++ S ++ cur.drop (aa + (n - aa))).length=n:=by rw [put_length (by omega) hSl,hcl]
   have hbl:Blocks lt zs (cur.take aa ++ S ++ cur.drop (aa + (n - aa))) 20:=by
    intro d hd
    have hzn:=HN.out
    by_cases e:d + 20≤aa
    ·exact (HG.out.2.2.1 d hd e).before (by omega) e
    ·by_cases e2:d≤aa
     ·obtain rfl:aa=d:=dvd_same HG.out.1 hd e2 (by omega)
      exact (Good.start HG.out.2.1 (by omega) (by omega) hSp hSs).longer (by omega) (by omega) (by omega)
     ·refine Good.beyond (by omega) ?_
      have:¬ d < aa + 20:=fun e3=>by
       have:=dvd_same hd HG.out.1 (by omega) e3
       omega
      omega
   generalize cur.take aa ++ S ++ cur.drop (aa + (n - aa))=cur2 at hlen hbl hrow2
   have HB:=Lib.hid (And.intro hbl hlen);clear hbl hlen hSl hcl hSp hSs HG hus hab1 hab2
   have hg3:=grown_trans hg hg2
   clear hrow hg hg2 hlt han
   go_wp2_with fail
   go_loopw [6,7,8,9] (fun s _a _b _m wr=>∃ (bs:Nat) (cur:List Z),s=.int .i64 (bs:Nat)∧0 < bs∧bs≤2 * n + 20∧cur.length=n∧Blocks lt zs cur bs∧RowAt enc wr g 3 cur rest∧w.grownBy wr (some g))
    (fun s _ _ _ _=>2 * n + 40 - (intOf s).toNat)
   case atStart=>exact ⟨20,cur2,rfl,by omega,by omega,HB.out.2,HB.out.1,hrow2,hg3⟩
   case round =>
    clear hrow2 hg3 HB
    obtain ⟨bs,cur,rfl,hbs0,hbs1,hcl,hbl,hrow,hg⟩:=hrel
    have HB:=Lib.hid (And.intro hcl hbl);clear hcl hbl
    by_cases hlt:bs < n
    ·go_wp2_with fail
     go_loopw [7,8] (fun a b wr=>∃ (aa bb:Nat) (cur:List Z),a=.int .i64 (aa:Nat)∧b=.int .i64 (bb:Nat)∧aa + (bs + bs)=bb∧Pass lt zs cur bs aa∧RowAt enc wr g 3 cur rest∧w.grownBy wr (some g))
      (fun a _ _=>n - (intOf a).toNat)
     case atStart=>exact ⟨0,bs + bs,cur,rfl,by go_num,by omega,Pass.start HB.out.2 (by have:=HB.out.1;have:=HN.out;omega) hbs0,hrow,hg⟩
     case round =>
      clear hrow hg HB
      obtain ⟨aa,bb,cur,rfl,rfl,hab,hp,hrow,hg⟩:=hrel
      have hab1:aa + (bs + bs)≤bb:=by omega
      have hab2:bb≤aa + (bs + bs):=by omega
      have han:aa≤n:=by have:=hp.le;have:=HN.out;omega
      have HP:=Lib.hid (And.intro hp hab);clear hp hab
      by_cases hlt2:bb≤n
      ·go_wp2_with fail
       have h0:=HN.out
       have hcl:=HP.out.1.len
       have hd1:bs ∣ aa:=Nat.dvd_trans (Nat.dvd_add (Nat.dvd_refl _) (Nat.dvd_refl _)) HP.out.1.dvd
       have hg1:=HP.out.1.todo aa hd1 (Nat.le_refl _)
       have hg2:=HP.out.1.todo (aa + bs) (Nat.dvd_add hd1 (Nat.dvd_refl _)) (by omega)
       refine (sym_seg hs g n c _ _ _ aa bs bs cur rest _ rfl (by omega) (by omega) hrow (by omega) hbig (by omega) hbs0 hbs0 hg1.2 hg2.2 (Good.ahead hu hg1 hg2)).mono ?_
       rintro e w' ⟨rfl,⟨S,hm,hrow2⟩,hgg⟩
       have hP2:=HP.out.1.step hbs0 (by omega) hm
       have HP2:=Lib.hid hP2;clear hP2 hg1 hg2 hd1 h0 hcl hm
       go_wp2_with fail
       refine ⟨⟨bb,bb + (bs + bs),_,by go_num,by go_num,rfl,?_,hrow2,grown_trans hg hgg⟩,by simp [intOf];omega⟩
       rw [← HP.out.2];exact HP2.out
      ·by_cases hlt3:aa + bs < n
       ·go_wp2_with fail
        have h0:=HN.out
        have hcl:=HP.out.1.len
        have hd1:bs ∣ aa:=Nat.dvd_trans (Nat.dvd_add (Nat.dvd_refl _) (Nat.dvd_refl _)) HP.out.1.dvd
        have hg1:=HP.out.1.todo aa hd1 (Nat.le_refl _)
        have hg2:Good lt zs cur (aa + bs) (n - (aa + bs)):=by
         have h3:=HP.out.1.todo (aa + bs) (Nat.dvd_add hd1 (Nat.dvd_refl _)) (by omega)
         unfold Good at h3 ⊢
         rw [seg_full (by omega),seg_full (by omega)] at h3 ⊢
         exact h3
        refine (sym_seg hs g n c _ _ _ aa bs (n - (aa + bs)) cur rest _ rfl (by omega) (by omega) hrow (by omega) hbig (by omega) hbs0 (by omega) hg1.2 hg2.2 (Good.ahead hu hg1 hg2)).mono ?_
        rintro e w' ⟨rfl,⟨S,hm,hrow2⟩,hgg⟩
        have hP2:=HP.out.1.last_two hbs0 (r:=n - (aa + bs)) (by omega) (by omega) hm
        have HP2:=Lib.hid hP2;clear hP2 hg1 hg2 hd1 h0 hcl hm
        go_wp2_with fail
        exact ⟨⟨bs + bs,_,by go_num,by omega,by omega,by have:=HP2.out.2;have:=HN.out;omega,HP2.out.1,hrow2,grown_trans hg hgg⟩,by simp [intOf];omega⟩
       ·go_wp2_with fail
        have h0:=HN.out
        exact ⟨⟨bs + bs,cur,by go_num,by omega,by omega,by have:=HP.out.1.len;omega,HP.out.1.last_one hbs0 (by omega),hrow,hg⟩,by simp [intOf];omega⟩
    ·go_wp2_with fail
     go_end0
     have h:=HB.out.2.whole (by have:=HB.out.1;have:=HN.out;omega) (by have:=HN.out;omega)
     exact ⟨rfl,⟨cur,h.1,h.2,hrow⟩,hg⟩
end SoI
end Go.Proofs.YtgbmnlmnhbkdbaaGreat
