/- Joined by program out of: PruneLaw, ClosedLaw, WorldLaw, SmallP. What each says stands at its own head. -/
import Derived.Test.YtgbmnlmnhbkdbaaGreatJ19
import Derived.Test.YtgbmnlmnhbkdbaaGreatJ3
set_option linter.unusedVariables false
set_option linter.unusedSimpArgs false
/- Plain law: which points a question needs: what hangs on nothing that is asked or given; parents with a new point above one of them. No condition. -/
namespace Go.Proofs.YtgbmnlmnhbkdbaaGreat

noncomputable def bareTo (Ps:List (List Int)) (pts:List Int) (k:Nat):List Nat:=ptsOf k fun v=>v ∉ upList (toG Ps) (pts.map Int.toNat)
noncomputable def bareL (Ps:List (List Int)) (pts:List Int):List Nat:=bareTo Ps pts Ps.length
def widerP (Ps:List (List Int)) (v:Nat):List (List Int):=Ps.set v (nth Ps v ++ [(Ps.length:Int)]) ++ [[]]
def openL (asked given:List Int):List Int:=asked.filter fun x=>!decide (x ∈ given)
noncomputable def leaveB (Ps:List (List Int)) (asked given:List Int) (br ap:Bool) (v:Nat):Bool:=(br && decide (v ∈ bareL Ps (asked ++ given))) || (ap && apartB (widerP Ps v) [(Ps.length:Int)] (openL asked given) given)
noncomputable def keptTo (Ps:List (List Int)) (asked given:List Int) (br ap:Bool) (k:Nat):List Nat:=(List.range k).filter fun v=>!leaveB Ps asked given br ap v
noncomputable def keptL (Ps:List (List Int)) (asked given:List Int) (br ap:Bool):List Nat:=keptTo Ps asked given br ap Ps.length

theorem ptsOf_next (n:Nat) (P:Nat→Prop) [Decidable (P n)]:ptsOf (n + 1) P=ptsOf n P ++ if P n then [n] else []:=by
 unfold ptsOf
 rw [List.range_succ,List.filter_append]
 by_cases h:P n <;> simp [h]
theorem bareTo_skip {Ps:List (List Int)} {pts:List Int} {k:Nat} (h:k ∈ upList (toG Ps) (pts.map Int.toNat)):bareTo Ps pts (k + 1)=bareTo Ps pts k:=by
 classical
 unfold bareTo
 rw [ptsOf_next,if_neg (by simpa using h),List.append_nil]
theorem bareTo_take {Ps:List (List Int)} {pts:List Int} {k:Nat} (h:k ∉ upList (toG Ps) (pts.map Int.toNat)):bareTo Ps pts (k + 1)=bareTo Ps pts k ++ [k]:=by
 classical
 unfold bareTo
 rw [ptsOf_next,if_pos h]
theorem bareTo_length (Ps:List (List Int)) (pts:List Int) (k:Nat):(bareTo Ps pts k).length≤k:=ptsOf_length_le _ _
theorem keptTo_skip {Ps:List (List Int)} {asked given:List Int} {br ap:Bool} {k:Nat} (h:leaveB Ps asked given br ap k=true):keptTo Ps asked given br ap (k + 1)=keptTo Ps asked given br ap k:=by
 unfold keptTo
 rw [List.range_succ,List.filter_append]
 simp [h]
theorem keptTo_take {Ps:List (List Int)} {asked given:List Int} {br ap:Bool} {k:Nat} (h:leaveB Ps asked given br ap k=false):keptTo Ps asked given br ap (k + 1)=keptTo Ps asked given br ap k ++ [k]:=by
 unfold keptTo
 rw [List.range_succ,List.filter_append]
 simp [h]
theorem keptTo_length (Ps:List (List Int)) (asked given:List Int) (br ap:Bool) (k:Nat):(keptTo Ps asked given br ap k).length≤k:=by
 unfold keptTo
 have:=List.length_filter_le (fun v=>!leaveB Ps asked given br ap v) (List.range k)
 simpa using this
def restUp (L:List Nat) (v:Nat):List Nat:=L.filter fun x=>decide (v≤x)
theorem restUp_zero (L:List Nat):restUp L 0=L:=by unfold restUp;simp
theorem restUp_skip {L:List Nat} {v:Nat} (h:v ∉ L):restUp L (v + 1)=restUp L v:=by
 unfold restUp
 refine List.filter_congr fun x hx=>?_
 rw [decide_eq_decide]
 have:x ≠ v:=fun e=>h (e ▸ hx)
 omega
theorem restUp_take:∀ {L:List Nat} {v:Nat},Rising L→v ∈ L→restUp L v=v :: restUp L (v + 1)
 | [],v,_,h=>by cases h
 | x :: L,v,hr,h=>by
   have hr2:Rising L:=(List.pairwise_cons.1 hr).2
   have hx:∀ y,y ∈ L→x < y:=(List.pairwise_cons.1 hr).1
   unfold restUp
   rw [List.filter_cons,List.filter_cons]
   rcases List.mem_cons.1 h with rfl | h1
   ·rw [if_pos (by simp),if_neg (by simp)]
    congr 1
    refine List.filter_congr fun y hy=>?_
    rw [decide_eq_decide]
    have:=hx y hy
    omega
   ·have:=hx v h1
    rw [if_neg (by simp;omega),if_neg (by simp;omega)]
    exact restUp_take hr2 h1
theorem restUp_head {L:List Nat} {v x:Nat} {R:List Nat} (h:restUp L v=x :: R):x ∈ L∧v≤x:=by
 have:x ∈ restUp L v:=by rw [h];exact List.mem_cons_self ..
 unfold restUp at this
 rw [List.mem_filter,decide_eq_true_iff] at this
 exact this
section
variable {Ps:List (List Int)} {v:Nat}
theorem widerP_length:(widerP Ps v).length=Ps.length + 1:=by unfold widerP;simp
theorem nth_widerP_v (hv:v < Ps.length):nth (widerP Ps v) v=nth Ps v ++ [(Ps.length:Int)]:=by
 unfold widerP;rw [nth_append_left (by simpa using hv),nth_set_same hv]
theorem nth_widerP_other {i:Nat} (hi:i < Ps.length) (hne:i ≠ v):nth (widerP Ps v) i=nth Ps i:=by
 unfold widerP;rw [nth_append_left (by simpa using hi),nth_set_other (Ne.symm hne)]
theorem nth_widerP_n:nth (widerP Ps v) Ps.length=[]:=by
 unfold widerP
 rw [nth_append_right (by simp)]
 simp [nth]
theorem mem_widerP {i:Nat} {p:Int} (hv:v < Ps.length) (hi:i < Ps.length + 1) (h:p ∈ nth (widerP Ps v) i):(i < Ps.length∧p ∈ nth Ps i) ∨ (i=v∧p=(Ps.length:Int)):=by
 rcases Nat.lt_or_ge i Ps.length with h1 | h1
 ·by_cases e:i=v
  ·subst e
   rw [nth_widerP_v hv,List.mem_append,List.mem_singleton] at h
   exact h.imp (fun h=>⟨h1,h⟩) (fun h=>⟨rfl,h⟩)
  ·rw [nth_widerP_other h1 e] at h
   exact .inl ⟨h1,h⟩
 ·obtain rfl:i=Ps.length:=by omega
  rw [nth_widerP_n] at h
  cases h
theorem wider_check (hc:checkP Ps=0) (hv:v < Ps.length):checkP (widerP Ps v)=0:=by
 obtain ⟨h1,h2,r,h3⟩:=checkP_ok hc
 have hin:∀ i,i < Ps.length→∀ p,p ∈ nth Ps i→0≤p∧p < (Ps.length:Int):=fun i hi=>inR_row h1 hi
 refine checkP_0 ?_ ?_ ⟨fun x=>if x=Ps.length then 0 else r x + 1,fun i hi p hp=>?_⟩
 ·unfold inR
  rw [List.all_eq_true]
  intro l hl
  obtain ⟨i,hi,rfl⟩:=mem_nth hl
  rw [widerP_length] at hi ⊢
  refine inRow_iff.2 fun p hp=>?_
  rcases mem_widerP hv hi hp with ⟨g1,g2⟩ | ⟨_,g2⟩
  ·have:=hin i g1 p g2;omega
  ·omega
 ·rw [List.any_eq_false]
  intro l hl
  obtain ⟨i,hi,rfl⟩:=mem_nth hl
  rw [widerP_length] at hi
  have hnd:∀ i,i < Ps.length→(nth Ps i).Nodup:=fun i hi=>dup_nodup (by
   have:=List.any_eq_false.1 h2 _ (nth_mem hi)
   simpa using this)
  rw [nodup_dup]
  ·simp
  rcases Nat.lt_or_ge i Ps.length with g1 | g1
  ·by_cases e:i=v
   ·subst e
    rw [nth_widerP_v hv,List.nodup_append]
    refine ⟨hnd i g1,by simp,fun a ha b hb e=>?_⟩
    rw [List.mem_singleton] at hb
    have:=hin i g1 a ha
    omega
   ·rw [nth_widerP_other g1 e];exact hnd i g1
  ·obtain rfl:i=Ps.length:=by omega
   rw [nth_widerP_n];exact List.nodup_nil
 ·rw [toG_length,widerP_length] at hi
  rw [nth_toG (by rw [widerP_length];exact hi)] at hp
  obtain ⟨q,hq,rfl⟩:=List.mem_map.1 hp
  rcases mem_widerP hv hi hq with ⟨g1,g2⟩ | ⟨g1,g2⟩
  ·have:=hin i g1 q g2
   have:=h3 i (by rw [toG_length];exact g1) q.toNat (by rw [nth_toG g1];exact List.mem_map.2 ⟨q,g2,rfl⟩)
   show (if q.toNat=Ps.length then 0 else r q.toNat + 1) < if i=Ps.length then 0 else r i + 1
   rw [if_neg (by omega),if_neg (by omega)]
   omega
  ·subst g1 g2
   show (if (Ps.length:Int).toNat=Ps.length then 0 else r (Ps.length:Int).toNat + 1) < if i=Ps.length then 0 else r i + 1
   rw [if_pos (by simp),if_neg (by omega)]
   omega
theorem openL_in {n:Nat} {asked given:List Int} (h:InN n asked):InN n (openL asked given):=fun x hx=>h x (List.mem_filter.1 hx).1
theorem InN.mono {n m:Nat} {l:List Int} (h:InN n l) (hm:n≤m):InN m l:=fun x hx=>by have:=h x hx;omega
theorem wider_look {asked given:List Int} (hc:checkP Ps=0) (hv:v < Ps.length) (ha:InN Ps.length asked) (hg:InN Ps.length given):lookE (widerP Ps v) given ([(Ps.length:Int)] ++ openL asked given)=0:=by
 refine lookE_ok (wider_check hc hv) (InN.row ?_) (InN.row (InN.app ?_ ?_))
 ·rw [widerP_length];exact hg.mono (by omega)
 ·rw [widerP_length];exact fun x hx=>by rw [List.mem_singleton] at hx;omega
 ·rw [widerP_length];exact (openL_in ha).mono (by omega)
end
end Go.Proofs.YtgbmnlmnhbkdbaaGreat
/- Plain law: what is kept: parents of what is kept are kept or given, what is asked is kept, nothing barren is kept. Condition: parents that may be, points that are there. -/
namespace Go.Proofs.YtgbmnlmnhbkdbaaGreat

section
variable {Ps:List (List Int)} {asked given pts:List Int} {v:Nat}
theorem mem_bareL (hc:checkP Ps=0) (hp:InN Ps.length pts) {x:Nat}:x ∈ bareL Ps pts ↔ x < Ps.length∧¬ Up (toG Ps) (· ∈ pts.map Int.toNat) x:=by
 have hs:∀ y,y ∈ pts.map Int.toNat→y < (toG Ps).length:=fun y hy=>by
  obtain ⟨z,hz,rfl⟩:=List.mem_map.1 hy
  have:=hp z hz
  rw [toG_length];omega
 unfold bareL bareTo
 rw [mem_ptsOf,mem_upList (good_toG (checkP_ok hc).1) hs]
theorem wG_length:(toG (widerP Ps v)).length=Ps.length + 1:=by rw [toG_length,widerP_length]
theorem wG_v (hv:v < Ps.length):nth (toG (widerP Ps v)) v=nth (toG Ps) v ++ [Ps.length]:=by
 rw [nth_toG (by rw [widerP_length];omega),nth_widerP_v hv,nth_toG hv,List.map_append];rfl
theorem wG_other {i:Nat} (hi:i < Ps.length) (hne:i ≠ v):nth (toG (widerP Ps v)) i=nth (toG Ps) i:=by
 rw [nth_toG (by rw [widerP_length];omega),nth_widerP_other hi hne,nth_toG hi]
theorem wG_n:nth (toG (widerP Ps v)) Ps.length=[]:=by
 rw [nth_toG (by rw [widerP_length];omega),nth_widerP_n];rfl
theorem old_lt (hc:checkP Ps=0) {i p:Nat} (hi:i < Ps.length) (h:p ∈ nth (toG Ps) i):p < Ps.length:=by
 have:=good_toG (checkP_ok hc).1 i (by rw [toG_length];exact hi) p h
 rwa [toG_length] at this
theorem wG_mem (hc:checkP Ps=0) (hv:v < Ps.length) {i p:Nat} (hi:i < Ps.length + 1) (h:p ∈ nth (toG (widerP Ps v)) i):(i < Ps.length∧p < Ps.length∧p ∈ nth (toG Ps) i) ∨ (i=v∧p=Ps.length):=by
 rcases Nat.lt_or_ge i Ps.length with h1 | h1
 ·by_cases e:i=v
  ·subst e
   rw [wG_v hv,List.mem_append,List.mem_singleton] at h
   rcases h with h | h
   ·exact .inl ⟨h1,old_lt hc h1 h,h⟩
   ·exact .inr ⟨rfl,h⟩
  ·rw [wG_other h1 e] at h
   exact .inl ⟨h1,old_lt hc h1 h,h⟩
 ·obtain rfl:i=Ps.length:=by omega
  rw [wG_n] at h
  cases h
theorem wG_old (hv:v < Ps.length) {i p:Nat} (hi:i < Ps.length) (h:p ∈ nth (toG Ps) i):p ∈ nth (toG (widerP Ps v)) i:=by
 by_cases e:i=v
 ·subst e;rw [wG_v hv];exact List.mem_append_left _ h
 ·rw [wG_other hi e];exact h
theorem up_ge (hc:checkP Ps=0) {S:Nat→Prop} (hS:∀ x,S x→x < Ps.length) {x:Nat} (h:Up (toG Ps) S x):x < Ps.length:=by
 induction h with
 | base h=>exact hS _ h
 | step _ hp ih=>exact old_lt hc ih hp
theorem up_wider (hc:checkP Ps=0) (hv:v < Ps.length) {S:Nat→Prop} (hS:∀ x,S x→x < Ps.length) {x:Nat} (hx:x < Ps.length):Up (toG (widerP Ps v)) S x ↔ Up (toG Ps) S x:=by
 constructor
 ·intro h
  have key:∀ y,Up (toG (widerP Ps v)) S y→(y < Ps.length∧Up (toG Ps) S y) ∨ y=Ps.length:=fun y hy=>by
   induction hy with
   | base h=>exact .inl ⟨hS _ h,.base h⟩
   | @step y p _ hp ih =>
     rcases ih with ⟨i1,i2⟩ | rfl
     ·rcases wG_mem hc hv (by omega) hp with ⟨_,g2,g3⟩ | ⟨_,g2⟩
      ·exact .inl ⟨g2,.step i2 g3⟩
      ·exact .inr g2
     ·rw [wG_n] at hp;cases hp
  rcases key x h with h1 | h1
  ·exact h1.2
  ·omega
 ·intro h
  induction h with
  | base h=>exact .base h
  | @step y p hy hp ih =>
    have hyl:y < Ps.length:=up_ge hc hS hy
    exact .step (ih hyl) (wG_old hv hyl hp)
theorem zp_lt (hg:InN Ps.length given) {x:Nat} (h:Zp given x):x < Ps.length:=by
 unfold Zp zB at h
 rw [decide_eq_true_iff] at h
 have:=hg _ h
 omega
theorem ap_wider (hc:checkP Ps=0) (hv:v < Ps.length) (hg:InN Ps.length given) {x:Nat} (hx:x < Ps.length):Ap (toG (widerP Ps v)) given x ↔ Up (toG Ps) (Zp given) x:=by
 rw [ap_up (good_toG (checkP_ok (wider_check hc hv)).1) (fun z hz=>by rw [wG_length];have:=hg z hz;omega)]
 exact up_wider hc hv (fun y hy=>zp_lt hg hy) hx
abbrev GoW (Ps:List (List Int)) (given:List Int) (v m:Nat) (s t:St):Prop:=Go (G:=toG (widerP Ps v)) (Z:=Zp given) (Ab:=Ap (toG (widerP Ps v)) given) m s t
theorem apart_wider (hc:checkP Ps=0) (hv:v < Ps.length) (ha:InN Ps.length asked) (hg:InN Ps.length given) :
 apartB (widerP Ps v) [(Ps.length:Int)] (openL asked given) given=true ↔ ∀ y,y ∈ asked→y ∉ given→∀ u m,¬ GoW Ps given v m (Ps.length,true) (y.toNat,u):=by
 rw [apart_iff (wider_look hc hv ha hg)]
 have hop:∀ y,y ∈ openL asked given ↔ y ∈ asked∧y ∉ given:=fun y=>by unfold openL;rw [List.mem_filter];simp
 constructor
 ·intro h y hy hyg u m hgo
  have hya:=ha y hy
  refine h y ((hop y).2 ⟨hy,hyg⟩) (mem_toldC.2 ⟨y.toNat,by omega,by rw [widerP_length];omega,⟨u,Ps.length,m,by simp,?_,hgo⟩,?_⟩)
  ·unfold zB;rw [decide_eq_false_iff_not];intro h;have:=hg _ h;omega
  ·unfold zB;rw [decide_eq_false_iff_not,show ((y.toNat:Nat):Int)=y by omega];exact hyg
 ·intro h y hy ht
  obtain ⟨h1,h2⟩:=(hop y).1 hy
  obtain ⟨z,rfl,_,⟨u,q,m,hq,_,hgo⟩,_⟩:=mem_toldC.1 ht
  simp only [List.map_cons,List.map_nil,List.mem_singleton] at hq
  have hq2:q=Ps.length:=by omega
  subst hq2
  exact h _ h1 h2 u m (by simpa using hgo)
theorem bare_apart (hc:checkP Ps=0) (hv:v < Ps.length) (ha:InN Ps.length asked) (hg:InN Ps.length given) (hb:v ∈ bareL Ps (asked ++ given)) :
 apartB (widerP Ps v) [(Ps.length:Int)] (openL asked given) given=true:=by
 rw [apart_wider hc hv ha hg]
 have hbar:=((mem_bareL hc (ha.app hg)).1 hb).2
 intro y hy hyg u m hgo
 have key:∀ m s0 s,GoW Ps given v m s0 s→s0=(Ps.length,true)→s=(Ps.length,true) ∨ (s.2=false∧s.1 < Ps.length∧¬ Up (toG Ps) (· ∈ (asked ++ given).map Int.toNat) s.1):=by
  intro m s0 s h
  induction h with
  | refl=>exact fun e=>.inl e
  | @snoc m s t r hg2 hx ih =>
    intro hs0
    rcases ih hs0 with rfl | ⟨i1,i2,i3⟩
    ·cases hx with
     | up _ _ h3=>rw [wG_n] at h3;cases h3
     | @down _ _ c _ h2 h3 =>
       rw [wG_length] at h2
       rcases wG_mem hc hv h2 h3 with ⟨_,g2,_⟩ | ⟨g1,_⟩
       ·omega
       ·subst g1;exact .inr ⟨rfl,hv,hbar⟩
    ·cases hx with
     | @up x u q h1 h2 h3 =>
       simp only at i1 i2 i3
       rcases h2 with h2 | h2
       ·rw [i1] at h2;cases h2
       ·exfalso
        refine i3 (Up.mono (fun z hz=>?_) ((ap_wider hc hv hg i2).1 h2))
        unfold Zp zB at hz
        rw [decide_eq_true_iff] at hz
        exact List.mem_map.2 ⟨_,List.mem_append_right _ hz,by simp⟩
     | @down x u c h1 h2 h3 =>
       simp only at i1 i2 i3
       rw [wG_length] at h2
       rcases wG_mem hc hv h2 h3 with ⟨g1,_,g3⟩ | ⟨_,g2⟩
       ·exact .inr ⟨rfl,g1,fun hup=>i3 (.step hup g3)⟩
       ·omega
 rcases key m _ _ hgo rfl with h1 | ⟨_,_,h3⟩
 ·have:=ha y hy
  injection h1 with h1 _
  omega
 ·exact h3 (.base (List.mem_map.2 ⟨y,List.mem_append_left _ hy,rfl⟩))
theorem first_step (hv:v < Ps.length) (hg:InN Ps.length given):Nx (toG (widerP Ps v)) (Zp given) (Ap (toG (widerP Ps v)) given) (Ps.length,true) (v,false):=
 .down (fun h=>by have:=zp_lt hg h;omega) (by rw [wG_length];omega) (by rw [wG_v hv];simp)
theorem asked_open (hc:checkP Ps=0) (ha:InN Ps.length asked) (hg:InN Ps.length given) {y:Int} (hy:y ∈ asked) (hyg:y ∉ given):apartB (widerP Ps y.toNat) [(Ps.length:Int)] (openL asked given) given=false:=by
 have hya:=ha y hy
 have hv:y.toNat < Ps.length:=by omega
 cases h:apartB (widerP Ps y.toNat) [(Ps.length:Int)] (openL asked given) given
 ·rfl
 ·rw [apart_wider hc hv ha hg] at h
  exact absurd (Go.one (first_step hv hg)) (h y hy hyg false 1)
theorem parent_open (hc:checkP Ps=0) (hv:v < Ps.length) (ha:InN Ps.length asked) (hg:InN Ps.length given) (h:apartB (widerP Ps v) [(Ps.length:Int)] (openL asked given) given=false) {p:Nat} (hp:p ∈ nth (toG Ps) v) (hpg:¬ Zp given p) :
 apartB (widerP Ps p) [(Ps.length:Int)] (openL asked given) given=false:=by
 have hpl:=old_lt hc hv hp
 cases hb:apartB (widerP Ps p) [(Ps.length:Int)] (openL asked given) given
 ·rfl
 ·exfalso
  rw [apart_wider hc hpl ha hg] at hb
  rw [← Bool.not_eq_true,apart_wider hc hv ha hg] at h
  apply h
  intro y hy hyg u m hgo
  have hya:=ha y hy
  have hstart:GoW Ps given p 2 (Ps.length,true) (v,false):=(Go.one (first_step hpl hg)).snoc (.down hpg (by rw [wG_length];omega) (wG_old hpl hv hp))
  have key:∀ m s0 s,GoW Ps given v m s0 s→s0=(Ps.length,true)→s=(Ps.length,true) ∨ (s.1 < Ps.length∧∃ k,GoW Ps given p k (Ps.length,true) s):=by
   intro m s0 s h
   induction h with
   | refl=>exact fun e=>.inl e
   | @snoc m s t r _ hx ih =>
     intro hs0
     rcases ih hs0 with rfl | ⟨i1,k,i2⟩
     ·cases hx with
      | up _ _ h3=>rw [wG_n] at h3;cases h3
      | @down _ _ c _ h2 h3 =>
        rw [wG_length] at h2
        rcases wG_mem hc hv h2 h3 with ⟨_,g2,_⟩ | ⟨g1,_⟩
        ·omega
        ·subst g1;exact .inr ⟨hv,2,hstart⟩
     ·cases hx with
      | @up x u q h1 h2 h3 =>
        simp only at i1
        rcases wG_mem hc hv (by omega) h3 with ⟨g1,g2,g3⟩ | ⟨g1,g2⟩
        ·refine .inr ⟨g2,k + 1,i2.snoc (.up h1 (h2.imp id fun h=>(ap_wider hc hpl hg i1).2 ((ap_wider hc hv hg i1).1 h)) (wG_old hpl g1 g3))⟩
        ·subst g2;exact .inl rfl
      | @down x u c h1 h2 h3 =>
        simp only at i1
        rw [wG_length] at h2
        rcases wG_mem hc hv h2 h3 with ⟨g1,_,g3⟩ | ⟨_,g2⟩
        ·exact .inr ⟨g1,k + 1,i2.snoc (.down h1 (by rw [wG_length];exact h2) (wG_old hpl g1 g3))⟩
        ·omega
  rcases key m _ _ hgo rfl with h1 | ⟨_,k,h2⟩
  ·injection h1 with h1 _
   omega
  ·exact hb y hy hyg u k h2
theorem mem_kept {br ap:Bool} {x:Nat}:x ∈ keptL Ps asked given br ap ↔ x < Ps.length∧leaveB Ps asked given br ap x=false:=by
 unfold keptL keptTo
 rw [List.mem_filter,List.mem_range];simp
theorem kept_bare (hc:checkP Ps=0) (ha:InN Ps.length asked) (hg:InN Ps.length given) {br ap:Bool} (hw:(br || ap)=true) {x:Nat} (hx:x ∈ keptL Ps asked given br ap):x ∉ bareL Ps (asked ++ given):=by
 intro hb
 obtain ⟨h1,h2⟩:=mem_kept.1 hx
 unfold leaveB at h2
 rw [bare_apart hc h1 ha hg hb,decide_eq_true hb,Bool.and_true,Bool.and_true] at h2
 rw [hw] at h2;cases h2
theorem kept_parent (hc:checkP Ps=0) (ha:InN Ps.length asked) (hg:InN Ps.length given) {br ap:Bool} {x:Nat} (hw:(br || ap)=true) (hx:x ∈ keptL Ps asked given br ap) {p:Int} (hp:p ∈ nth Ps x):p.toNat ∈ keptL Ps asked given br ap ∨ p ∈ given:=by
 obtain ⟨h1,h2⟩:=mem_kept.1 hx
 have hpr:=inR_row (checkP_ok hc).1 h1 p hp
 have hpG:p.toNat ∈ nth (toG Ps) x:=by rw [nth_toG h1];exact List.mem_map.2 ⟨p,hp,rfl⟩
 by_cases hgv:p ∈ given
 ·exact .inr hgv
 ·left
  rw [mem_kept]
  refine ⟨by omega,?_⟩
  have hnb:p.toNat ∉ bareL Ps (asked ++ given):=by
   have hxb:=kept_bare hc ha hg hw hx
   rw [mem_bareL hc (ha.app hg)] at hxb ⊢
   intro ⟨_,h4⟩
   apply hxb
   refine ⟨h1,fun hup=>h4 (.step hup hpG)⟩
  unfold leaveB at h2 ⊢
  rw [decide_eq_false hnb,Bool.and_false,Bool.false_or]
  cases ap with
  | false=>rfl
  | true =>
    rw [Bool.or_eq_false_iff,Bool.true_and] at h2
    rw [Bool.true_and]
    refine parent_open hc h1 ha hg h2.2 hpG (fun h=>?_)
    unfold Zp zB at h
    rw [decide_eq_true_iff,show ((p.toNat:Nat):Int)=p by omega] at h
    exact hgv h
theorem kept_asked (hc:checkP Ps=0) (ha:InN Ps.length asked) (hg:InN Ps.length given) {br ap:Bool} {y:Int} (hy:y ∈ asked):y.toNat ∈ keptL Ps asked given br ap ∨ y ∈ given:=by
 have hya:=ha y hy
 by_cases hgv:y ∈ given
 ·exact .inr hgv
 ·left
  rw [mem_kept]
  refine ⟨by omega,?_⟩
  have hnb:y.toNat ∉ bareL Ps (asked ++ given):=by
   rw [mem_bareL hc (ha.app hg)]
   intro ⟨_,h4⟩
   exact h4 (.base (List.mem_map.2 ⟨y,List.mem_append_left _ hy,rfl⟩))
  unfold leaveB
  rw [decide_eq_false hnb,asked_open hc ha hg hy hgv]
  simp
theorem kept_or_bare {x:Nat} (hx:x < Ps.length):decide (x ∈ keptL Ps asked given true false)=!decide (x ∈ bareL Ps (asked ++ given)):=by
 rw [Bool.eq_iff_iff,decide_eq_true_iff,mem_kept]
 unfold leaveB
 simp [hx]
theorem two_halves (p:Nat→Bool) (n:Nat):((List.range n).filter p).length + ((List.range n).filter fun x=>!p x).length=n:=by
 induction n with
 | zero=>rfl
 | succ n ih =>
   rw [List.range_succ,List.filter_append,List.filter_append,List.length_append,List.length_append]
   cases h:p n <;> simp [h] <;> omega
end
end Go.Proofs.YtgbmnlmnhbkdbaaGreat
/- Plain law: the points that are left out tell nothing: sums over all settings of the products of the factors that are kept are those of all factors, times one number. Condition: parents that may be, points that are there. -/
namespace Go.Proofs.YtgbmnlmnhbkdbaaGreat

section
variable {Ps:List (List Int)} {v:Nat} {asked given:List Int}
theorem down_open (hv:v < Ps.length) (hg:InN Ps.length given) {q:Nat} (h:Up (toG Ps) (· ∈ (asked ++ given).map Int.toNat) q) :
 ¬ Up (toG Ps) (Zp given) q→∀ m u,GoW Ps given v m (Ps.length,true) (q,u)→∃ y,y ∈ asked∧y ∉ given∧∃ m u,GoW Ps given v m (Ps.length,true) (y.toNat,u):=by
 induction h with
 | @base x hs =>
   intro hn m u hgo
   obtain ⟨y,hy,e⟩:=List.mem_map.1 hs
   have hyg:y ∉ given:=fun h=>hn (.base (by
    unfold Zp zB
    rw [decide_eq_true_iff,← e,show ((y.toNat:Nat):Int)=y by have:=hg y h;omega];exact h))
   rcases List.mem_append.1 hy with h | h
   ·subst e;exact ⟨y,h,hyg,m,u,hgo⟩
   ·exact absurd h hyg
 | @step x p _ hp ih =>
   intro hn m u hgo
   have hxl:x < Ps.length:=by have:=len_of_mem hp;rwa [toG_length] at this
   refine ih (fun h=>hn (.step h hp)) (m + 1) false (hgo.snoc (.down (fun h=>hn (.base h)) (by rw [wG_length];omega) (wG_old hv hxl hp)))
theorem child_open (hc:checkP Ps=0) (hv:v < Ps.length) (ha:InN Ps.length asked) (hg:InN Ps.length given) (hnb:v ∉ bareL Ps (asked ++ given)) {x:Nat} (hx:x ∈ nth (toG Ps) v) (hxg:¬ Zp given x)
 (h:apartB (widerP Ps x) [(Ps.length:Int)] (openL asked given) given=false):apartB (widerP Ps v) [(Ps.length:Int)] (openL asked given) given=false:=by
 have hxl:=old_lt hc hv hx
 have hup:Up (toG Ps) (· ∈ (asked ++ given).map Int.toNat) v:=by
  rw [mem_bareL hc (ha.app hg)] at hnb
  exact Classical.byContradiction fun hn=>hnb ⟨hv,hn⟩
 cases hb:apartB (widerP Ps v) [(Ps.length:Int)] (openL asked given) given
 ·rfl
 ·exfalso
  rw [apart_wider hc hv ha hg] at hb
  have hfirst:GoW Ps given v 1 (Ps.length,true) (v,false):=Go.one (first_step hv hg)
  by_cases hab:Up (toG Ps) (Zp given) v
  ·rw [← Bool.not_eq_true,apart_wider hc hxl ha hg] at h
   apply h
   intro y hy hyg u m hgo
   have hya:=ha y hy
   have hstart:GoW Ps given v 2 (Ps.length,true) (x,true):=hfirst.snoc (.up (fun h=>by cases h.1) (.inr ((ap_wider hc hv hg hv).2 hab)) (wG_old hv hv hx))
   have key:∀ m s0 s,GoW Ps given x m s0 s→s0=(Ps.length,true)→s=(Ps.length,true) ∨ s=(x,false) ∨ (s.1 < Ps.length∧∃ k,GoW Ps given v k (Ps.length,true) s):=by
    intro m s0 s h
    induction h with
    | refl=>exact fun e=>.inl e
    | @snoc m s t r _ hs ih =>
      intro hs0
      rcases ih hs0 with rfl | rfl | ⟨i1,k,i2⟩
      ·cases hs with
       | up _ _ h3=>rw [wG_n] at h3;cases h3
       | @down _ _ c _ h2 h3 =>
         rw [wG_length] at h2
         rcases wG_mem hc hxl h2 h3 with ⟨_,g2,_⟩ | ⟨g1,_⟩
         ·omega
         ·subst g1;exact .inr (.inl rfl)
      ·cases hs with
       | @up _ _ q h1 h2 h3 =>
         rcases wG_mem hc hxl (by omega) h3 with ⟨g1,g2,g3⟩ | ⟨g1,g2⟩
         ·exact .inr (.inr ⟨g2,3,hstart.snoc (.up (fun h=>hxg h.2) (.inl rfl) (wG_old hv g1 g3))⟩)
         ·subst g2;exact .inl rfl
       | @down _ _ c h1 h2 h3 =>
         rw [wG_length] at h2
         rcases wG_mem hc hxl h2 h3 with ⟨g1,_,g3⟩ | ⟨_,g2⟩
         ·exact .inr (.inr ⟨g1,3,hstart.snoc (.down hxg (by rw [wG_length];exact h2) (wG_old hv g1 g3))⟩)
         ·omega
      ·cases hs with
       | @up p u q h1 h2 h3 =>
         simp only at i1
         rcases wG_mem hc hxl (by omega) h3 with ⟨g1,g2,g3⟩ | ⟨g1,g2⟩
         ·exact .inr (.inr ⟨g2,k + 1,i2.snoc (.up h1 (h2.imp id fun h=>(ap_wider hc hv hg i1).2 ((ap_wider hc hxl hg i1).1 h)) (wG_old hv g1 g3))⟩)
         ·subst g2;exact .inl rfl
       | @down p u c h1 h2 h3 =>
         simp only at i1
         rw [wG_length] at h2
         rcases wG_mem hc hxl h2 h3 with ⟨g1,_,g3⟩ | ⟨_,g2⟩
         ·exact .inr (.inr ⟨g1,k + 1,i2.snoc (.down h1 (by rw [wG_length];exact h2) (wG_old hv g1 g3))⟩)
         ·omega
   rcases key m _ _ hgo rfl with h1 | h1 | ⟨_,k,h2⟩
   ·injection h1 with h1 _
    omega
   ·injection h1 with h1 _
    exact hb y hy hyg true 2 (by rw [h1];exact hstart)
   ·exact hb y hy hyg u k h2
  ·obtain ⟨y,h1,h2,m,u,h3⟩:=down_open hv hg hup hab 1 false hfirst
   exact hb y h1 h2 u m h3
theorem kept_parts (hc:checkP Ps=0) (ha:InN Ps.length asked) (hg:InN Ps.length given) {j u v:Nat} (hj:¬ Zp given j) (hu:u ∈ keptL Ps asked given true true) (hju:j=u ∨ j ∈ nth (toG Ps) u) (hv:v ∈ keptL Ps asked given true false) (hvn:v ∉ keptL Ps asked given true true) :
 j ≠ v∧j ∉ nth (toG Ps) v:=by
 have hul:=(mem_kept.1 hu).1
 have hvl:=(mem_kept.1 hv).1
 have hjk:j ∈ keptL Ps asked given true true:=by
  rcases hju with rfl | h
  ·exact hu
  ·rw [nth_toG hul] at h
   obtain ⟨p,hp,rfl⟩:=List.mem_map.1 h
   rcases kept_parent hc ha hg rfl hu hp with h | h
   ·exact h
   ·refine absurd ?_ hj
    unfold Zp zB
    rw [decide_eq_true_iff,show ((p.toNat:Nat):Int)=p by have:=hg p h;omega];exact h
 refine ⟨fun e=>hvn (e ▸ hjk),fun hp=>hvn ?_⟩
 have hnb:=kept_bare hc ha hg rfl hv
 have h2:=(mem_kept.1 hjk).2
 rw [mem_kept]
 refine ⟨hvl,?_⟩
 unfold leaveB at h2 ⊢
 rw [Bool.or_eq_false_iff,Bool.true_and,Bool.true_and] at h2
 rw [decide_eq_false hnb,Bool.true_and,Bool.true_and,Bool.false_or]
 exact child_open hc hvl ha hg hnb hp hj h2.2
end

theorem least {P:Nat→Prop} (r:Nat→Nat) (n:Nat):(∃ v,v < n∧P v)→∃ v,v < n∧P v∧∀ u,u < n→P u→r v≤r u:=by
 rintro ⟨v,hv,hp⟩
 have:∀ k v,r v≤k→v < n→P v→∃ v,v < n∧P v∧∀ u,u < n→P u→r v≤r u:=by
  intro k
  induction k with
  | zero=>exact fun v h1 h2 h3=>⟨v,h2,h3,fun u _ _=>by omega⟩
  | succ k ih =>
    intro v h1 h2 h3
    by_cases h:∃ u,u < n∧P u∧r u≤k
    ·obtain ⟨u,g1,g2,g3⟩:=h;exact ih u g3 g1 g2
    ·exact ⟨v,h2,h3,fun u g1 g2=>Nat.le_of_not_lt fun g3=>h ⟨u,g1,g2,by omega⟩⟩
 exact this _ v (Nat.le_refl _) hv hp
structure Wld (Ps:List (List Int)) (f:Nat→Asg→Rat):Prop where
 free:∀ v,v < Ps.length→∀ j,j ≠ v→j ∉ nth (toG Ps) v→Free j (f v)
 one:∀ v,v < Ps.length→∀ x,f v (upd x v false) + f v (upd x v true)=1
theorem drop_law {Ps:List (List Int)} {f:Nat→Asg→Rat} (W:Wld Ps f) (hc:checkP Ps=0) (a:Asg) (I:Asg→Rat):∀ (k:Nat) (D:Nat→Bool),((List.range Ps.length).filter fun v=>!D v).length=k →
 (∀ v,v < Ps.length→D v=false→Free v I∧∀ w,w < Ps.length→v ∈ nth (toG Ps) w→D w=false) →
 S Ps.length (fun x=>I x * prodP f D x Ps.length) a=2 ^ k * S Ps.length (fun x=>I x * prodP f (fun _=>true) x Ps.length) a:=by
 obtain ⟨_,_,r,hr⟩:=checkP_ok hc
 intro k
 induction k with
 | zero =>
   intro D hk _
   rw [Rat.pow_zero,Rat.one_mul]
   refine S_congr fun x=>?_
   rw [prodP_all (q:=fun _=>true) fun v hv=>?_]
   rw [List.length_eq_zero_iff,List.filter_eq_nil_iff] at hk
   have:=hk v (List.mem_range.2 hv)
   simpa using this
 | succ k ih =>
   intro D hk hD
   have hex:∃ v,v < Ps.length∧D v=false:=by
    cases e:(List.range Ps.length).filter fun v=>!D v with
    | nil=>rw [e] at hk;simp at hk
    | cons v l =>
      have:v ∈ (List.range Ps.length).filter fun v=>!D v:=by rw [e];exact List.mem_cons_self ..
      rw [List.mem_filter,List.mem_range] at this
      exact ⟨v,this.1,by simpa using this.2⟩
   obtain ⟨v,hv,hDv,hmin⟩:=least r Ps.length hex
   have hself:v ∉ nth (toG Ps) v:=fun h=>by have:=hr v (by rw [toG_length];exact hv) v h;omega
   have hk2:((List.range Ps.length).filter fun u=>!(D u || u == v)).length=k:=by
    have e:∀ n,v < n→((List.range n).filter fun u=>!D u).length=((List.range n).filter fun u=>!(D u || u == v)).length + 1:=by
     intro n
     induction n with
     | zero=>intro h;omega
     | succ n ihn =>
       intro hvn
       rw [List.range_succ,List.filter_append,List.filter_append,List.length_append,List.length_append]
       by_cases hn:n=v
       ·subst hn
        have e2:((List.range n).filter fun u=>!D u)=(List.range n).filter fun u=>!(D u || u == n):=List.filter_congr fun u hu=>by
         rw [List.mem_range] at hu
         rw [show (u == n)=false by simp;omega,Bool.or_false]
        rw [e2];simp [hDv]
       ·rw [ihn (by omega)]
        have:(n == v)=false:=by simpa using hn
        simp only [List.filter_cons,List.filter_nil,this,Bool.or_false]
        omega
    have:=e _ hv
    omega
   have ih2:=ih (fun u=>D u || u == v) hk2 (fun u hu hDu=>by
    rw [Bool.or_eq_false_iff] at hDu
    obtain ⟨g1,g2⟩:=hD u hu hDu.1
    refine ⟨g1,fun w hw huw=>?_⟩
    rw [Bool.or_eq_false_iff]
    refine ⟨g2 w hw huw,?_⟩
    rw [beq_eq_false_iff_ne]
    rintro rfl
    have h1:=hr w (by rw [toG_length];exact hw) u huw
    have h2:=hmin u hu hDu.1
    omega)
   rw [Rat.pow_succ,Rat.mul_comm _ 2,Rat.mul_assoc,← ih2,← S_two]
   have hI:=(hD v hv hDv).1
   have hP0:Free v (fun x=>prodP f D x Ps.length):=prodP_free fun u hu hDu=>by
    refine W.free u hu v ?_ ?_
    ·rintro rfl;rw [hDv] at hDu;cases hDu
    ·intro h;rw [(hD v hv hDv).2 u hu h] at hDu;cases hDu
   have hP:∀ x b,prodP f D (upd x v b) Ps.length=prodP f D x Ps.length:=fun x b=>hP0 x b
   refine S_pair hv fun x=>?_
   simp only [prodP_more hDv hv]
   simp only [hP,hI x]
   have:=W.one v hv x
   grind
theorem S_le {n:Nat}:∀ {I g:Asg→Rat} {a:Asg},(∀ x,0≤I x)→(∀ x,I x=0→g x=0)→(0≤S n I a)∧(S n I a=0→S n g a=0):=by
 induction n with
 | zero=>exact fun h1 h2=>⟨h1 _,h2 _⟩
 | succ n ih =>
   intro I g a h1 h2
   unfold S
   refine ih (fun x=>?_) (fun x h=>?_)
   ·have:=h1 (upd x n false);have:=h1 (upd x n true);grind
   ·have:=h1 (upd x n false);have:=h1 (upd x n true)
    rw [h2 _ (by grind),h2 _ (by grind)];grind
def fitB (given:List Int) (z:Nat→Bool) (x:Asg):Bool:=given.all fun g=>x g.toNat == z g.toNat
def placeA (asked:List Int) (x:Asg):Nat:=asked.foldl (fun p y=>2 * p + (x y.toNat).toNat) 0
def indF (given:List Int) (z:Nat→Bool) (x:Asg):Rat:=if fitB given z x then 1 else 0
def indQ (given:List Int) (z:Nat→Bool) (asked:List Int) (i:Nat) (x:Asg):Rat:=if fitB given z x && placeA asked x == i then 1 else 0
theorem fitB_free {given:List Int} {z:Nat→Bool} {j:Nat} (hj:¬ Zp given j) (hg:∀ g,g ∈ given→0≤g) (x:Asg) (b:Bool):fitB given z (upd x j b)=fitB given z x:=by
 unfold fitB
 rw [Bool.eq_iff_iff,List.all_eq_true,List.all_eq_true]
 have e:∀ g,g ∈ given→upd x j b g.toNat=x g.toNat:=fun g h=>upd_other _ _ fun e=>hj (by
  unfold Zp zB
  rw [decide_eq_true_iff,← e,Int.toNat_of_nonneg (hg g h)];exact h)
 exact ⟨fun h g hm=>by rw [← e g hm];exact h g hm,fun h g hm=>by rw [e g hm];exact h g hm⟩
theorem fitB_not {given:List Int} {z:Nat→Bool} {j:Nat} (hj:Zp given j) (x:Asg):fitB given z (upd x j !(z j))=false:=by
 unfold fitB
 rw [List.all_eq_false]
 refine ⟨(j:Int),by unfold Zp zB at hj;rwa [decide_eq_true_iff] at hj,?_⟩
 rw [show ((j:Int)).toNat=j by omega,upd_same]
 cases z j <;> simp
theorem placeA_free {asked:List Int} {j:Nat} (hj:∀ y,y ∈ asked→y.toNat ≠ j) (x:Asg) (b:Bool):placeA asked (upd x j b)=placeA asked x:=by
 unfold placeA
 generalize 0=p
 induction asked generalizing p with
 | nil=>rfl
 | cons y l ih =>
   rw [List.foldl_cons,List.foldl_cons,upd_other _ _ (hj y (List.mem_cons_self ..))]
   exact ih (fun y h=>hj y (List.mem_cons_of_mem _ h)) _
def sumsQ (f:Nat→Asg→Rat) (D:Nat→Bool) (n:Nat) (given:List Int) (z:Nat→Bool) (asked:List Int) (i:Nat):Rat:=S n (fun x=>indQ given z asked i x * prodP f D x n) (fun _=>false)
section
variable {Ps:List (List Int)} {f:Nat→Asg→Rat} {asked given:List Int} {z:Nat→Bool}
noncomputable def keptB (Ps:List (List Int)) (asked given:List Int) (ap:Bool) (v:Nat):Bool:=decide (v ∈ keptL Ps asked given true ap)
theorem world_few (W:Wld Ps f) (hc:checkP Ps=0) (ha:InN Ps.length asked) (hg:InN Ps.length given) (i:Nat) :
 sumsQ f (keptB Ps asked given false) Ps.length given z asked i=2 ^ (Ps.length - (keptL Ps asked given true false).length) * sumsQ f (fun _=>true) Ps.length given z asked i:=by
 refine drop_law W hc _ (indQ given z asked i) _ _ ?_ fun v hv hD=>?_
 ·have h:=two_halves (keptB Ps asked given false) Ps.length
  have e:(List.range Ps.length).filter (keptB Ps asked given false)=keptL Ps asked given true false:=by
   unfold keptL keptTo
   refine List.filter_congr fun x hx=>?_
   rw [List.mem_range] at hx
   unfold keptB
   rw [Bool.eq_iff_iff,decide_eq_true_iff,mem_kept];simp [hx]
  rw [e] at h
  omega
 ·have hb:v ∈ bareL Ps (asked ++ given):=by
   have h:=kept_or_bare (Ps:=Ps) (asked:=asked) (given:=given) hv
   unfold keptB at hD
   rw [hD] at h
   simpa using h.symm
  have hnu:=((mem_bareL hc (ha.app hg)).1 hb).2
  have hng:¬ Zp given v:=fun h=>hnu (.base (by
   unfold Zp zB at h
   rw [decide_eq_true_iff] at h
   exact List.mem_map.2 ⟨_,List.mem_append_right _ h,by simp⟩))
  refine ⟨fun x b=>?_,fun w hw hvw=>?_⟩
  ·unfold indQ
   rw [fitB_free hng (fun g h=>(hg g h).1),placeA_free fun y hy e=>hnu (.base (List.mem_map.2 ⟨y,List.mem_append_left _ hy,e⟩))]
  ·unfold keptB
   rw [decide_eq_false_iff_not]
   intro hk
   have hwb:=kept_bare hc ha hg rfl hk
   rw [mem_bareL hc (ha.app hg)] at hwb
   exact hwb ⟨hw,fun h=>hnu (.step h hvw)⟩
theorem world_parts (W:Wld Ps f) (hc:checkP Ps=0) (ha:InN Ps.length asked) (hg:InN Ps.length given) :
 ∃ c h:Rat,(∀ i,sumsQ f (keptB Ps asked given false) Ps.length given z asked i * c=sumsQ f (keptB Ps asked given true) Ps.length given z asked i * h)∧(c=0→∀ i,sumsQ f (keptB Ps asked given false) Ps.length given z asked i=0):=by
 have hsub:∀ v,keptB Ps asked given true v=true→keptB Ps asked given false v=true:=fun v h=>by
  unfold keptB at *
  rw [decide_eq_true_iff,mem_kept] at *
  refine ⟨h.1,?_⟩
  have h2:=h.2
  unfold leaveB at *
  rw [Bool.or_eq_false_iff] at *
  exact ⟨h2.1,rfl⟩
 have hmul:∀ x,prodP f (keptB Ps asked given false) x Ps.length=prodP f (keptB Ps asked given true) x Ps.length * prodP f (fun v=>keptB Ps asked given false v && !keptB Ps asked given true v) x Ps.length:=fun x=>by
  rw [← prodP_mul fun v _ h=>by rw [h.1] at h;simp at h]
  refine prodP_all fun v _=>?_
  have:=hsub v
  cases h1:keptB Ps asked given true v <;> cases h2:keptB Ps asked given false v <;> simp_all
 refine ⟨S Ps.length (indF given z) (fun _=>false),S Ps.length (fun x=>indF given z x * prodP f (fun v=>keptB Ps asked given false v && !keptB Ps asked given true v) x Ps.length) (fun _=>false),fun i=>?_,fun h i=>?_⟩
 ·unfold sumsQ
  rw [← S_parts Ps.length (fun x=>indQ given z asked i x * prodP f (keptB Ps asked given true) x Ps.length) _ (indF given z) _ fun j hj=>?_]
  ·congr 1
   exact S_congr fun x=>by rw [hmul,Rat.mul_assoc]
  ·by_cases hjg:Zp given j
   ·refine .inr (.inr ⟨!(z j),fun x=>?_⟩)
    unfold indQ indF
    rw [fitB_not hjg]
    exact ⟨by simp,rfl⟩
   ·have hI:Free j (indF given z):=fun x b=>by unfold indF;rw [fitB_free hjg fun g h=>(hg g h).1]
    by_cases hex:∃ u,u ∈ keptL Ps asked given true true∧(j=u ∨ j ∈ nth (toG Ps) u)
    ·obtain ⟨u,hu,hju⟩:=hex
     refine .inl ⟨prodP_free fun v hv hD=>?_,hI⟩
     rw [Bool.and_eq_true,Bool.not_eq_true'] at hD
     unfold keptB at hD
     rw [decide_eq_true_iff,decide_eq_false_iff_not] at hD
     obtain ⟨g1,g2⟩:=kept_parts hc ha hg hjg hu hju hD.1 hD.2
     exact W.free v hv j g1 g2
    ·refine .inr (.inl ⟨fun x b=>?_,hI⟩)
     have hP:Free j (fun x=>prodP f (keptB Ps asked given true) x Ps.length):=prodP_free fun v hv hD=>by
      unfold keptB at hD
      rw [decide_eq_true_iff] at hD
      exact W.free v hv j (fun e=>hex ⟨v,hD,.inl e⟩) fun e=>hex ⟨v,hD,.inr e⟩
     have hQ:indQ given z asked i (upd x j b)=indQ given z asked i x:=by
      unfold indQ
      rw [fitB_free hjg fun g h=>(hg g h).1,placeA_free fun y hy e=>?_]
      rcases kept_asked hc ha hg (br:=true) (ap:=true) hy with h | h
      ·exact hex ⟨y.toNat,h,.inl e.symm⟩
      ·refine hjg ?_
       unfold Zp zB
       rw [decide_eq_true_iff,← e,Int.toNat_of_nonneg (ha y hy).1];exact h
     show indQ given z asked i (upd x j b) * prodP f (keptB Ps asked given true) (upd x j b) Ps.length=indQ given z asked i x * prodP f (keptB Ps asked given true) x Ps.length
     rw [hQ,show prodP f (keptB Ps asked given true) (upd x j b) Ps.length=prodP f (keptB Ps asked given true) x Ps.length from hP x b]
 ·unfold sumsQ
  refine (S_le (I:=indF given z) (fun x=>?_) (fun x hx=>?_)).2 h
  ·unfold indF;split <;> decide
  ·have:fitB given z x=false:=by
    cases e:fitB given z x
    ·rfl
    ·unfold indF at hx;rw [e] at hx;exact absurd hx (by decide)
   unfold indQ
   rw [this];simp
theorem world_cross (W:Wld Ps f) (hc:checkP Ps=0) (ha:InN Ps.length asked) (hg:InN Ps.length given) (i k:Nat) :
 sumsQ f (fun _=>true) Ps.length given z asked i * sumsQ f (keptB Ps asked given true) Ps.length given z asked k=sumsQ f (fun _=>true) Ps.length given z asked k * sumsQ f (keptB Ps asked given true) Ps.length given z asked i:=by
 obtain ⟨c,h,h1,h2⟩:=world_parts (z:=z) W hc ha hg
 have h3:=world_few (z:=z) W hc ha hg
 have hp:(2:Rat) ^ (Ps.length - (keptL Ps asked given true false).length) ≠ 0:=Rat.ne_of_gt (Rat.pow_pos (by decide))
 by_cases hc0:c=0
 ·have e:∀ i,sumsQ f (fun _=>true) Ps.length given z asked i=0:=fun i=>by
   have:=h2 hc0 i
   rw [h3] at this
   exact (Rat.mul_eq_zero.1 this).resolve_left hp
  rw [e,e,Rat.zero_mul,Rat.zero_mul]
 ·have hi:=h1 i
  have hk:=h1 k
  rw [h3] at hi hk
  generalize (2:Rat) ^ (Ps.length - (keptL Ps asked given true false).length)=p at *
  generalize sumsQ f (fun _=>true) Ps.length given z asked i=a at *
  generalize sumsQ f (fun _=>true) Ps.length given z asked k=b at *
  generalize sumsQ f (keptB Ps asked given true) Ps.length given z asked i=u at *
  generalize sumsQ f (keptB Ps asked given true) Ps.length given z asked k=v at *
  have:(p * c) * (a * v)=(p * c) * (b * u):=by grind
  have hpc:p * c ≠ 0:=fun e=>by rcases Rat.mul_eq_zero.1 e with e | e;exact hp e;exact hc0 e
  have h5:(p * c) * (a * v - b * u)=0:=by grind
  have:=(Rat.mul_eq_zero.1 h5).resolve_left hpc
  grind
theorem world_none (W:Wld Ps f) (hc:checkP Ps=0) (ha:InN Ps.length asked) (hg:InN Ps.length given) (i:Nat) (h0:sumsQ f (fun _=>true) Ps.length given z asked i ≠ 0):sumsQ f (keptB Ps asked given true) Ps.length given z asked i ≠ 0:=by
 obtain ⟨c,h,h1,h2⟩:=world_parts (z:=z) W hc ha hg
 have h3:=world_few (z:=z) W hc ha hg i
 have hp:(2:Rat) ^ (Ps.length - (keptL Ps asked given true false).length) ≠ 0:=Rat.ne_of_gt (Rat.pow_pos (by decide))
 intro e
 have h4:=h1 i
 rw [e,Rat.zero_mul] at h4
 rcases Rat.mul_eq_zero.1 h4 with h5 | h5
 ·rw [h3] at h5
  exact h0 ((Rat.mul_eq_zero.1 h5).resolve_left hp)
 ·have h6:=h2 h5 i
  rw [h3] at h6
  exact h0 ((Rat.mul_eq_zero.1 h6).resolve_left hp)
end
end Go.Proofs.YtgbmnlmnhbkdbaaGreat
/- Plain law: what is barren and what is kept of the chapter's points. No condition. -/
namespace Go.Proofs.YtgbmnlmnhbkdbaaGreat

abbrev chapP:List (List Int):=[[],[0],[1],[1],[3]]
abbrev chapG:List (List Nat):=[[],[0],[1],[1],[3]]
theorem chap_G:toG chapP=chapG:=rfl
theorem chap_check:checkP chapP=0:=checkP_0 (by decide) (by decide) ⟨id,by decide⟩
theorem chap_above (l:List Int) (h:inRow 5 l=true):aboveE chapP l=0:=by unfold aboveE;rw [if_neg (by rw [chap_check];simp),if_pos (show inRow chapP.length l=true from h)]
theorem chap_up2:upList chapG (([2]:List Int).map Int.toNat)=[0,1,2]:=up_calc (L:=[2,1,0]) (by decide) (by decide) (by decide) (by decide) (by decide) (by decide)
theorem chap_up24:upList chapG (([2,4]:List Int).map Int.toNat)=[0,1,2,3,4]:=up_calc (L:=[2,4,1,3,0]) (by decide) (by decide) (by decide) (by decide) (by decide) (by decide)
theorem bare_calc {Ps:List (List Int)} {l:List Int} {U:List Nat} (h:upList (toG Ps) (l.map Int.toNat)=U):bareL Ps l=(List.range Ps.length).filter fun v=>!decide (v ∈ U):=by
 unfold bareL bareTo
 rw [h]
 refine (ptsOf_eq (rising_filter _ _) fun x=>?_).symm
 simp
theorem chap_bare:bareL chapP ([2] ++ [])=[3,4]:=by rw [bare_calc (Ps:=chapP) (l:=[2] ++ []) (U:=[0,1,2]) (by rw [chap_G];exact chap_up2)];rfl
theorem chap_bare2:bareL chapP ([2] ++ [4])=[]:=by rw [bare_calc (Ps:=chapP) (l:=[2] ++ [4]) (U:=[0,1,2,3,4]) (by rw [chap_G];exact chap_up24)];rfl
theorem chap_kept2:keptL chapP [2] [4] true false=[0,1,2,3,4]:=by
 unfold keptL keptTo
 rw [show chapP.length=5 from rfl]
 have:∀ v,leaveB chapP [2] [4] true false v=false:=fun v=>by unfold leaveB;rw [chap_bare2];simp
 simp only [this]
 rfl
theorem chap_open:openL [2] [1,4]=[2]:=by decide
theorem chap_look (v:Nat) (hv:v < 5):lookE (widerP chapP v) [1,4] ([5] ++ [2])=0:=by
 have:=wider_look (Ps:=chapP) (v:=v) (asked:=[2]) (given:=[1,4]) chap_check hv (inRow_iff.1 (by decide)) (inRow_iff.1 (by decide))
 rwa [chap_open] at this
theorem chap_t {v:Nat} {G:List (List Nat)} {U:List Nat} {S:List St} (hG:toG (widerP chapP v)=G) (hU:upList G (([1,4]:List Int).map Int.toNat)=U) (h1:∀ a:Nat,a ∈ [5]→decide ((a:Int) ∈ ([1,4]:List Int))=false→((a,true):St) ∈ S) (h2:∀ s,s ∈ S→∀ t,t ∈ nextC G [1,4] U s→t ∈ S)
 (h3:∀ j,j < S.length→((nth S j).2=true∧(nth S j).1 ∈ [5]∧decide (((nth S j).1:Int) ∈ ([1,4]:List Int))=false) ∨ ∃ i,i < j∧nth S j ∈ nextC G [1,4] U (nth S i)) (h4:∀ s,s ∈ S→s.1 < G.length) :
 toldC (widerP chapP v) [5] [1,4]=castL ((List.range G.length).filter fun x=>(decide (((x,true):St) ∈ S) || decide (((x,false):St) ∈ S)) && !decide ((x:Int) ∈ ([1,4]:List Int))):=by
 unfold toldC
 rw [hG,show ([5]:List Int).map Int.toNat=[5] from rfl,told_calc hU h1 h2 h3 h4]
theorem chap_yes {v:Nat} (hv:v < 5) {T:List Int} (h:toldC (widerP chapP v) [5] [1,4]=T) (ht:(2:Int) ∉ T):apartB (widerP chapP v) [5] [2] [1,4]=true:=by
 rw [apart_iff (chap_look v hv),h]
 intro y hy
 rw [List.mem_singleton] at hy
 subst hy;exact ht
theorem chap_no {v:Nat} (hv:v < 5) {T:List Int} (h:toldC (widerP chapP v) [5] [1,4]=T) (ht:(2:Int) ∈ T):apartB (widerP chapP v) [5] [2] [1,4]=false:=by
 cases hb:apartB (widerP chapP v) [5] [2] [1,4]
 ·rfl
 ·rw [apart_iff (chap_look v hv),h] at hb
  exact absurd ht (hb 2 (by simp))
theorem chap_0:apartB (widerP chapP 0) [5] [2] [1,4]=true:=
 chap_yes (by omega) (chap_t (v:=0) (G:=[[5],[0],[1],[1],[3],[]]) (U:=[0,1,3,4,5]) (S:=[(5,true),(0,false),(1,false),(0,true)]) rfl (up_calc (L:=[1,4,0,3,5]) (by decide) (by decide) (by decide) (by decide) (by decide) (by decide)) (by decide) (by decide) (by decide) (by decide)) (by decide)
theorem chap_1:apartB (widerP chapP 1) [5] [2] [1,4]=true:=
 chap_yes (by omega) (chap_t (v:=1) (G:=[[],[0,5],[1],[1],[3],[]]) (U:=[0,1,3,4,5]) (S:=[(5,true),(1,false),(0,true)]) rfl (up_calc (L:=[1,4,0,3,5]) (by decide) (by decide) (by decide) (by decide) (by decide) (by decide)) (by decide) (by decide) (by decide) (by decide)) (by decide)
theorem chap_2:apartB (widerP chapP 2) [5] [2] [1,4]=false:=
 chap_no (by omega) (chap_t (v:=2) (G:=[[],[0],[1,5],[1],[3],[]]) (U:=[0,1,3,4]) (S:=[(5,true),(2,false)]) rfl (up_calc (L:=[1,4,0,3]) (by decide) (by decide) (by decide) (by decide) (by decide) (by decide)) (by decide) (by decide) (by decide) (by decide)) (by decide)
theorem chap_3:apartB (widerP chapP 3) [5] [2] [1,4]=true:=
 chap_yes (by omega) (chap_t (v:=3) (G:=[[],[0],[1],[1,5],[3],[]]) (U:=[0,1,3,4,5]) (S:=[(5,true),(3,false),(1,true),(4,false),(3,true)]) rfl (up_calc (L:=[1,4,0,3,5]) (by decide) (by decide) (by decide) (by decide) (by decide) (by decide)) (by decide) (by decide) (by decide) (by decide)) (by decide)
theorem chap_4:apartB (widerP chapP 4) [5] [2] [1,4]=true:=
 chap_yes (by omega) (chap_t (v:=4) (G:=[[],[0],[1],[1],[3,5],[]]) (U:=[0,1,3,4,5]) (S:=[(5,true),(4,false),(3,true),(1,true)]) rfl (up_calc (L:=[1,4,0,3,5]) (by decide) (by decide) (by decide) (by decide) (by decide) (by decide)) (by decide) (by decide) (by decide) (by decide)) (by decide)
theorem chap_kept1:keptL chapP [2] [1,4] false true=[2]:=by
 unfold keptL keptTo
 rw [show chapP.length=5 from rfl,show List.range 5=[0,1,2,3,4] from rfl]
 have e:∀ v,leaveB chapP [2] [1,4] false true v=apartB (widerP chapP v) [5] [2] [1,4]:=fun v=>by unfold leaveB;rw [chap_open];simp
 simp only [e,List.filter_cons,chap_0,chap_1,chap_2,chap_3,chap_4,List.filter_nil]
 rfl
end Go.Proofs.YtgbmnlmnhbkdbaaGreat
