/- Joined by program out of: Reach, Above, RefDag. What each says stands at its own head. -/
import Derived.Test.YtgbmnlmnhbkdbaaGreatJ8
import Derived.Test.YtgbmnlmnhbkdbaaGreatJ16
import Derived.Test.YtgbmnlmnhbkdbaaGreatJ6
import Derived.Test.YtgbmnlmnhbkdbaaGreatJ5
set_option linter.unusedVariables false
set_option linter.unusedSimpArgs false
/- dag.reach, walked: what is come to, rising; or that a point is none. Conditions: the ways read and lead to points. -/
namespace Go.Proofs.YtgbmnlmnhbkdbaaGreat
open Go.RowKit

theorem all_inRow_snoc {n:Nat} {l:List Int} {k:Nat} (h:k < l.length):inRow n (l.take (k + 1))=(inRow n (l.take k) && (decide (0≤nth l k) && decide (nth l k < (n:Int)))):=all_take_succ _ h
structure Came (W:List (List Nat)) (S:List Nat) (L:List Nat):Prop where
 nodup:L.Nodup
 lt:∀ x,x ∈ L→x < W.length
 up:∀ x,x ∈ L→Up W (· ∈ S) x
theorem Came.add {W:List (List Nat)} {S L:List Nat} (h:Came W S L) {x:Nat} (hx:x < W.length) (hu:Up W (· ∈ S) x):Came W S (if x ∈ L then L else L ++ [x]):=by
 by_cases hin:x ∈ L
 ·rw [if_pos hin];exact h
 ·rw [if_neg hin]
  refine ⟨?_,?_,?_⟩
  ·rw [List.nodup_append]
   exact ⟨h.nodup,by simp,fun a ha b hb e=>hin (by simp at hb;subst hb;subst e;exact ha)⟩
  ·intro y hy
   rcases List.mem_append.1 hy with hy | hy
   ·exact h.lt y hy
   ·rw [List.mem_singleton] at hy;subst hy;exact hx
  ·intro y hy
   rcases List.mem_append.1 hy with hy | hy
   ·exact h.up y hy
   ·rw [List.mem_singleton] at hy;subst hy;exact hu
theorem mem_add {L:List Nat} {x y:Nat}:y ∈ (if x ∈ L then L else L ++ [x]) ↔ y ∈ L ∨ y=x:=by
 by_cases hin:x ∈ L
 ·rw [if_pos hin];exact ⟨.inl,fun h=>h.elim id fun e=>e ▸ hin⟩
 ·rw [if_neg hin,List.mem_append,List.mem_singleton]
theorem add_length (L:List Nat) (x:Nat):L.length≤(if x ∈ L then L else L ++ [x]).length:=by split <;> simp
theorem nth_add {L:List Nat} {x j:Nat} (h:j < L.length):nth (if x ∈ L then L else L ++ [x]) j=nth L j:=by
 split
 ·rfl
 ·exact nth_append_left h
theorem Came.length_le {W:List (List Nat)} {S L:List Nat} (h:Came W S L):L.length≤W.length:=nodup_lt_length h.nodup h.lt
def ReachPost (w:World) (W:List (List Nat)) (pts:List Int) (e:Ending) (w':World):Prop:=
 Below w.heap.size w w'∧∃ C k d,e=.returned (.tuple #[.slice C k d,.int .i64 (if inRow W.length pts=true then 0 else 3)])∧(inRow W.length pts=true→Sl eN w' C k (upList W (pts.map Int.toNat)))∧(inRow W.length pts=false→C=none∧k=0∧d=0)∧k≤d

set_option maxRecDepth 100000 in
set_option maxHeartbeats 4000000 in
theorem reach_any (A B:Option Addr) (n c m d:Nat) (W:List (List Nat)) (pts:List Int) (w:World) (h:Rows eN w A n W) (hg:GoodG W) (hp:Sl (Value.int .i64) w B m pts) (hn:n * 24≤140737488351232) :
 Calls Tryz.prog 55 #[.slice A n c,.slice B m d] w (ReachPost w W pts):=by
 have hpb:=hp.big
 have HI:=Lib.hid (And.intro h.len (And.intro hg hp.len));clear hg
 obtain ⟨wa,hwa⟩:∃ wa:World,wa=w:=⟨_,rfl⟩
 subst hwa
 have hmm:=fun (n:Int) (w:World)=>run_makeMap_some (P:=Tryz.prog) Tryz.underlying50 n w
 have hM:=MapI.made wa Tryz.prog 3 3
 have hV:Vis wa (((wa.alloc (.map #[] 0)).alloc (.cells #[.map (some wa.heap.size)] 50)).alloc (.cells #[.slice none 0 0] 23)) wa.heap.size (wa.heap.size + 1) (wa.heap.size + 1 + 1) none 0 0 []:=by
  refine ⟨((hM.alloc _).alloc _).congr fun x=>by simp [seenI,castL],?_,?_,OwnR.nil _ _ _ _,by omega,by omega,(((Below.refl _ _).alloc (Nat.le_refl _) _).alloc (by simp) _).alloc (by simp;omega) _⟩
  ·have:=(RowC.new (wa.alloc (.map #[] 0)) 50 [.map (some wa.heap.size)]).alloc (.cells #[.slice none 0 0] 23)
   simpa using this
  ·have:=RowC.new ((wa.alloc (.map #[] 0)).alloc (.cells #[.map (some wa.heap.size)] 50)) 23 [.slice none 0 0]
   simpa using this
 have HV:=Lib.hid hV;clear hV hM
 go_enter Tryz.func55,Tryz.ntmps55
 go_wp2_with fail
 generalize ((wa.alloc (.map #[] 0)).alloc (.cells #[.map (some wa.heap.size)] 50)).alloc (.cells #[.slice none 0 0] 23)=wx at *
 generalize hps:wa.heap.size=p at *
 go_loopw [20] (fun i wr=>∃ (k k' c':Nat) (A':Option Addr) (L:List Nat),i=.int .i64 (k:Nat)∧k≤m∧inRow n (pts.take k)=true∧Vis wa wr p (p + 1) (p + 1 + 1) A' k' c' L∧Came W (pts.map Int.toNat) L∧∀ j,j < k→(nth pts j).toNat ∈ L) (fun i _=>m - (intOf i).toNat)
 case atStart=>exact ⟨0,0,0,none,[],rfl,Nat.zero_le _,rfl,HV.out,⟨List.nodup_nil,by simp,by simp⟩,fun j hj=>by omega⟩
 case round =>
  obtain ⟨k,k1,c1,A1,L,rfl,hk,hin,hvis,hcame,hcov⟩:=hrel
  obtain ⟨wb,hwb⟩:∃ wb:World,wb=wr:=⟨_,rfl⟩
  subst hwb
  by_cases hlt:k < m
  ·obtain ⟨b,off,rfl,hb,hc⟩:=(hp.below (Nat.le_of_eq hps) hvis.bel).at' (by omega)
   have g1:=hc k hlt
   have hkl:k < pts.length:=by rw [HI.out.2.2];exact hlt
   have hsn:=all_inRow_snoc (n:=n) hkl
   rw [hin,Bool.true_and] at hsn
   have hbad:¬ (0≤nth pts k∧nth pts k < (n:Int))→inRow W.length pts=false:=fun hb=>by
    rw [HI.out.1]
    refine all_down _ hkl ?_
    simp only [Bool.and_eq_false_iff,decide_eq_false_iff_not];omega
   have hS:(nth pts k).toNat ∈ pts.map Int.toNat:=List.mem_map.2 ⟨_,nth_mem hkl,rfl⟩
   have hk1:k1≤n:=by have h1:=hcame.length_le;have h2:=hvis.oo.length;have h3:=HI.out.1;omega
   have hself:∀ (x:Nat) (j:Nat),j < k + 1→(nth pts k).toNat=x→(nth pts j).toNat ∈ (if x ∈ L then L else L ++ [x]):=fun x j hj e=>by
    rw [mem_add]
    rcases Nat.lt_or_ge j k with h1 | h1
    ·exact .inl (hcov j h1)
    ·obtain rfl:j=k:=by omega
     exact .inr e
   have HS:=Lib.hid (And.intro hsn (And.intro hbad (And.intro hS (And.intro hvis (And.intro hcame hself)))));clear hsn hbad hS hvis hcame hself hcov hin hc hkl
   generalize hs:nth pts k=s at *
   by_cases hs0:s < 0
   ·have HC:=Lib.hid (HS.out.2.1 (by omega))
    go_wp2_with fail
    go_ret2
    exact ⟨by rw [hps];exact HS.out.2.2.2.1.bel,none,0,0,by rw [HC.out];rfl,fun h=>(by rw [HC.out] at h;cases h),fun _=>⟨rfl,rfl,rfl⟩,Nat.le_refl _⟩
   ·by_cases hs1:(n:Int)≤s
    ·have HC:=Lib.hid (HS.out.2.1 (by omega))
     go_wp2_with fail
     go_ret2
     exact ⟨by rw [hps];exact HS.out.2.2.2.1.bel,none,0,0,by rw [HC.out];rfl,fun h=>(by rw [HC.out] at h;cases h),fun _=>⟨rfl,rfl,rfl⟩,Nat.le_refl _⟩
    ·obtain ⟨x,rfl⟩:∃ x:Nat,s=(x:Int):=⟨s.toNat,by omega⟩
     have hxn:x < n:=by omega
     clear hs0 hs1
     go_wp2_with fail
     refine (visit_any wa p (p + 1) (p + 1 + 1) A1 k1 c1 L x _ HS.out.2.2.2.1 (by omega) (by omega)).mono ?_
     rintro e w2 ⟨rfl,A2,k2,c2,hv2⟩
     have hx2:Came W (pts.map Int.toNat) (if x ∈ L then L else L ++ [x]):=HS.out.2.2.2.2.1.add (by rw [HI.out.1];exact hxn) (.base (by have:=HS.out.2.2.1;simpa using this))
     have hc2:=fun j hj=>HS.out.2.2.2.2.2 x j hj (by simp)
     have hin2:inRow n (pts.take (k + 1))=true:=by rw [HS.out.1];simp;omega
     have H2:=Lib.hid (And.intro hv2 (And.intro hx2 (And.intro hc2 hin2)));clear hv2 hx2 hc2 hin2 hs
     go_wp2_with fail
     exact ⟨⟨k + 1,k2,c2,A2,_,by go_num,by omega,H2.out.2.2.2,H2.out.1,H2.out.2.1,H2.out.2.2.1⟩,by simp [intOf];omega⟩
  ·obtain rfl:k=m:=by omega
   have hall:inRow n pts=true:=by rw [take_all (by rw [HI.out.2.2];exact Nat.le_refl _)] at hin;exact hin
   have hcovS:∀ x,x ∈ pts.map Int.toNat→x ∈ L:=fun x hx=>by
    obtain ⟨y,hy,rfl⟩:=List.mem_map.1 hx
    obtain ⟨j,hj,e⟩:=mem_nth hy
    rw [← e];exact hcov j (by rw [← HI.out.2.2];exact hj)
   have HL:=Lib.hid (And.intro hall (And.intro hcovS (And.intro hvis hcame)));clear hall hcovS hvis hcame hcov hin
   go_wp2_with fail
   go_loopw [11] (fun i wr=>∃ (i' k' c':Nat) (A':Option Addr) (L:List Nat),i=.int .i64 (i':Nat)∧i'≤L.length∧Vis wa wr p (p + 1) (p + 1 + 1) A' k' c' L∧Came W (pts.map Int.toNat) L∧(∀ x,x ∈ pts.map Int.toNat→x ∈ L)∧∀ j,j < i'→∀ q,q ∈ nth W (nth L j)→q ∈ L) (fun i _=>n - (intOf i).toNat)
   case atStart=>exact ⟨0,k1,c1,A1,L,rfl,Nat.zero_le _,HL.out.2.2.1,HL.out.2.2.2,HL.out.2.1,fun j hj=>by omega⟩
   case round =>
    obtain ⟨i,k2,c2,A2,L2,rfl,hi,hvis,hcame,hcovS,hclo⟩:=hrel
    obtain ⟨wb,hwb⟩:∃ wb:World,wb=wr:=⟨_,rfl⟩
    subst hwb
    have r0:=hvis.oc.cell 0
    have hL2:=hvis.oo.length
    have hLn:=hcame.length_le
    rw [HI.out.1] at hLn
    have hik:i≤k2:=by omega
    have hk2:k2≤n:=by omega
    clear hi hLn
    by_cases hlt2:i < k2
    ·obtain ⟨bo,oo,rfl,hbo,hco⟩:=(hvis.oo.sl (by omega)).at' (by omega)
     have go:=hco i hlt2
     have hsW:nth L2 i < n:=by rw [← HI.out.1];exact hcame.lt _ (nth_mem (by rw [hL2];exact hlt2))
     have hup:∀ q,q ∈ nth W (nth L2 i)→Up W (· ∈ pts.map Int.toNat) q∧q < n:=fun q hq=>⟨.step (hcame.up _ (nth_mem (by rw [hL2];exact hlt2))) hq,by rw [← HI.out.1];exact HI.out.2.1 _ (by rw [HI.out.1];exact hsW) q hq⟩
     have HS:=Lib.hid (And.intro hvis (And.intro hcame (And.intro hcovS (And.intro hclo (And.intro hup hL2)))));clear hvis hcame hcovS hclo hup hco hL2
     generalize hs:nth L2 i=s at *
     obtain ⟨b,off,B2,m2,d2,rfl,hbs,g0,hrow⟩:=h.row hsW
     have g1:=((keeps HS.out.1.bel).1 b (off + s) (by omega)).trans g0
     have hbm:=hrow.big
     have HR:=Lib.hid (And.intro hrow hs);clear hrow g0 hs
     go_wp2_with fail
     go_loopw [50] (fun j wr=>∃ (q k' c':Nat) (A':Option Addr) (L:List Nat),j=.int .i64 (q:Nat)∧q≤m2∧k2≤L.length∧nth L i=s∧Vis wa wr p (p + 1) (p + 1 + 1) A' k' c' L∧Came W (pts.map Int.toNat) L∧(∀ x,x ∈ pts.map Int.toNat→x ∈ L)∧(∀ j,j < i→∀ q,q ∈ nth W (nth L j)→q ∈ L)∧∀ j,j < q→nth (nth W s) j ∈ L) (fun j _=>m2 - (intOf j).toNat)
     case atStart=>exact ⟨0,k2,c2,_,L2,rfl,Nat.zero_le _,Nat.le_of_eq HS.out.2.2.2.2.2.symm,HR.out.2,HS.out.1,HS.out.2.1,HS.out.2.2.1,HS.out.2.2.2.1,fun j hj=>by omega⟩
     case round =>
      obtain ⟨q,k3,c3,A3,L3,rfl,hq,hlen3,hnth3,hvis,hcame,hcovS,hclo,hpart⟩:=hrel
      obtain ⟨wc,hwc⟩:∃ wc:World,wc=wr:=⟨_,rfl⟩
      subst hwc
      by_cases hqm:q < m2
      ·obtain ⟨b5,off5,rfl,hb5,hc5⟩:=(HR.out.1.below (Nat.le_of_eq hps) hvis.bel).at' (by omega)
       have g5:=hc5 q hqm
       have hql:q < (nth W s).length:=by rw [HR.out.1.len];exact hqm
       have hux:=HS.out.2.2.2.2.1 (nth (nth W s) q) (nth_mem hql)
       have hk3:k3≤n:=by have h1:=hcame.length_le;have h2:=hvis.oo.length;have h3:=HI.out.1;omega
       have hxn:=hux.2
       have HC:=Lib.hid (And.intro hvis (And.intro hcame (And.intro hcovS (And.intro hclo (And.intro hpart (And.intro hlen3 (And.intro hnth3 hux.1)))))));clear hvis hcame hcovS hclo hpart hlen3 hnth3 hux hc5 hql
       generalize hx:nth (nth W s) q=x at *
       have HX:=Lib.hid hx;clear hx
       go_wp2_with fail
       refine (visit_any wa p (p + 1) (p + 1 + 1) A3 k3 c3 L3 x _ HC.out.1 (by omega) (by omega)).mono ?_
       rintro e w2 ⟨rfl,A4,k4,c4,hv4⟩
       have hx4:=HC.out.2.1.add (x:=x) (by rw [HI.out.1];exact hxn) HC.out.2.2.2.2.2.2.2
       have hS4:∀ y,y ∈ pts.map Int.toNat→y ∈ (if x ∈ L3 then L3 else L3 ++ [x]):=fun y hy=>mem_add.2 (.inl (HC.out.2.2.1 y hy))
       have hc4:∀ j,j < i→∀ q,q ∈ nth W (nth (if x ∈ L3 then L3 else L3 ++ [x]) j)→q ∈ (if x ∈ L3 then L3 else L3 ++ [x]):=fun j hj q hq=>by
        rw [nth_add (by have:=HC.out.2.2.2.2.2.1;omega)] at hq
        exact mem_add.2 (.inl (HC.out.2.2.2.1 j hj q hq))
       have hp4:∀ j,j < q + 1→nth (nth W s) j ∈ (if x ∈ L3 then L3 else L3 ++ [x]):=fun j hj=>by
        rw [mem_add]
        rcases Nat.lt_or_ge j q with h1 | h1
        ·exact .inl (HC.out.2.2.2.2.1 j h1)
        ·obtain rfl:j=q:=by omega
         exact .inr HX.out
       have hl4:k2≤(if x ∈ L3 then L3 else L3 ++ [x]).length:=Nat.le_trans HC.out.2.2.2.2.2.1 (add_length _ _)
       have hn4:nth (if x ∈ L3 then L3 else L3 ++ [x]) i=s:=by rw [nth_add (by have:=HC.out.2.2.2.2.2.1;omega)];exact HC.out.2.2.2.2.2.2.1
       have H4:=Lib.hid (And.intro hv4 (And.intro hx4 (And.intro hS4 (And.intro hc4 (And.intro hp4 (And.intro hl4 hn4))))));clear hv4 hx4 hS4 hc4 hp4 hl4 hn4
       go_wp2_with fail
       exact ⟨⟨q + 1,k4,c4,A4,_,by go_num,by omega,H4.out.2.2.2.2.2.1,H4.out.2.2.2.2.2.2,H4.out.1,H4.out.2.1,H4.out.2.2.1,H4.out.2.2.2.1,H4.out.2.2.2.2.1⟩,by simp [intOf];omega⟩
      ·obtain rfl:q=m2:=by omega
       have hclo':∀ j,j < i + 1→∀ q,q ∈ nth W (nth L3 j)→q ∈ L3:=fun j hj q hq=>by
        rcases Nat.lt_or_ge j i with h1 | h1
        ·exact hclo j h1 q hq
        ·obtain rfl:j=i:=by omega
         rw [hnth3] at hq
         obtain ⟨r,hr,e⟩:=mem_nth hq
         rw [← e];exact hpart r (by rw [← HR.out.1.len];exact hr)
       have HC:=Lib.hid (And.intro hvis (And.intro hcame (And.intro hcovS hclo')));clear hvis hcame hcovS hclo hclo' hpart hnth3
       go_wp2_with fail
       exact ⟨⟨i + 1,k3,c3,A3,L3,by go_num,by omega,HC.out.1,HC.out.2.1,HC.out.2.2.1,HC.out.2.2.2⟩,by simp [intOf];omega⟩
    ·obtain rfl:i=k2:=by omega
     have hiff:∀ x,x ∈ L2 ↔ Up W (· ∈ pts.map Int.toNat) x:=fun x=>up_iff hcovS (fun y hy q hq=>by
      obtain ⟨j,hj,e⟩:=mem_nth hy
      rw [← e] at hq
      exact hclo j (by omega) q hq) hcame.up x
     have HF:=Lib.hid (And.intro hvis (And.intro hcame hiff));clear hvis hcame hiff hcovS hclo
     go_wp2_with fail
     refine (sort_own (p + 1 + 1 + 1) A2 i c2 L2 _ HF.out.1.oo (by omega)).mono ?_
     rintro e w9 ⟨rfl,L9,hp9,hs9,ho9,ht9⟩
     have hoc:=HF.out.1.oc.turn ht9 (fun e=>by have:=(HF.out.1.row e).1;omega)
     have hb9:=HF.out.1.bel.trans (ht9.below (B:=p) (Nat.le_of_lt HF.out.1.map.lt) (fun x hx e=>by have:=(HF.out.1.row e).1;omega))
     have hL9:L9=upList W (pts.map Int.toNat):=by
      refine ptsOf_eq (rising_of_sorted hs9 (hp9.nodup_iff.2 HF.out.2.1.nodup)) fun x=>?_
      rw [hp9.mem_iff,HF.out.2.2 x]
      exact ⟨fun hx=>⟨HF.out.2.1.lt x ((HF.out.2.2 x).2 hx),hx⟩,fun hx=>hx.2⟩
     have hcap9:=ho9.cap
     have hsl:=ho9.sl (by omega)
     rw [hL9] at hsl
     have r1:=hoc.cell 0
     have H9:=Lib.hid (And.intro hsl hb9);clear hsl hb9 hp9 hs9 ho9 ht9 hoc hL9 r0
     go_wp2_with fail
     go_ret2
     have hin:=HL.out.1
     rw [← HI.out.1] at hin
     exact ⟨by rw [hps];exact H9.out.2,A2,i,c2,by rw [hin];rfl,fun _=>H9.out.1,fun h=>(by rw [hin] at h;cases h),hcap9⟩
end Go.Proofs.YtgbmnlmnhbkdbaaGreat
/- dag.Above, walked: some points and all that they hang on, rising, or the error. Conditions: the parents and the points read, within Go's bound. -/
namespace Go.Proofs.YtgbmnlmnhbkdbaaGreat
open Go.RowKit

noncomputable def aboveE (Ps:List (List Int)) (pts:List Int):Int:=if checkP Ps ≠ 0 then checkP Ps else if inRow Ps.length pts=true then 0 else 3
def AbovePost (w:World) (Ps:List (List Int)) (pts:List Int) (e:Ending) (w':World):Prop:=
 Below w.heap.size w w'∧∃ C k d,e=.returned (.tuple #[.slice C k d,.int .i64 (aboveE Ps pts)])∧(aboveE Ps pts=0→Sl eN w' C k (upList (toG Ps) (pts.map Int.toNat)))∧(aboveE Ps pts ≠ 0→k=0)∧k≤d
set_option maxRecDepth 100000 in
set_option maxHeartbeats 1600000 in
theorem above_any (A B:Option Addr) (n c m d:Nat) (Ps:List (List Int)) (pts:List Int) (w:World) (h:Rows (Value.int .i64) w A n Ps) (hp:Sl (Value.int .i64) w B m pts) (hn:n * 24≤140737488351232) :
 Calls Tryz.prog 32 #[.slice A n c,.slice B m d] w (AbovePost w Ps pts):=by
 have HL:=Lib.hid h.len
 obtain ⟨wa,hwa⟩:∃ wa:World,wa=w:=⟨_,rfl⟩
 subst hwa
 go_enter Tryz.func32,Tryz.ntmps32
 go_wp2_with fail
 refine (check_dag A n c Ps _ h hn).mono ?_
 rintro e w1 ⟨rfl,hb⟩
 have HB:=Lib.hid hb;clear hb
 by_cases hf:checkP Ps=0
 ·obtain ⟨hr,hd,_⟩:=checkP_ok hf
  have hae:aboveE Ps pts=if inRow Ps.length pts=true then 0 else 3:=by unfold aboveE;rw [if_neg (by rw [hf];simp)]
  have HA:=Lib.hid hae
  rw [hf]
  have h1:=(h.below (Nat.le_refl _) HB.out).toNat hr
  have hg:=good_toG hr
  have hp1:=hp.below (Nat.le_refl _) HB.out
  clear hd hr hf hae
  go_wp2_with fail
  refine (reach_any A B n c m d (toG Ps) pts _ h1 hg hp1 hn).mono ?_
  rintro e w2 ⟨hb2,C,k,d2,rfl,h2,h3,h4⟩
  have hb3:=HB.out.trans (hb2.mono HB.out.size)
  rw [toG_length] at h2 h3 ⊢
  have HC:=Lib.hid (And.intro hb3 (And.intro h2 h3));clear hb2 h2 h3 hb3 h1 hp1 hg
  generalize hx:(if inRow Ps.length pts=true then (0:Int) else 3)=x at *
  have HX:=Lib.hid hx;clear hx
  go_wp2_with fail
  go_ret2
  refine ⟨HC.out.1,C,k,d2,by rw [HA.out];rfl,fun h0=>HC.out.2.1 ?_,fun h0=>(HC.out.2.2 ?_).2.1,h4⟩
  ·have h1:=HX.out
   rw [HA.out] at h0;rw [h0] at h1
   split at h1
   ·assumption
   ·omega
  ·have h1:=HX.out
   rw [HA.out] at h0
   split at h1
   ·exact absurd h1.symm h0
   ·simpa using ‹¬ inRow Ps.length pts=true›
 ·have hae:aboveE Ps pts=checkP Ps:=by unfold aboveE;rw [if_pos hf]
  have HA:=Lib.hid hae;clear hae
  have hle:=checkP_le Ps
  go_wp2_with fail
  go_ret2
  exact ⟨HB.out,none,0,0,by rw [HA.out];rfl,fun h0=>absurd (HA.out.symm.trans h0) hf,fun _=>rfl,Nat.le_refl _⟩
end Go.Proofs.YtgbmnlmnhbkdbaaGreat
/- credenceref14's Has, inside, twice, out, Check, walked: whether parents may be. Conditions: the parents read, within Go's bound. -/
namespace Go.Proofs.YtgbmnlmnhbkdbaaGreat
open Go.RowKit

set_option maxRecDepth 100000 in
set_option maxHeartbeats 400000 in
theorem has_ref (A:Option Addr) (n c:Nat) (xs:List Int) (x:Int) (w:World) (h:Sl (Value.int .i64) w A n xs) :
 Calls Tryz.prog 15 #[.slice A n c,.int .i64 x] w fun e w'=>e=.returned (.bool (decide (x ∈ xs)))∧w'=w:=by
 have hbig:=h.big
 have HI:=Lib.hid h.len
 obtain ⟨wa,hwa⟩:∃ wa:World,wa=w:=⟨_,rfl⟩
 subst hwa
 go_enter Tryz.func15,Tryz.ntmps15
 go_wp2_with fail
 go_loopw [5] (fun i wr=>∃ k:Nat,i=.int .i64 (k:Nat)∧k≤n∧(xs.take k).contains x=false∧wr=wa) (fun i _=>n - (intOf i).toNat)
 case atStart=>exact ⟨0,rfl,Nat.zero_le _,rfl,rfl⟩
 case round =>
  obtain ⟨k,rfl,hk,hno,hwr⟩:=hrel
  have hwr:=hwr.symm
  subst hwr
  by_cases hlt:k < n
  ·obtain ⟨b,off,rfl,_,hc⟩:=h.at' (by omega)
   have g1:=hc k hlt
   have hkl:k < xs.length:=by rw [HI.out];exact hlt
   have hsn:(xs.take (k + 1)).contains x=(x == nth xs k):=by
    rw [take_snoc hkl]
    rw [Bool.eq_iff_iff,List.contains_iff_mem,List.mem_append,List.mem_singleton,beq_iff_eq]
    have:x ∉ xs.take k:=fun hm=>by rw [← List.contains_iff_mem] at hm;rw [hm] at hno;cases hno
    exact ⟨fun h=>h.resolve_left this,.inr⟩
   have hyes:x=nth xs k→xs.contains x=true:=fun e=>by rw [List.contains_iff_mem,e];exact nth_mem hkl
   have HS:=Lib.hid (And.intro hsn hyes);clear hsn hyes hno hc hkl
   generalize nth xs k=s at *
   by_cases hs:s=x
   ·subst hs
    have HC:=Lib.hid (show decide (s ∈ xs)=true by rw [decide_eq_true_iff,← List.contains_iff_mem];exact HS.out.2 rfl)
    go_wp2_with fail
    go_ret
    exact ⟨ret_bool HC.out.symm,rfl⟩
   ·have hs':(s == x)=false:=by simpa using hs
    go_wp2_with fail
    exact ⟨⟨k + 1,by go_num,by omega,by rw [HS.out.1];simp;exact fun e=>hs e.symm,trivial⟩,by simp [intOf];omega⟩
  ·obtain rfl:k=n:=by omega
   have HC:=Lib.hid (show decide (x ∈ xs)=false by rw [take_all (by rw [HI.out];exact Nat.le_refl _)] at hno;rw [decide_eq_false_iff_not,← List.contains_iff_mem,hno];simp)
   clear hno
   go_wp2_with fail
   go_ret
   exact ⟨ret_bool HC.out.symm,rfl⟩


theorem Sl.cut {α:Type} [Inhabited α] {enc:α→Value} {w:World} {A:Option Addr} {n:Nat} {xs:List α} (h:Sl enc w A n xs) {k:Nat} (hk:k≤n):Sl enc w A k (xs.take k):=
 ⟨by rw [List.length_take,h.len];omega,by have:=h.big;omega,fun hp=>by
   obtain ⟨b,off,e,hlt,hc⟩:=h.at' (by omega)
   exact ⟨b,off,e,hlt,fun j hj=>by rw [hc j (by omega),nth_take hj]⟩⟩

end Go.Proofs.YtgbmnlmnhbkdbaaGreat
