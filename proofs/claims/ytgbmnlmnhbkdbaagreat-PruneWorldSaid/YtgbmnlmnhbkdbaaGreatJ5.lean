/- Joined by program out of: Own, Kids, SrtMath, Multi. What each says stands at its own head. -/
import Derived.Test.YtgbmnlmnhbkdbaaGreatJ4
import Derived.Test.YtgbmnlmnhbkdbaaGreatJ1
import Derived.Laws.OwnMore
import Derived.IntWalk
set_option linter.unusedVariables false
set_option linter.unusedSimpArgs false
/- Memory of the call's own: make and append with an element type's facts in one word; a row of slices that each own a row. Conditions: lengths within Go's bound. -/
namespace Go.Proofs.YtgbmnlmnhbkdbaaGreat
open Go.RowKit

theorem eiInt:EI Tryz.prog 23 3 (.int .i64 0) 8:=.mk' Tryz.underlying23 (by kernel_rfl) rfl (by omega)
theorem eiRows:EI Tryz.prog 22 23 (.slice none 0 0) 24:=.mk' Tryz.underlying22 (by kernel_rfl) rfl (by omega)

structure Owns {α:Type} (enc:α→Value) (w:World) (g:Nat) (te e:TypeId) (n:Nat) (vs:List (Option Addr × Nat × Nat)) (f:Nat→List α):Prop where
 row:RowAt eS w g te vs []
 len:vs.length=n
 own:∀ p,p < n→OwnR enc w (g + 1) e (nth vs p).1 (nth vs p).2.1 (nth vs p).2.2 (f p)
 far:∀ p q,p < n→q < n→p ≠ q→∀ b,(nth vs p).1=some ⟨b,0,none⟩→(nth vs q).1 ≠ some ⟨b,0,none⟩
section
variable {α:Type} {enc:α→Value} {w w':World} {g n:Nat} {te e:TypeId} {vs:List (Option Addr × Nat × Nat)} {f:Nat→List α}
theorem Owns.start (h:RowAt eS w g te (List.replicate n (none,0,0)) []):Owns enc w g te e n (List.replicate n (none,0,0)) (fun _=>[]):=by
 have hn:∀ p,p < n→nth (List.replicate n ((none:Option Addr),0,0)) p=(none,0,0):=fun p hp=>by rw [nth_eq (by simpa using hp)];simp
 exact ⟨h,by simp,fun p hp=>by rw [hn p hp];exact OwnR.nil _ _ _ _,fun p q hp hq _ b e=>by rw [hn p hp] at e;cases e⟩
theorem Owns.below (h:Owns enc w g te e n vs f) (hb:Below w.heap.size w w'):Owns enc w' g te e n vs f:=
 ⟨h.row.below hb h.row.lt,h.len,fun p hp=>(h.own p hp).below (Nat.le_refl _) hb,h.far⟩
instance:Stable (fun w=>Owns enc w g te e n vs f):=⟨fun hb h=>h.below hb⟩
theorem Owns.cell (h:Owns enc w g te e n vs f) {p:Nat} (hp:p < n):w.cell? ⟨g,p,none⟩=some (.slice (nth vs p).1 (nth vs p).2.1 (nth vs p).2.2):=h.row.cell (by rw [h.len];exact hp)
theorem Owns.rows [Inhabited α] (h:Owns enc w g te e n vs f) (hn:n≤140737488351232) (hl:∀ p,p < n→(f p).length≤140737488351232):Rows enc w (some ⟨g,0,none⟩) n ((List.range n).map f):=by
 refine ⟨⟨vs,?_,fun i hi=>?_⟩,by simp⟩
 ·have:=h.row.sl (by rw [h.len];exact hn);rw [h.len] at this;exact this
 ·rw [nth_map _ (by simpa using hi)]
  have e:nth (List.range n) i=i:=by rw [nth_eq (by simpa using hi)];simp
  rw [e]
  have h1:=(h.own i hi).length
  have h2:=hl i hi
  exact ⟨(h.own i hi).sl (by omega),(h.own i hi).cap⟩
theorem Owns.rowsF [Inhabited α] (h:Owns enc w g te e n vs f) (hn:n≤140737488351232) (hl:∀ p,p < n→(f p).length≤140737488351232):RowsF g enc w (some ⟨g,0,none⟩) n ((List.range n).map f):=by
 refine ⟨⟨vs,?_,fun b off e=>by injection e with e;injection e with e;omega,fun i hi=>⟨?_,((h.own i hi).fr).mono (Nat.le_succ g),(h.own i hi).cap⟩⟩,by simp⟩
 ·have:=h.row.sl (by rw [h.len];exact hn);rw [h.len] at this;exact this
 ·rw [nth_map _ (by simpa using hi)]
  have e:nth (List.range n) i=i:=by rw [nth_eq (by simpa using hi)];simp
  rw [e]
  have h1:=(h.own i hi).length
  have h2:=hl i hi
  exact (h.own i hi).sl (by omega)
theorem Owns.append (h:Owns enc w g te e n vs f) {p:Nat} (hp:p < n) {A':Option Addr} {m' c':Nat} {ys:List α} (hown:OwnR enc w' (g + 1) e A' m' c' ys)
 (hg:w.grownBy w' (Value.slice (nth vs p).1 (nth vs p).2.1 (nth vs p).2.2).ownBlock) (hd:(Value.slice A' m' c').ownBlock=(Value.slice (nth vs p).1 (nth vs p).2.1 (nth vs p).2.2).ownBlock ∨ ∃ b,(Value.slice A' m' c').ownBlock=some b∧w.heap.size≤b) :
 Owns enc (w'.setCell ⟨g,p,none⟩ (.slice A' m' c')) g te e n (vs.set p (A',m',c')) (fun x=>if x=p then ys else f x):=by
 have hne:∀ b,(nth vs p).1=some ⟨b,0,none⟩→g < b:=fun b e=>by
  rcases (h.own p hp).at_row with h1 | ⟨g',h1,h2,_⟩
  ·rw [e] at h1;cases h1
  ·rw [e] at h1;injection h1 with h1;injection h1 with h1;omega
 have hob:∀ b,(Value.slice (nth vs p).1 (nth vs p).2.1 (nth vs p).2.2).ownBlock=some b→(nth vs p).1=some ⟨b,0,none⟩:=fun b e=>by
  rcases (h.own p hp).at_row with h1 | ⟨g',h1,_⟩
  ·rw [h1] at e;cases e
  ·rw [h1] at e ⊢;injection e with e;rw [← e]
 have hrow:RowAt eS w' g te vs []:=h.row.grown hg fun e=>by
  have:=hne g (hob g e.symm)
  omega
 have hset:=hrow.set (j:=p) (by rw [h.len];exact hp) (A',m',c')
 have hA:∀ b,A'=some ⟨b,0,none⟩→g < b∧((nth vs p).1=some ⟨b,0,none⟩ ∨ w.heap.size≤b):=fun b e=>by
  have h1:g < b:=by
   rcases hown.at_row with h1 | ⟨g',h1,h2,_⟩
   ·rw [e] at h1;cases h1
   ·rw [e] at h1;injection h1 with h1;injection h1 with h1;omega
  refine ⟨h1,?_⟩
  have h2:(Value.slice A' m' c').ownBlock=some b:=by rw [e];rfl
  rcases hd with hd | hd
  ·exact .inl (hob b (by rw [← hd];exact h2))
  ·obtain ⟨b',hd,hle⟩:=hd
   rw [h2] at hd;injection hd with hd;subst hd;exact .inr hle
 refine ⟨hset,by simpa using h.len,fun q hq=>?_,fun q r hq hr hqr b e1 e2=>?_⟩
 ·by_cases hqp:q=p
  ·subst hqp
   rw [nth_set_same (by rw [h.len];exact hq),if_pos rfl]
   exact hown.setFar (fun b e=>by have:=(hA b e).1;simp;omega) _
  ·rw [nth_set_other (fun e=>hqp e.symm),if_neg hqp]
   refine ((h.own q hq).grown hg fun b e e2=>?_).setFar (fun b e=>?_) _
   ·exact h.far q p hq hp hqp b e (hob b e2)
   ·rcases (h.own q hq).at_row with h1 | ⟨g',h1,h2,_⟩
    ·rw [e] at h1;cases h1
    ·rw [e] at h1;injection h1 with h1;injection h1 with h1;simp;omega
 ·have hlt:∀ q b,q < n→(nth vs q).1=some ⟨b,0,none⟩→b < w.heap.size:=fun q b hq e=>by
   rcases (h.own q hq).at_row with h1 | ⟨g',h1,_,h3⟩
   ·rw [e] at h1;cases h1
   ·rw [e] at h1;injection h1 with h1;injection h1 with h1;omega
  by_cases hqp:q=p
  ·subst hqp
   rw [nth_set_same (by rw [h.len];exact hq)] at e1
   rw [nth_set_other hqr] at e2
   rcases (hA b e1).2 with h1 | h1
   ·exact h.far q r hq hr hqr b h1 e2
   ·have:=hlt r b hr e2;omega
  ·rw [nth_set_other (fun e=>hqp e.symm)] at e1
   by_cases hrp:r=p
   ·subst hrp
    rw [nth_set_same (by rw [h.len];exact hr)] at e2
    rcases (hA b e2).2 with h1 | h1
    ·exact h.far q r hq hr hqr b e1 h1
    ·have:=hlt q b hq e1;omega
   ·rw [nth_set_other (fun e=>hrp e.symm)] at e2
    exact h.far q r hq hr hqr b e1 e2
end
end Go.Proofs.YtgbmnlmnhbkdbaaGreat
/- dag.children, walked: of each point the points that hang on it. Conditions: the parents read, are points, none twice. -/
namespace Go.Proofs.YtgbmnlmnhbkdbaaGreat
open Go.RowKit

def kidsUp (G:List (List Nat)) (i p:Nat):List Nat:=(List.range i).filter fun j=>(nth G j).contains p
def kids (G:List (List Nat)):List (List Nat):=(List.range G.length).map (kidsUp G G.length)
theorem nth_kids {G:List (List Nat)} {p:Nat} (h:p < G.length):nth (kids G) p=kidsUp G G.length p:=by
 unfold kids;rw [nth_map _ (by simpa using h),nth_eq (by simpa using h)];simp
theorem mem_kids {G:List (List Nat)} {p c:Nat} (h:p < G.length):c ∈ nth (kids G) p ↔ c < G.length∧p ∈ nth G c:=by
 rw [nth_kids h];unfold kidsUp;rw [List.mem_filter,List.mem_range];simp
theorem kids_nodup {G:List (List Nat)} {p:Nat} (h:p < G.length):(nth (kids G) p).Nodup:=by
 rw [nth_kids h];exact List.nodup_range.filter _
def kidsTo (G:List (List Nat)) (i q p:Nat):List Nat:=kidsUp G i p ++ if ((nth G i).take q).contains p then [i] else []
theorem kidsTo_zero (G:List (List Nat)) (i p:Nat):kidsTo G i 0 p=kidsUp G i p:=by simp [kidsTo]
theorem kidsTo_full {G:List (List Nat)} {i m:Nat} (h:(nth G i).length=m) (p:Nat):kidsTo G i m p=kidsUp G (i + 1) p:=by
 unfold kidsTo kidsUp
 rw [List.take_of_length_le (by omega),List.range_succ,List.filter_append]
 congr 1
 simp [List.filter_cons]
theorem kidsTo_succ {G:List (List Nat)} {i q:Nat} (hn:(nth G i).Nodup) (hq:q < (nth G i).length) (x:Nat) :
 kidsTo G i (q + 1) x=if x=nth (nth G i) q then kidsTo G i q (nth (nth G i) q) ++ [i] else kidsTo G i q x:=by
 unfold kidsTo
 rw [take_snoc hq]
 have hnot:((nth G i).take q).contains (nth (nth G i) q)=false:=by
  have:=nodup_dup hn
  rw [← Bool.not_eq_true]
  intro h
  have h2:=dup_up hq (l:=nth G i) h
  rw [h2] at this;cases this
 by_cases hx:x=nth (nth G i) q
 ·subst hx
  rw [if_pos rfl,hnot]
  simp
 ·rw [if_neg hx]
  have:(((nth G i).take q) ++ [nth (nth G i) q]).contains x=((nth G i).take q).contains x:=by
   rw [Bool.eq_iff_iff];simp [hx]
  rw [this]
theorem kidsTo_length (G:List (List Nat)) (i q p:Nat):(kidsTo G i q p).length≤i + 1:=by
 unfold kidsTo kidsUp
 rw [List.length_append]
 have h1:=List.length_filter_le (fun j=>(nth G j).contains p) (List.range i)
 rw [List.length_range] at h1
 have h2:(if ((nth G i).take q).contains p then [i] else []).length≤1:=by split <;> simp
 omega

set_option maxRecDepth 100000 in
set_option maxHeartbeats 1600000 in
theorem children_any (A:Option Addr) (n c:Nat) (G:List (List Nat)) (w:World) (h:Rows eN w A n G) (hg:GoodG G) (hd:∀ i,i < n→(nth G i).Nodup) (hn:n * 24≤140737488351232) :
 Calls Tryz.prog 52 #[.slice A n c] w fun e w'=>∃ B d,e=.returned (.slice B n d)∧RowsF w.heap.size eN w' B n (kids G)∧Below w.heap.size w w':=by
 have hbig:=h.big
 have HI:=Lib.hid (And.intro h.len (And.intro hg hd));clear hg hd
 obtain ⟨wa,hwa⟩:∃ wa:World,wa=w:=⟨_,rfl⟩
 subst hwa
 go_enter Tryz.func52,Tryz.ntmps52
 go_wp2_with (first
  | (with_reducible refine wpList_mk _ eiRows eS (none,0,0) rfl rfl _ _ rfl n rfl rfl (by omega) ?_)
  | fail)
 intro w1 hrow1 hb1
 have hO:=Owns.start (enc:=eN) (e:=3) hrow1
 have HO:=Lib.hid (And.intro hO hb1);clear hO hb1 hrow1
 generalize hp:wa.heap.size=p
 go_wp2_with fail
 go_loopw [13] (fun i wr=>∃ (k:Nat) (vs:List (Option Addr × Nat × Nat)),i=.int .i64 (k:Nat)∧k≤n∧Owns eN wr p 23 3 n vs (kidsUp G k)∧Below p wa wr) (fun i _=>n - (intOf i).toNat)
 case atStart=>exact ⟨0,_,rfl,Nat.zero_le _,by rw [← hp];exact HO.out.1,by rw [← hp];exact HO.out.2⟩
 case round =>
  obtain ⟨k,vs,rfl,hk,hown,hbl⟩:=hrel
  obtain ⟨wb,hwb⟩:∃ wb:World,wb=wr:=⟨_,rfl⟩
  subst hwb
  by_cases hlt:k < n
  ·obtain ⟨b,off,B,m,d,rfl,hbs,g0,hrow⟩:=h.row hlt
   have g1:=((keeps hbl).1 b (off + k) (by omega)).trans g0
   have hbm:=hrow.big
   have HL:=Lib.hid (And.intro hrow hbl);clear hbl hrow g0
   have hown':Owns eN wb p 23 3 n vs (kidsTo G k 0):=by rw [funext (kidsTo_zero G k)];exact hown
   clear hown
   go_wp2_with fail
   go_loopw [20] (fun j wr=>∃ (q:Nat) (vs:List (Option Addr × Nat × Nat)),j=.int .i64 (q:Nat)∧q≤m∧Owns eN wr p 23 3 n vs (kidsTo G k q)∧Below p wa wr) (fun j _=>m - (intOf j).toNat)
   case atStart=>exact ⟨0,vs,rfl,Nat.zero_le _,hown',HL.out.2⟩
   case round =>
    obtain ⟨q,vt,rfl,hq,hown,hbl⟩:=hrel
    obtain ⟨wc,hwc⟩:∃ wc:World,wc=wr:=⟨_,rfl⟩
    subst hwc
    by_cases hqm:q < m
    ·obtain ⟨b2,off2,rfl,hb2,hc⟩:=(HL.out.1.below (Nat.le_of_eq hp) hbl).at' (by omega)
     have hql:q < (nth G k).length:=by rw [HL.out.1.len];exact hqm
     have g2:=hc q hqm
     have hs2:nth (nth G k) q < n:=by have:=HI.out.2.1 k (by rw [HI.out.1];exact hlt) _ (nth_mem hql);rw [HI.out.1] at this;exact this
     have hsucc:=kidsTo_succ (HI.out.2.2 k hlt) hql
     have hlen:=kidsTo_length G k q (nth (nth G k) q)
     have HS:=Lib.hid hsucc;clear hsucc hc hql
     generalize hs:nth (nth G k) q=s at *
     have g3:=hown.cell hs2
     have f3:=hown.row.frozen s
     have hos:=(hown.own s hs2).alloc (.cells #[.int .i64 (k:Int)] 3)
     have hol:=hos.length
     have hHO:=Lib.hid (And.intro hown hbl)
     have hpz:=hbl.size
     have hpl:=hown.row.lt
     clear hown hbl hs
     go_wp2_with (first
      | (at_builtin;refine wpList_app _ eiInt eN one_eN rfl _ _ rfl (p + 1) _ _ _ _ rfl hos _ _ _ _ rfl (Sl.one (enc:=eN) _ _ _) (by omega) (by simp;omega) ?_)
      | fail)
     intro A9 c9 w9 ho9 hg9 _ hd9
     have ho10:=hHO.out.1.append hs2 (by simpa using ho9) (grown_trans (World.grownBy_alloc wc (.cells #[.int .i64 (k:Int)] 3) _) hg9) (hd9.imp id fun e=>⟨_,e,by simp⟩)
     have hb10:=((hHO.out.2.alloc (by omega) (.cells #[.int .i64 (k:Int)] 3)).grown hg9 (by simp;omega) (fun b e=>by have:=(hHO.out.1.own s hs2).at_row;rcases this with e2 | ⟨g',e2,e3,_⟩ <;> rw [e2] at e <;> cases e;exact Nat.le_trans (Nat.le_succ p) e3)).setCell (p:=⟨p,s,none⟩) (Nat.le_refl p) (.slice A9 ((nth vt s).2.1 + 1) c9)
     have hr9:RowAt eS w9 p 23 vt []:=(hHO.out.1.row.alloc _).grown hg9 fun e=>by have:=(hHO.out.1.own s hs2).at_row;rcases this with e2 | ⟨g',e2,e3,_⟩ <;> rw [e2] at e <;> cases e;exact absurd e3 (Nat.not_succ_le_self _)
     have c9':=hr9.cell (j:=s) (by rw [hHO.out.1.len];exact hs2)
     have f9:=hr9.frozen s
     have H9:=Lib.hid (And.intro ho10 hb10);clear ho10 hb10 hr9 ho9 hg9 hd9
     go_wp2_with fail
     exact ⟨⟨q + 1,_,by go_num,by omega,by rw [funext HS.out];exact H9.out.1,H9.out.2⟩,by simp [intOf];omega⟩
    ·obtain rfl:q=m:=by omega
     have hfull:Owns eN wc p 23 3 n vt (kidsUp G (k + 1)):=by rw [← funext (kidsTo_full (HL.out.1.len))];exact hown
     have HC:=Lib.hid (And.intro hfull hbl);clear hown hbl hfull
     go_wp2_with fail
     exact ⟨⟨k + 1,vt,by go_num,by omega,HC.out.1,HC.out.2⟩,by simp [intOf];omega⟩
  ·obtain rfl:k=n:=by omega
   have hr:RowsF p eN wb (some ⟨p,0,none⟩) k (kids G):=by
    have:=hown.rowsF hbig (fun q hq=>by
     have:=kidsTo_length G k 0 q
     rw [kidsTo_zero] at this
     omega)
    unfold kids
    rw [HI.out.1]
    exact this
   have HC:=Lib.hid (And.intro hr hbl);clear hown hbl hr
   go_wp2_with fail
   go_ret
   exact ⟨_,_,rfl,by rw [hp];exact HC.out.1,by rw [hp];exact HC.out.2⟩
end Go.Proofs.YtgbmnlmnhbkdbaaGreat
/- Plain law: points put out one by one, each behind its parents: how many parents are still wanting, what is ready. No condition. -/
namespace Go.Proofs.YtgbmnlmnhbkdbaaGreat

def cntOut (G:List (List Nat)) (L:List Nat) (x:Nat):Nat:=((nth G x).filter fun p=>!L.contains p).length
theorem cntOut_zero {G:List (List Nat)} {L:List Nat} {x:Nat}:cntOut G L x=0 ↔ ∀ p,p ∈ nth G x→p ∈ L:=by
 unfold cntOut
 rw [List.length_eq_zero_iff,List.filter_eq_nil_iff]
 simp
theorem cntOut_nil (G:List (List Nat)) (x:Nat):cntOut G [] x=(nth G x).length:=by unfold cntOut;simp
theorem cntOut_le (G:List (List Nat)) (L:List Nat) (x:Nat):cntOut G L x≤(nth G x).length:=List.length_filter_le _ _
theorem filter_snoc:∀ {l:List Nat} (L:List Nat) {p:Nat},l.Nodup→p ∉ L→(l.filter fun y=>!L.contains y).length=(l.filter fun y=>!(L ++ [p]).contains y).length + if p ∈ l then 1 else 0
 | [],L,p,_,_=>by simp
 | y :: l,L,p,hn,hp=>by
   have hn':=List.nodup_cons.1 hn
   have ih:=filter_snoc L hn'.2 hp
   by_cases hy:y=p
   ·subst hy
    rw [if_neg hn'.1] at ih
    rw [List.filter_cons_of_pos (by simpa using hp),List.filter_cons_of_neg (by simp),if_pos (by simp)]
    simp only [List.length_cons];omega
   ·have e:(p ∈ y :: l) ↔ p ∈ l:=by rw [List.mem_cons];exact ⟨fun h=>h.resolve_left fun h=>hy h.symm,.inr⟩
    have e2:(!(L ++ [p]).contains y)=!L.contains y:=by
     congr 1;rw [Bool.eq_iff_iff];simp [hy]
    by_cases hL:(!L.contains y)=true
    ·rw [List.filter_cons_of_pos (p:=fun y=>!L.contains y) hL,List.filter_cons_of_pos (p:=fun y=>!(L ++ [p]).contains y) (by rw [e2];exact hL)]
     simp only [List.length_cons,e];omega
    ·rw [List.filter_cons_of_neg (p:=fun y=>!L.contains y) hL,List.filter_cons_of_neg (p:=fun y=>!(L ++ [p]).contains y) (by rw [e2];exact hL)]
     simp only [e];exact ih
theorem cntOut_snoc {G:List (List Nat)} {L:List Nat} {x p:Nat} (hn:(nth G x).Nodup) (hp:p ∉ L):cntOut G L x=cntOut G (L ++ [p]) x + if p ∈ nth G x then 1 else 0:=filter_snoc L hn hp

structure Ready (G:List (List Nat)) (L H:List Nat) (lf:Nat→Nat):Prop where
 nodup:H.Nodup
 mem:∀ x,x ∈ H ↔ x < G.length∧x ∉ L∧lf x=0
def lfAt (G:List (List Nat)) (L D:List Nat) (q:Nat) (x:Nat):Nat:=cntOut G L x + if x ∈ D.drop q then 1 else 0
theorem lfAt_zero {G:List (List Nat)} {L:List Nat} {p:Nat} (hp:p < G.length) (hn:∀ i,i < G.length→(nth G i).Nodup) (hpl:p ∉ L) {x:Nat} (hx:x < G.length):lfAt G (L ++ [p]) (nth (kids G) p) 0 x=cntOut G L x:=by
 unfold lfAt
 rw [cntOut_snoc (hn x hx) hpl,List.drop_zero]
 congr 1
 have:=mem_kids (G:=G) (p:=p) (c:=x) hp
 by_cases h:p ∈ nth G x
 ·rw [if_pos h,if_pos (this.2 ⟨hx,h⟩)]
 ·rw [if_neg h,if_neg (fun h2=>h (this.1 h2).2)]
theorem lfAt_full {G:List (List Nat)} {L D:List Nat} {q:Nat} (h:D.length≤q) (x:Nat):lfAt G L D q x=cntOut G L x:=by
 unfold lfAt;rw [List.drop_of_length_le h];simp
theorem drop_mem {D:List Nat} {q:Nat} (h:q < D.length) (x:Nat):x ∈ D.drop q ↔ x=nth D q ∨ x ∈ D.drop (q + 1):=by
 rw [List.drop_eq_getElem_cons h,nth_eq h,List.mem_cons]
theorem drop_not {D:List Nat} {q:Nat} (h:q < D.length) (hn:D.Nodup):nth D q ∉ D.drop (q + 1):=by
 have h1:(D.drop q).Nodup:=hn.sublist (List.drop_sublist _ _)
 rw [List.drop_eq_getElem_cons h] at h1
 rw [nth_eq h];exact (List.nodup_cons.1 h1).1
theorem lfAt_self {G:List (List Nat)} {L D:List Nat} {q:Nat} (h:q < D.length) (hn:D.Nodup):lfAt G L D q (nth D q)=lfAt G L D (q + 1) (nth D q) + 1:=by
 unfold lfAt;rw [if_pos ((drop_mem h _).2 (.inl rfl)),if_neg (drop_not h hn)]
theorem lfAt_other {G:List (List Nat)} {L D:List Nat} {q:Nat} (h:q < D.length) {x:Nat} (hx:x ≠ nth D q):lfAt G L D q x=lfAt G L D (q + 1) x:=by
 unfold lfAt
 have:=drop_mem h x
 by_cases h2:x ∈ D.drop (q + 1)
 ·rw [if_pos h2,if_pos (this.2 (.inr h2))]
 ·rw [if_neg h2,if_neg (fun h3=>(this.1 h3).elim hx h2)]
theorem Ready.push {G:List (List Nat)} {L D H H':List Nat} {q:Nat} (h:Ready G L H (lfAt G L D q)) (hq:q < D.length) (hn:D.Nodup) (hlt:nth D q < G.length) (hnot:nth D q ∉ L) (h0:lfAt G L D (q + 1) (nth D q)=0) (hp:H'.Perm (nth D q :: H)) :
 Ready G L H' (lfAt G L D (q + 1)):=by
 have hs:=lfAt_self (G:=G) (L:=L) hq hn
 have hnew:nth D q ∉ H:=fun hm=>by have:=(h.mem _).1 hm;omega
 refine ⟨hp.nodup_iff.2 (List.nodup_cons.2 ⟨hnew,h.nodup⟩),fun x=>?_⟩
 rw [hp.mem_iff,List.mem_cons,h.mem]
 by_cases hx:x=nth D q
 ·subst hx;exact ⟨fun _=>⟨hlt,hnot,h0⟩,fun _=>.inl rfl⟩
 ·rw [lfAt_other hq hx];exact ⟨fun h=>h.resolve_left hx,fun h=>.inr h⟩
theorem Ready.pass {G:List (List Nat)} {L D H:List Nat} {q:Nat} (h:Ready G L H (lfAt G L D q)) (hq:q < D.length) (hn:D.Nodup) (h0:lfAt G L D (q + 1) (nth D q) ≠ 0):Ready G L H (lfAt G L D (q + 1)):=by
 have hs:=lfAt_self (G:=G) (L:=L) hq hn
 refine ⟨h.nodup,fun x=>?_⟩
 rw [h.mem]
 by_cases hx:x=nth D q
 ·subst hx;rw [hs];exact ⟨fun h=>absurd h.2.2 (by omega),fun h=>absurd h.2.2 h0⟩
 ·rw [lfAt_other hq hx]
theorem Ready.pop {G:List (List Nat)} {L H H':List Nat} {p:Nat} (h:Ready G L H (cntOut G L)) (hk:Kahn G L) (hn:∀ i,i < G.length→(nth G i).Nodup) (hp:H.Perm (p :: H')) :
 p < G.length∧p ∉ L∧(∀ q,q ∈ nth G p→q ∈ L)∧Kahn G (L ++ [p])∧Ready G (L ++ [p]) H' (lfAt G (L ++ [p]) (nth (kids G) p) 0)∧∀ c,c ∈ nth (kids G) p→c < G.length∧c ∉ L ++ [p]:=by
 have hm:p ∈ H:=hp.mem_iff.2 (by simp)
 obtain ⟨h1,h2,h3⟩:=(h.mem p).1 hm
 have h4:=cntOut_zero.1 h3
 have hnp:=List.nodup_cons.1 (hp.nodup_iff.1 h.nodup)
 refine ⟨h1,h2,h4,hk.snoc h1 h2 h4,⟨hnp.2,fun x=>?_⟩,fun c hc=>?_⟩
 ·constructor
  ·intro hx
   obtain ⟨g1,g2,g3⟩:=(h.mem x).1 (hp.mem_iff.2 (List.mem_cons_of_mem _ hx))
   refine ⟨g1,?_,by rw [lfAt_zero h1 hn h2 g1];exact g3⟩
   rw [List.mem_append,List.mem_singleton]
   rintro (hx2 | rfl)
   ·exact g2 hx2
   ·exact hnp.1 hx
  ·rintro ⟨g1,g2,g3⟩
   rw [lfAt_zero h1 hn h2 g1] at g3
   rw [List.mem_append,List.mem_singleton] at g2
   have:=hp.mem_iff.1 ((h.mem x).2 ⟨g1,fun hx=>g2 (.inl hx),g3⟩)
   rcases List.mem_cons.1 this with rfl | this
   ·exact absurd (.inr rfl) g2
   ·exact this
 ·obtain ⟨c1,c2⟩:=(mem_kids h1).1 hc
  refine ⟨c1,?_⟩
  rw [List.mem_append,List.mem_singleton]
  rintro (hcl | rfl)
  ·obtain ⟨j,hj,e⟩:=mem_nth hcl
   have:=hk.behind j hj p (by rw [e];exact c2)
   exact h2 (List.mem_of_mem_take this)
  ·exact h2 (h4 c c2)
theorem Ready.start {G:List (List Nat)} {H:List Nat} (hn:H.Nodup) (hm:∀ x,x ∈ H ↔ x < G.length∧(nth G x).length=0):Ready G [] H (cntOut G []):=
 ⟨hn,fun x=>by rw [hm,cntOut_nil];simp⟩
theorem Ready.stuck {G:List (List Nat)} {L:List Nat} (h:Ready G L [] (cntOut G L)) {i:Nat} (hi:i < G.length) (hn:i ∉ L):∃ p,p ∈ nth G i∧p ∉ L:=by
 apply Classical.byContradiction
 intro hex
 have:i ∈ ([]:List Nat):=(h.mem i).2 ⟨hi,hn,cntOut_zero.2 fun p hp=>Classical.byContradiction fun hpl=>hex ⟨p,hp,hpl⟩⟩
 cases this
end Go.Proofs.YtgbmnlmnhbkdbaaGreat
/- Slices whose elements have several cells: read as lists, owned, appended to. Conditions: lengths within Go's bound. -/
namespace Go.Proofs.YtgbmnlmnhbkdbaaGreat
open Go.RowKit

instance stable_below {wc:World}:Stable (fun w=>Below wc.heap.size wc w):=⟨fun hb h=>h.trans (hb.mono h.size)⟩
structure Enc (α:Type) (k:Nat) where
 cells:α→List Value
 len:∀ x,(cells x).length=k
 one:∀ x,∀ u ∈ cells x,u.oneCell'=true
structure EIM (P:Program) (t e:TypeId) (z:Value) (k bytes:Nat):Prop where
 ex:∃ i:TypeInfo,P.underlying t=some (.slice e)∧P.info? e=some i∧i.zero=some z∧i.size=k∧i.bytes=bytes
 zs:z.cells.size=k
 pos:1≤bytes
 kpos:0 < k
theorem EIM.mk' {P:Program} {t e:TypeId} {z:Value} {k bytes:Nat} (h1:P.underlying t=some (.slice e)) (h2:(P.info? e).map (fun i=>(i.zero,i.size,i.bytes))=some (some z,k,bytes)) (h3:z.cells.size=k) (h4:1≤bytes) (h5:0 < k):EIM P t e z k bytes:=by
 obtain ⟨i0,hi,hz0,hz1,hz2⟩:=info_parts h2
 exact ⟨⟨i0,h1,hi,hz0,hz1,hz2⟩,h3,h4,h5⟩
structure SlM {α:Type} [Inhabited α] {k:Nat} (E:Enc α k) (w:World) (A:Option Addr) (n:Nat) (xs:List α):Prop where
 len:xs.length=n
 big:n≤140737488351232
 at':0 < n→∃ b off,A=some ⟨b,off,none⟩∧b < w.heap.size∧∀ j i,j < n→i < k→w.cell? ⟨b,off + j * k + i,none⟩=(E.cells (nth xs j))[i]?
section
variable {α:Type} [Inhabited α] {k:Nat} {E:Enc α k} {w w':World} {A:Option Addr} {n:Nat} {xs:List α}
theorem SlM.below (h:SlM E w A n xs) {B:Nat} (hB:w.heap.size≤B) (hb:Below B w w'):SlM E w' A n xs:=
 ⟨h.len,h.big,fun hn=>by
   obtain ⟨b,off,e,hlt,hc⟩:=h.at' hn
   exact ⟨b,off,e,Nat.lt_of_lt_of_le hlt hb.size,fun j i hj hi=>bc hb (hc j i hj hi) (Nat.lt_of_lt_of_le hlt hB)⟩⟩
instance:Stable (fun w=>SlM E w A n xs):=⟨fun hb h=>h.below (Nat.le_refl _) hb⟩
end
def OwnM {α:Type} {k:Nat} (E:Enc α k) (w:World) (base:Nat) (e:TypeId) (A:Option Addr) (n c:Nat) (xs:List α):Prop:=w.ownsRow base e k (.slice A n c) n (xs.flatMap E.cells)
theorem flat_length {α:Type} {k:Nat} (E:Enc α k):∀ xs:List α,(xs.flatMap E.cells).length=xs.length * k
 | []=>by simp
 | x :: xs=>by rw [List.flatMap_cons,List.length_append,E.len,flat_length E xs,List.length_cons,Nat.add_mul,Nat.one_mul,Nat.add_comm]
theorem flat_nth {α:Type} [Inhabited α] {k:Nat} (E:Enc α k):∀ (xs:List α) (j i:Nat),j < xs.length→i < k→(xs.flatMap E.cells)[j * k + i]?=(E.cells (nth xs j))[i]?
 | [],j,_,h,_=>absurd h (by simp)
 | x :: xs,0,i,_,hi=>by
   rw [List.flatMap_cons,Nat.zero_mul,Nat.zero_add,List.getElem?_append_left (by rw [E.len];exact hi)]
   rfl
 | x :: xs,j + 1,i,h,hi=>by
   rw [List.flatMap_cons,Nat.add_mul,Nat.one_mul,List.getElem?_append_right (by rw [E.len];omega),E.len,show j * k + k + i - k=j * k + i by omega,flat_nth E xs j i (by simpa using h) hi]
   rfl
section
variable {α:Type} {k:Nat} {E:Enc α k} {w w':World} {base:Nat} {e:TypeId} {A:Option Addr} {n c:Nat} {xs:List α}
theorem OwnM.length (hk:0 < k) (h:OwnM E w base e A n c xs):xs.length=n:=by
 have h1:=h.1
 rw [flat_length] at h1
 exact Nat.eq_of_mul_eq_mul_right hk h1
theorem OwnM.mono (h:OwnM E w base e A n c xs) {base':Nat} (hb:base'≤base):OwnM E w base' e A n c xs:=by
 refine ⟨h.1,?_⟩
 rcases h.2 with h2 | ⟨g,cap,cur,h1,hg,r⟩
 ·exact .inl h2
 ·exact .inr ⟨g,cap,cur,h1,Nat.le_trans hb hg,r⟩
theorem OwnM.below (h:OwnM E w base e A n c xs) {B:Nat} (hB:w.heap.size≤B) (hb:Below B w w'):OwnM E w' base e A n c xs:=by
 refine ⟨h.1,?_⟩
 rcases h.2 with h2 | ⟨g,cap,cur,h1,hg,hh,r⟩
 ·exact .inl h2
 ·exact .inr ⟨g,cap,cur,h1,hg,(hb.block g (Nat.lt_of_lt_of_le (Array.getElem?_eq_some_iff.1 hh).1 hB)).trans hh,r⟩
theorem OwnM.alloc (h:OwnM E w base e A n c xs) (o:Obj):OwnM E (w.alloc o) base e A n c xs:=World.ownsRow.alloc h o
instance:Stable (fun w=>OwnM E w base e A n c xs):=⟨fun hb h=>h.below (Nat.le_refl _) hb⟩
theorem OwnM.sl [Inhabited α] (hk:0 < k) (h:OwnM E w base e A n c xs) (hbig:n≤140737488351232):SlM E w A n xs:=by
 have hl:=h.length hk
 refine ⟨hl,hbig,fun hn=>?_⟩
 rcases h.2 with ⟨_,h2⟩ | ⟨g,cap,cur,h1,hb,hg,_,_,hs,ht⟩
 ·omega
 ·have e1:A=some ⟨g,0,none⟩:=by injection h1
  refine ⟨g,0,e1,(Array.getElem?_eq_some_iff.1 hg).1,fun j i hj hi=>?_⟩
  rw [cell_of_row w g _ _ e (0,0) hg,Nat.zero_add]
  have h3:j * k + i < n * k:=by
   have:(j + 1) * k≤n * k:=Nat.mul_le_mul_right _ hj
   rw [Nat.add_mul,Nat.one_mul] at this
   omega
  have h4:(cur.toList.take (n * k))[j * k + i]?=cur.toList[j * k + i]?:=by rw [List.getElem?_take,if_pos h3]
  rw [ht,flat_nth E xs j i (by omega) hi] at h4
  rw [h4]
  simp
end
section
variable {P:Program} (w:World)
end
end Go.Proofs.YtgbmnlmnhbkdbaaGreat
