/- Joined by program out of: Graph, SumMath. What each says stands at its own head. -/
import Derived.Test.YtgbmnlmnhbkdbaaGreatBase
set_option linter.unusedVariables false
set_option linter.unusedSimpArgs false
/- Plain law: graphs of parents: orders in which each point stands behind its parents; what is above. No condition. -/
namespace Go.Proofs.YtgbmnlmnhbkdbaaGreat

section
variable {α:Type} [Inhabited α] (p:α→Bool)
theorem all_take_succ {xs:List α} {k:Nat} (h:k < xs.length):(xs.take (k + 1)).all p=((xs.take k).all p && p (nth xs k)):=by
 rw [take_snoc h,List.all_append];simp
theorem any_take_succ {xs:List α} {k:Nat} (h:k < xs.length):(xs.take (k + 1)).any p=((xs.take k).any p || p (nth xs k)):=by
 rw [take_snoc h,List.any_append];simp
theorem all_down {xs:List α} {k:Nat} (h:k < xs.length) (hp:p (nth xs k)=false):xs.all p=false:=by
 rw [← Bool.not_eq_true];intro h1
 have:=List.all_eq_true.1 h1 _ (nth_mem h)
 rw [hp] at this;cases this
theorem any_upp {xs:List α} {k:Nat} (h:k < xs.length) (hp:p (nth xs k)=true):xs.any p=true:=List.any_eq_true.2 ⟨_,nth_mem h,hp⟩
omit [Inhabited α] in
theorem take_all {xs:List α} {k:Nat} (h:xs.length≤k):xs.take k=xs:=List.take_of_length_le h
theorem all_nth {xs:List α} (h:xs.all p=true) {k:Nat} (hk:k < xs.length):p (nth xs k)=true:=List.all_eq_true.1 h _ (nth_mem hk)
end

def inRow (n:Nat) (l:List Int):Bool:=l.all fun p=>decide (0≤p) && decide (p < (n:Int))
def inR (Ps:List (List Int)):Bool:=Ps.all (inRow Ps.length)
def dupAt {α:Type} [Inhabited α] [BEq α] (l:List α) (k:Nat):Bool:=(l.take k).contains (nth l k)
def dupTo {α:Type} [Inhabited α] [BEq α] (l:List α) (k:Nat):Bool:=(List.range k).any (dupAt l)
def dup {α:Type} [Inhabited α] [BEq α] (l:List α):Bool:=dupTo l l.length
theorem dupTo_succ {α:Type} [Inhabited α] [BEq α] (l:List α) (k:Nat):dupTo l (k + 1)=(dupTo l k || dupAt l k):=by
 unfold dupTo;rw [List.range_succ,List.any_append];simp
theorem dup_up {α:Type} [Inhabited α] [BEq α] {l:List α} {k:Nat} (h:k < l.length) (hd:dupAt l k=true):dup l=true:=
 List.any_eq_true.2 ⟨k,List.mem_range.2 h,hd⟩
theorem dup_nodup {α:Type} [Inhabited α] [BEq α] [LawfulBEq α] {l:List α} (h:dup l=false):l.Nodup:=by
 rw [List.nodup_iff_pairwise_ne,List.pairwise_iff_getElem]
 intro i j hi hj hij e
 have h1:dupAt l j=true:=by
  unfold dupAt
  rw [List.contains_iff_mem,nth_eq hj,← e]
  rw [List.mem_take_iff_getElem]
  exact ⟨i,by omega,rfl⟩
 rw [dup_up hj h1] at h
 cases h
theorem nodup_dup {α:Type} [Inhabited α] [BEq α] [LawfulBEq α] {l:List α} (h:l.Nodup):dup l=false:=by
 rw [← Bool.not_eq_true]
 intro h1
 obtain ⟨k,hk,hd⟩:=List.any_eq_true.1 h1
 rw [List.mem_range] at hk
 unfold dupAt at hd
 rw [List.contains_iff_mem,List.mem_take_iff_getElem] at hd
 obtain ⟨i,hi,e⟩:=hd
 rw [nth_eq hk] at e
 have:=(List.getElem_inj h (h₀:=by omega) (h₁:=hk)).1 e
 omega

def toG (Ps:List (List Int)):List (List Nat):=Ps.map fun l=>l.map Int.toNat
theorem toG_length (Ps:List (List Int)):(toG Ps).length=Ps.length:=by simp [toG]
theorem nth_toG {Ps:List (List Int)} {i:Nat} (h:i < Ps.length):nth (toG Ps) i=(nth Ps i).map Int.toNat:=by unfold toG;rw [nth_map _ h]
def GoodG (G:List (List Nat)):Prop:=∀ i,i < G.length→∀ p,p ∈ nth G i→p < G.length
theorem inRow_iff {n:Nat} {l:List Int}:inRow n l=true ↔ ∀ p ∈ l,0≤p∧p < (n:Int):=by
 unfold inRow;rw [List.all_eq_true];simp
theorem inR_row {Ps:List (List Int)} (h:inR Ps=true) {i:Nat} (hi:i < Ps.length):∀ p ∈ nth Ps i,0≤p∧p < (Ps.length:Int):=inRow_iff.1 (all_nth _ h hi)
theorem good_toG {Ps:List (List Int)} (h:inR Ps=true):GoodG (toG Ps):=by
 intro i hi p hp
 rw [toG_length] at hi ⊢
 rw [nth_toG hi] at hp
 obtain ⟨q,hq,rfl⟩:=List.mem_map.1 hp
 have:=inR_row h hi q hq
 omega

def Acyc (G:List (List Nat)):Prop:=∃ r:Nat→Nat,∀ i,i < G.length→∀ p,p ∈ nth G i→r p < r i
structure Kahn (G:List (List Nat)) (L:List Nat):Prop where
 nodup:L.Nodup
 lt:∀ x,x ∈ L→x < G.length
 behind:∀ k,k < L.length→∀ p,p ∈ nth G (nth L k)→p ∈ L.take k
theorem Kahn.nil (G:List (List Nat)):Kahn G []:=⟨List.nodup_nil,by simp,by simp⟩
theorem Kahn.snoc {G:List (List Nat)} {L:List Nat} (h:Kahn G L) {x:Nat} (hx:x < G.length) (hn:x ∉ L) (hp:∀ p,p ∈ nth G x→p ∈ L):Kahn G (L ++ [x]):=by
 refine ⟨?_,?_,?_⟩
 ·rw [List.nodup_append]
  exact ⟨h.nodup,by simp,fun a ha b hb e=>hn (by simp at hb;subst hb;subst e;exact ha)⟩
 ·intro y hy
  rw [List.mem_append,List.mem_singleton] at hy
  rcases hy with hy | rfl
  ·exact h.lt y hy
  ·exact hx
 ·intro k hk p hpk
  rw [List.length_append,List.length_singleton] at hk
  rcases Nat.lt_or_ge k L.length with h1 | h1
  ·rw [nth_append_left h1] at hpk
   rw [List.take_append_of_le_length (by omega)]
   exact h.behind k h1 p hpk
  ·obtain rfl:k=L.length:=by omega
   rw [nth_append_right (Nat.le_refl _),Nat.sub_self] at hpk
   rw [List.take_left']
   ·exact hp p hpk
   ·rfl
theorem nodup_lt_length {L:List Nat} {n:Nat} (h:L.Nodup) (hl:∀ x,x ∈ L→x < n):L.length≤n:=by
 have:L ⊆ List.range n:=fun x hx=>List.mem_range.2 (hl x hx)
 have:=h.length_le_of_subset this
 simpa using this
theorem wanting {L:List Nat} {n:Nat} (hl:L.length < n):∃ i,i < n∧i ∉ L:=by
 apply Classical.byContradiction
 intro h
 have hsub:List.range n ⊆ L:=fun x hx=>by
  rw [List.mem_range] at hx
  apply Classical.byContradiction
  intro hn
  exact h ⟨x,hx,hn⟩
 have:=(List.nodup_range (n:=n)).length_le_of_subset hsub
 simp at this
 omega
theorem full {L:List Nat} {n:Nat} (h:L.Nodup) (hl:∀ x,x ∈ L→x < n) (hn:L.length=n) {i:Nat} (hi:i < n):i ∈ L:=by
 apply Classical.byContradiction
 intro hi'
 have h2:(i :: L).Nodup:=List.nodup_cons.2 ⟨hi',h⟩
 have:=nodup_lt_length h2 (n:=n) (by intro x hx;rcases List.mem_cons.1 hx with rfl | hx;exact hi;exact hl x hx)
 simp at this
 omega
theorem Kahn.length_le {G:List (List Nat)} {L:List Nat} (h:Kahn G L):L.length≤G.length:=nodup_lt_length h.nodup h.lt
theorem Kahn.acyc {G:List (List Nat)} {L:List Nat} (h:Kahn G L) (hn:L.length=G.length):Acyc G:=by
 refine ⟨fun x=>L.idxOf x,fun i hi p hp=>?_⟩
 have hiL:=full h.nodup h.lt hn hi
 have hk:L.idxOf i < L.length:=List.idxOf_lt_length_of_mem hiL
 have h1:=h.behind (L.idxOf i) hk p (by rw [nth_eq hk,List.getElem_idxOf];exact hp)
 obtain ⟨j,hj,e⟩:=List.mem_take_iff_getElem.1 h1
 have h2:L.idxOf p≤j:=by
  rw [← e]
  exact Nat.le_of_eq (h.nodup.idxOf_getElem _ _)
 show L.idxOf p < L.idxOf i
 omega
theorem least_bad {P:Nat→Prop} (r:Nat→Nat):∀ (n i:Nat),r i≤n→P i→∃ j,P j∧∀ k,P k→r j≤r k
 | 0,i,h,hp=>⟨i,hp,fun k _=>by omega⟩
 | n + 1,i,h,hp=>by
   by_cases hex:∃ k,P k∧r k≤n
   ·obtain ⟨k,hk,hr⟩:=hex
    exact least_bad r n k hr hk
   ·refine ⟨i,hp,fun k hk=>?_⟩
    have:¬ r k≤n:=fun h1=>hex ⟨k,hk,h1⟩
    omega
theorem Kahn.full_iff {G:List (List Nat)} {L:List Nat} (h:Kahn G L) (hg:GoodG G) (hs:∀ i,i < G.length→i ∉ L→∃ p,p ∈ nth G i∧p ∉ L):L.length=G.length ↔ Acyc G:=by
 refine ⟨h.acyc,fun ⟨r,hr⟩=>?_⟩
 apply Classical.byContradiction
 intro hne
 have hlt:L.length < G.length:=by have:=h.length_le;omega
 obtain ⟨i,hi,hn⟩:=wanting hlt
 obtain ⟨j,⟨hj1,hj2⟩,hmin⟩:=least_bad (P:=fun i=>i < G.length∧i ∉ L) r (r i) i (Nat.le_refl _) ⟨hi,hn⟩
 obtain ⟨p,hp1,hp2⟩:=hs j hj1 hj2
 have:=hmin p ⟨hg j hj1 p hp1,hp2⟩
 have:=hr j hj1 p hp1
 omega

open Classical in
noncomputable def checkP (Ps:List (List Int)):Int:=if inR Ps=false then 3 else if Ps.any dup=true then 40 else if Acyc (toG Ps) then 0 else 42
theorem checkP_3 {Ps:List (List Int)} (h:inR Ps=false):checkP Ps=3:=by unfold checkP;rw [if_pos h]
theorem checkP_40 {Ps:List (List Int)} (h:inR Ps=true) (h2:Ps.any dup=true):checkP Ps=40:=by unfold checkP;rw [if_neg (by rw [h];simp),if_pos h2]
theorem checkP_0 {Ps:List (List Int)} (h:inR Ps=true) (h2:Ps.any dup=false) (h3:Acyc (toG Ps)):checkP Ps=0:=by unfold checkP;rw [if_neg (by rw [h];simp),if_neg (by rw [h2];simp),if_pos h3]
theorem checkP_42 {Ps:List (List Int)} (h:inR Ps=true) (h2:Ps.any dup=false) (h3:¬ Acyc (toG Ps)):checkP Ps=42:=by unfold checkP;rw [if_neg (by rw [h];simp),if_neg (by rw [h2];simp),if_neg h3]
theorem checkP_ok {Ps:List (List Int)} (h:checkP Ps=0):inR Ps=true∧Ps.any dup=false∧Acyc (toG Ps):=by
 unfold checkP at h
 split at h
 ·omega
 ·split at h
  ·omega
  ·split at h
   ·exact ⟨by simpa using ‹¬ inR Ps=false›,by simpa using ‹¬ Ps.any dup=true›,‹_›⟩
   ·omega
theorem checkP_le (Ps:List (List Int)):0≤checkP Ps∧checkP Ps≤42:=by
 unfold checkP
 repeat' split
 all_goals omega
end Go.Proofs.YtgbmnlmnhbkdbaaGreat
/- Plain law: sums over all settings of some bits: a bit that is summed out, sums that fall in two parts; products of some of many factors. No condition. -/
namespace Go.Proofs.YtgbmnlmnhbkdbaaGreat

abbrev Asg:=Nat→Bool
def upd (a:Asg) (n:Nat) (b:Bool):Asg:=fun j=>if j=n then b else a j
theorem upd_same (a:Asg) (n:Nat) (b:Bool):upd a n b n=b:=if_pos rfl
theorem upd_other (a:Asg) {n j:Nat} (b:Bool) (h:j ≠ n):upd a n b j=a j:=if_neg h
theorem upd_comm (a:Asg) {n m:Nat} (b c:Bool) (h:n ≠ m):upd (upd a n b) m c=upd (upd a m c) n b:=by
 funext j;unfold upd;split <;> split <;> simp_all
def S:Nat→(Asg→Rat)→Asg→Rat
 | 0,g,a=>g a
 | n + 1,g,a=>S n (fun x=>g (upd x n false) + g (upd x n true)) a
theorem S_congr:∀ {n:Nat} {g h:Asg→Rat} {a:Asg},(∀ x,g x=h x)→S n g a=S n h a:=fun {n g h a} e=>by rw [show g=h from funext e]
theorem S_add:∀ (n:Nat) (g h:Asg→Rat) (a:Asg),S n (fun x=>g x + h x) a=S n g a + S n h a
 | 0,_,_,_=>rfl
 | n + 1,g,h,a=>by
   unfold S
   rw [← S_add n]
   exact S_congr fun x=>by grind
theorem S_two (n:Nat) (g:Asg→Rat) (a:Asg):S n (fun x=>g x + g x) a=2 * S n g a:=by rw [S_add];grind
theorem S_pair:∀ {n v:Nat} {g h:Asg→Rat} {a:Asg},v < n→(∀ x,g (upd x v false) + g (upd x v true)=h (upd x v false) + h (upd x v true))→S n g a=S n h a
 | 0,v,g,h,a,hv,_=>absurd hv (by omega)
 | n + 1,v,g,h,a,hv,e=>by
   unfold S
   by_cases hn:v=n
   ·subst hn;exact S_congr e
   ·refine S_pair (v:=v) (by omega) fun x=>?_
    have e0:=e (upd x n false)
    have e1:=e (upd x n true)
    have hnv:n ≠ v:=fun q=>hn q.symm
    rw [upd_comm _ _ _ hnv,upd_comm _ _ _ hnv] at e0 e1
    grind
def Free (j:Nat) (F:Asg→Rat):Prop:=∀ x b,F (upd x j b)=F x
theorem Free.put {j n:Nat} {F:Asg→Rat} (h:Free j F) (c:Bool) (hn:j ≠ n):Free j (fun x=>F (upd x n c)):=fun x b=>by
 show F (upd (upd x j b) n c)=_
 rw [upd_comm _ _ _ hn];exact h _ _
theorem Free.add {j:Nat} {F H:Asg→Rat} (h:Free j F) (k:Free j H):Free j (fun x=>F x + H x):=fun x b=>by
 show F _ + H _=_;rw [h,k]
theorem S_parts:∀ (n:Nat) (F H I:Asg→Rat) (a:Asg),(∀ j,j < n→(Free j H∧Free j I) ∨ (Free j F∧Free j I) ∨ ∃ z,∀ x,F (upd x j z)=0∧I (upd x j z)=0) →
 S n (fun x=>F x * H x) a * S n I a=S n F a * S n (fun x=>I x * H x) a
 | 0,F,H,I,a,_=>by show F a * H a * I a=F a * (I a * H a);grind
 | n + 1,F,H,I,a,hj=>by
   unfold S
   rcases hj n (by omega) with ⟨h1,h2⟩ | ⟨h1,h2⟩ | ⟨z,h1⟩
   ·have e1:∀ x,F (upd x n false) * H (upd x n false) + F (upd x n true) * H (upd x n true)=(F (upd x n false) + F (upd x n true)) * H x:=fun x=>by rw [h1,h1];grind
    have e2:∀ x,I (upd x n false) + I (upd x n true)=I x + I x:=fun x=>by rw [h2,h2]
    have e3:∀ x,I (upd x n false) * H (upd x n false) + I (upd x n true) * H (upd x n true)=I x * H x + I x * H x:=fun x=>by rw [h1,h1,h2,h2]
    rw [S_congr e1,S_congr e2,S_congr e3,S_two,S_two]
    have:=S_parts n (fun x=>F (upd x n false) + F (upd x n true)) H I a (fun j hjn=>by
     rcases hj j (by omega) with g | ⟨g1,g2⟩ | ⟨z,g⟩
     ·exact .inl g
     ·exact .inr (.inl ⟨(g1.put _ (by omega)).add (g1.put _ (by omega)),g2⟩)
     ·refine .inr (.inr ⟨z,fun x=>⟨?_,(g x).2⟩⟩)
      have hjne:j ≠ n:=by omega
      show F (upd (upd x j z) n false) + F (upd (upd x j z) n true)=0
      rw [upd_comm x z false hjne,upd_comm x z true hjne,(g _).1,(g _).1];grind)
    grind
   ·have e1:∀ x,F (upd x n false) * H (upd x n false) + F (upd x n true) * H (upd x n true)=F x * (H (upd x n false) + H (upd x n true)):=fun x=>by rw [h1,h1];grind
    have e2:∀ x,I (upd x n false) + I (upd x n true)=I x + I x:=fun x=>by rw [h2,h2]
    have e3:∀ x,I (upd x n false) * H (upd x n false) + I (upd x n true) * H (upd x n true)=I x * (H (upd x n false) + H (upd x n true)):=fun x=>by rw [h2,h2];grind
    have e4:∀ x,F (upd x n false) + F (upd x n true)=F x + F x:=fun x=>by rw [h1,h1]
    rw [S_congr e1,S_congr e2,S_congr e3,S_congr e4,S_two,S_two]
    have:=S_parts n F (fun x=>H (upd x n false) + H (upd x n true)) I a (fun j hjn=>by
     rcases hj j (by omega) with ⟨g1,g2⟩ | g | g
     ·exact .inl ⟨(g1.put _ (by omega)).add (g1.put _ (by omega)),g2⟩
     ·exact .inr (.inl g)
     ·exact .inr (.inr g))
    grind
   ·have key:∀ (y:Bool),z=!y→(∀ x,F (upd x n false) * H (upd x n false) + F (upd x n true) * H (upd x n true)=F (upd x n y) * H (upd x n y))∧(∀ x,I (upd x n false) + I (upd x n true)=I (upd x n y)) ∧
     (∀ x,I (upd x n false) * H (upd x n false) + I (upd x n true) * H (upd x n true)=I (upd x n y) * H (upd x n y))∧∀ x,F (upd x n false) + F (upd x n true)=F (upd x n y):=by
     intro y e
     subst e
     refine ⟨fun x=>?_,fun x=>?_,fun x=>?_,fun x=>?_⟩ <;> have h:=h1 x <;> cases y <;> simp only [Bool.not_true,Bool.not_false] at h <;> rw [h.1] at * <;> rw [h.2] at * <;> grind
    obtain ⟨e1,e2,e3,e4⟩:=key (!z) (by simp)
    rw [S_congr e1,S_congr e2,S_congr e3,S_congr e4]
    refine S_parts n (fun x=>F (upd x n !z)) (fun x=>H (upd x n !z)) (fun x=>I (upd x n !z)) a (fun j hjn=>?_)
    rcases hj j (by omega) with ⟨g1,g2⟩ | ⟨g1,g2⟩ | ⟨z2,g⟩
    ·exact .inl ⟨g1.put _ (by omega),g2.put _ (by omega)⟩
    ·exact .inr (.inl ⟨g1.put _ (by omega),g2.put _ (by omega)⟩)
    ·refine .inr (.inr ⟨z2,fun x=>?_⟩)
     show F (upd (upd x j z2) n _)=0∧I (upd (upd x j z2) n _)=0
     rw [upd_comm _ _ _ (by omega)];exact g _

def sumTo:Nat→(Nat→Rat)→Rat
 | 0,_=>0
 | n + 1,g=>sumTo n g + g n
theorem sumTo_congr:∀ {n:Nat} {g h:Nat→Rat},(∀ k,k < n→g k=h k)→sumTo n g=sumTo n h
 | 0,_,_,_=>rfl
 | n + 1,g,h,e=>by unfold sumTo;rw [sumTo_congr fun k hk=>e k (by omega),e n (by omega)]
theorem sumTo_add:∀ (n:Nat) (g h:Nat→Rat),sumTo n (fun k=>g k + h k)=sumTo n g + sumTo n h
 | 0,_,_=>by show (0:Rat)=0 + 0;grind
 | n + 1,g,h=>by unfold sumTo;rw [sumTo_add n];grind
theorem sumTo_split:∀ (m n:Nat) (g:Nat→Rat),sumTo (n + m) g=sumTo n g + sumTo m (fun k=>g (n + k))
 | 0,n,g=>by show sumTo n g=sumTo n g + 0;grind
 | m + 1,n,g=>by
   show sumTo (n + m) g + g (n + m)=sumTo n g + (sumTo m (fun k=>g (n + k)) + g (n + m))
   rw [sumTo_split m n g];grind
def bitsA (k:Nat):Asg:=fun j=>k.testBit j
theorem bits_low {k n:Nat} (h:k < 2 ^ n):bitsA k=upd (bitsA k) n false:=by
 funext j;unfold bitsA upd
 split
 ·rename_i e;subst e;exact Nat.testBit_lt_two_pow h
 ·rfl
theorem bits_high {k n:Nat} (h:k < 2 ^ n):bitsA (2 ^ n + k)=upd (bitsA k) n true:=by
 funext j;unfold bitsA upd
 split
 ·rename_i e;subst e;rw [Nat.testBit_two_pow_add_eq,Nat.testBit_lt_two_pow h];rfl
 ·rename_i e
  show (2 ^ n + k).testBit j=k.testBit j
  rcases Nat.lt_or_gt_of_ne e with h1 | h1
  ·rw [Nat.testBit_two_pow_add_gt h1]
  ·rw [Nat.testBit_lt_two_pow (x:=2 ^ n + k) (Nat.lt_of_lt_of_le (by rw [Nat.pow_succ];omega) (Nat.pow_le_pow_right (by omega) (show n + 1≤j by omega))),show k.testBit j=false from Nat.testBit_lt_two_pow (Nat.lt_trans h (Nat.pow_lt_pow_right (by omega) h1))]
theorem sumTo_S:∀ (n:Nat) (g:Asg→Rat),sumTo (2 ^ n) (fun k=>g (bitsA k))=S n g (fun _=>false)
 | 0,g=>by
   show 0 + g (bitsA 0)=g _
   rw [show bitsA 0=fun _=>false from funext fun j=>by simp [bitsA]];grind
 | n + 1,g=>by
   rw [show 2 ^ (n + 1)=2 ^ n + 2 ^ n by rw [Nat.pow_succ];omega,sumTo_split,← sumTo_add]
   unfold S
   rw [← sumTo_S n]
   exact sumTo_congr fun k hk=>by rw [bits_high hk,← bits_low hk]

def prodP (f:Nat→Asg→Rat) (p:Nat→Bool) (x:Asg):Nat→Rat
 | 0=>1
 | n + 1=>prodP f p x n * if p n then f n x else 1
theorem prodP_list (f:Nat→Asg→Rat) (p:Nat→Bool) (x:Asg):∀ n,((List.range n).filter p).foldl (fun q v=>q * f v x) 1=prodP f p x n
 | 0=>rfl
 | n + 1=>by
   rw [List.range_succ,List.filter_append,List.foldl_append,prodP_list f p x n]
   show _=prodP f p x n * if p n then f n x else 1
   cases h:p n
   ·simp [h]
   ·simp [h]
theorem prodP_all {f:Nat→Asg→Rat} {p q:Nat→Bool} {x:Asg}:∀ {n:Nat},(∀ v,v < n→p v=q v)→prodP f p x n=prodP f q x n
 | 0,_=>rfl
 | n + 1,h=>by unfold prodP;rw [prodP_all fun v hv=>h v (by omega),h n (by omega)]
theorem prodP_more {f:Nat→Asg→Rat} {p:Nat→Bool} {x:Asg} {v:Nat} (h:p v=false):∀ {n:Nat},v < n→prodP f (fun u=>p u || u == v) x n=prodP f p x n * f v x
 | 0,hv=>absurd hv (by omega)
 | n + 1,hv=>by
   unfold prodP
   by_cases e:v=n
   ·subst e
    rw [prodP_all (q:=p) fun u hu=>by rw [show (u == v)=false by simp;omega,Bool.or_false]]
    rw [h];simp
   ·rw [prodP_more h (n:=n) (by omega),show (n == v)=false by simp;omega,Bool.or_false]
    grind
theorem prodP_mul {f:Nat→Asg→Rat} {p q:Nat→Bool} {x:Asg}:∀ {n:Nat},(∀ v,v < n→¬ (p v=true∧q v=true))→prodP f (fun v=>p v || q v) x n=prodP f p x n * prodP f q x n
 | 0,_=>by unfold prodP;grind
 | n + 1,h=>by
   unfold prodP
   rw [prodP_mul fun v hv=>h v (by omega)]
   have:=h n (by omega)
   cases e1:p n <;> cases e2:q n <;> simp_all <;> grind
theorem prodP_free {f:Nat→Asg→Rat} {p:Nat→Bool} {j:Nat}:∀ {n:Nat},(∀ v,v < n→p v=true→Free j (f v))→Free j (fun x=>prodP f p x n)
 | 0,_=>fun _ _=>rfl
 | n + 1,h=>fun x b=>by
   show prodP f p _ (n + 1)=prodP f p x (n + 1)
   unfold prodP
   rw [show prodP f p (upd x j b) n=prodP f p x n from prodP_free (fun v hv=>h v (by omega)) x b]
   cases e:p n
   ·rfl
   ·simp only [if_true];rw [h n (by omega) e]
end Go.Proofs.YtgbmnlmnhbkdbaaGreat
