/- Joined by program out of: Up, Lists, Ball, Keys. What each says stands at its own head. -/
import Derived.Test.YtgbmnlmnhbkdbaaGreatJ3
import Derived.Test.YtgbmnlmnhbkdbaaGreatJ1
import Derived.Test.YtgbmnlmnhbkdbaaGreatJ2
import Derived.DeepKeys4
import Derived.DeepKeys2
set_option linter.unusedVariables false
set_option linter.unusedSimpArgs false
/- Plain law: what is come to from some points along the ways; rising lists of points. No condition. -/
namespace Go.Proofs.YtgbmnlmnhbkdbaaGreat

inductive Up (W:List (List Nat)) (S:Nat→Prop):Nat→Prop
 | base {x:Nat}:S x→Up W S x
 | step {x p:Nat}:Up W S x→p ∈ nth W x→Up W S p
theorem Up.mono {W:List (List Nat)} {S T:Nat→Prop} (h:∀ x,S x→T x) {x:Nat} (hx:Up W S x):Up W T x:=by
 induction hx with
 | base hs=>exact .base (h _ hs)
 | step _ hp ih=>exact .step ih hp
theorem Up.trans {W:List (List Nat)} {S T:Nat→Prop} (h:∀ x,S x→Up W T x) {x:Nat} (hx:Up W S x):Up W T x:=by
 induction hx with
 | base hs=>exact h _ hs
 | step _ hp ih=>exact .step ih hp
theorem Up.lt {W:List (List Nat)} {S:Nat→Prop} (hg:GoodG W) (hs:∀ x,S x→x < W.length) {x:Nat} (hx:Up W S x):x < W.length:=by
 induction hx with
 | base h=>exact hs _ h
 | step _ hp ih=>exact hg _ ih _ hp
theorem up_iff {W:List (List Nat)} {S:Nat→Prop} {L:List Nat} (h1:∀ x,S x→x ∈ L) (h2:∀ x,x ∈ L→∀ p,p ∈ nth W x→p ∈ L) (h3:∀ x,x ∈ L→Up W S x) (x:Nat):x ∈ L ↔ Up W S x:=by
 refine ⟨h3 x,fun h=>?_⟩
 induction h with
 | base hs=>exact h1 _ hs
 | step _ hp ih=>exact h2 _ ih _ hp

abbrev Rising (l:List Nat):Prop:=l.Pairwise (· < ·)
theorem rising_ext:∀ {a b:List Nat},Rising a→Rising b→(∀ x,x ∈ a ↔ x ∈ b)→a=b
 | [],[],_,_,_=>rfl
 | [],y :: b,_,_,h=>by have:=(h y).2 (by simp);simp at this
 | x :: a,[],_,_,h=>by have:=(h x).1 (by simp);simp at this
 | x :: a,y :: b,ha,hb,h=>by
   have ha':=List.pairwise_cons.1 ha
   have hb':=List.pairwise_cons.1 hb
   have hxy:x=y:=by
    rcases List.mem_cons.1 ((h x).1 (by simp)) with e | e
    ·exact e
    ·rcases List.mem_cons.1 ((h y).2 (by simp)) with e2 | e2
     ·exact e2.symm
     ·have h1:=hb'.1 x e
      have h2:=ha'.1 y e2
      omega
   subst hxy
   congr 1
   refine rising_ext ha'.2 hb'.2 fun z=>⟨fun hz=>?_,fun hz=>?_⟩
   ·rcases List.mem_cons.1 ((h z).1 (List.mem_cons_of_mem _ hz)) with e | e
    ·subst e;have:=ha'.1 z hz;omega
    ·exact e
   ·rcases List.mem_cons.1 ((h z).2 (List.mem_cons_of_mem _ hz)) with e | e
    ·subst e;have:=hb'.1 z hz;omega
    ·exact e
theorem rising_filter (n:Nat) (p:Nat→Bool):Rising ((List.range n).filter p):=(List.pairwise_lt_range).sublist List.filter_sublist

open Classical in
noncomputable def ptsOf (n:Nat) (P:Nat→Prop):List Nat:=(List.range n).filter fun x=>decide (P x)
theorem mem_ptsOf {n:Nat} {P:Nat→Prop} {x:Nat}:x ∈ ptsOf n P ↔ x < n∧P x:=by
 unfold ptsOf;rw [List.mem_filter,List.mem_range];simp
theorem rising_ptsOf (n:Nat) (P:Nat→Prop):Rising (ptsOf n P):=rising_filter _ _
theorem ptsOf_eq {n:Nat} {P:Nat→Prop} {l:List Nat} (hr:Rising l) (h:∀ x,x ∈ l ↔ x < n∧P x):l=ptsOf n P:=
 rising_ext hr (rising_ptsOf _ _) fun x=>by rw [h,mem_ptsOf]
theorem ptsOf_length_le (n:Nat) (P:Nat→Prop):(ptsOf n P).length≤n:=by
 unfold ptsOf;have:=List.length_filter_le (fun x=>@decide (P x) (Classical.propDecidable _)) (List.range n);simpa using this
noncomputable def upList (W:List (List Nat)) (S:List Nat):List Nat:=ptsOf W.length (Up W (· ∈ S))
theorem mem_upList {W:List (List Nat)} {S:List Nat} (hg:GoodG W) (hs:∀ x,x ∈ S→x < W.length) {x:Nat}:x ∈ upList W S ↔ Up W (· ∈ S) x:=by
 unfold upList;rw [mem_ptsOf];exact ⟨fun h=>h.2,fun h=>⟨h.lt hg hs,h⟩⟩
theorem rising_of_sorted {l:List Nat} (h:l.Pairwise (·≤·)) (hn:l.Nodup):Rising l:=by
 rw [List.nodup_iff_pairwise_ne] at hn
 exact (h.and hn).imp fun ⟨a,b⟩=>by omega

def swapL (l:List Nat) (i j:Nat):List Nat:=(l.set i (nth l j)).set j (nth l i)
theorem swapL_length (l:List Nat) (i j:Nat):(swapL l i j).length=l.length:=by unfold swapL;simp
theorem swapL_perm {l:List Nat} {i j:Nat} (hi:i < l.length) (hj:j < l.length):(swapL l i j).Perm l:=by
 rw [List.perm_iff_count]
 intro a
 unfold swapL
 rw [List.count_set (by simpa using hj),List.count_set hi]
 by_cases hij:i=j
 ·subst hij
  rw [List.getElem_set_self,nth_eq hi]
  have:l[i] == a→0 < l.count a:=fun h=>by rw [List.count_pos_iff];rw [beq_iff_eq] at h;rw [← h];exact List.getElem_mem hi
  by_cases h:(l[i] == a)=true
  ·have:=this h;simp only [h,if_true];omega
  ·simp only [h,Bool.false_eq_true,if_false];omega
 ·rw [List.getElem_set_ne hij,nth_eq hi,nth_eq hj]
  have h1:l[i] == a→0 < l.count a:=fun h=>by rw [List.count_pos_iff];rw [beq_iff_eq] at h;rw [← h];exact List.getElem_mem hi
  by_cases e1:(l[i] == a)=true <;> by_cases e2:(l[j] == a)=true <;> simp only [e1,e2,if_true,Bool.false_eq_true,if_false]
  ·have:=h1 e1;omega
  ·have:=h1 e1;omega
  ·omega
  ·omega
end Go.Proofs.YtgbmnlmnhbkdbaaGreat
/- Slices of slices that read as lists of lists; numbers that are points. No condition. -/
namespace Go.Proofs.YtgbmnlmnhbkdbaaGreat
open Go.RowKit

abbrev eN:Nat→Value:=fun m=>Value.int .i64 (m:Int)
abbrev eS:Option Addr × Nat × Nat→Value:=fun v=>Value.slice v.1 v.2.1 v.2.2
theorem one_eN (m:Nat):(eN m).oneCell'=true:=rfl
theorem one_eS (v:Option Addr × Nat × Nat):(eS v).oneCell'=true:=rfl

structure Rows {α:Type} [Inhabited α] (enc:α→Value) (w:World) (A:Option Addr) (n:Nat) (L:List (List α)):Prop where
 ex:∃ vs:List (Option Addr × Nat × Nat),Sl eS w A n vs∧∀ i,i < n→Sl enc w (nth vs i).1 (nth vs i).2.1 (nth L i)∧(nth vs i).2.1≤(nth vs i).2.2
 len:L.length=n
section
variable {α:Type} [Inhabited α] {enc:α→Value} {w w':World} {A:Option Addr} {n:Nat} {L:List (List α)}
theorem Rows.below (h:Rows enc w A n L) {B:Nat} (hB:w.heap.size≤B) (hb:Below B w w'):Rows enc w' A n L:=by
 obtain ⟨⟨vs,h1,h2⟩,h3⟩:=h
 exact ⟨⟨vs,h1.below hB hb,fun i hi=>⟨(h2 i hi).1.below hB hb,(h2 i hi).2⟩⟩,h3⟩
instance:Stable (fun w=>Rows enc w A n L):=⟨fun hb h=>h.below (Nat.le_refl _) hb⟩
theorem Rows.big (h:Rows enc w A n L):n≤140737488351232:=by obtain ⟨⟨vs,h1,_⟩,_⟩:=h;exact h1.big
theorem Rows.row (h:Rows enc w A n L) {i:Nat} (hi:i < n):∃ b off B m d,A=some ⟨b,off,none⟩∧b < w.heap.size∧w.cell? ⟨b,off + i,none⟩=some (.slice B m d)∧Sl enc w B m (nth L i):=by
 obtain ⟨⟨vs,h1,h2⟩,_⟩:=h
 obtain ⟨b,off,e,hlt,hc⟩:=h1.at' (by omega)
 exact ⟨b,off,(nth vs i).1,(nth vs i).2.1,(nth vs i).2.2,e,hlt,hc i hi,(h2 i hi).1⟩
theorem Rows.take (h:Rows enc w A n L) {k:Nat} (hk:k≤n):Rows enc w A k (L.take k):=by
 obtain ⟨⟨vs,h1,h2⟩,h3⟩:=h
 refine ⟨⟨vs.take k,⟨by rw [List.length_take,h1.len];omega,by have:=h1.big;omega,fun hp=>?_⟩,fun i hi=>?_⟩,by rw [List.length_take,h3];omega⟩
 ·obtain ⟨b,off,e,hlt,hc⟩:=h1.at' (by omega)
  exact ⟨b,off,e,hlt,fun j hj=>by rw [hc j (by omega),nth_take hj]⟩
 ·rw [nth_take hi,nth_take hi];exact h2 i (by omega)
end
def Fr (base:Nat) (A:Option Addr):Prop:=∀ b off,A=some ⟨b,off,none⟩→base≤b
theorem Fr.mono {base base':Nat} {A:Option Addr} (h:Fr base A) (hb:base'≤base):Fr base' A:=fun b off e=>Nat.le_trans hb (h b off e)
theorem OwnR.fr {α:Type} {enc:α→Value} {w:World} {base:Nat} {e:TypeId} {A:Option Addr} {n c:Nat} {xs:List α} (h:OwnR enc w base e A n c xs):Fr base A:=by
 intro b off e1
 rcases h.2 with ⟨hv,_⟩ | ⟨g,cap,cur,hv,hb,_⟩
 ·injection hv with e2;rw [e1] at e2;cases e2
 ·injection hv with e2;rw [e1] at e2;injection e2 with e2;injection e2 with e2;omega
theorem Sl.setLow {α:Type} [Inhabited α] {enc:α→Value} {w:World} {A:Option Addr} {n:Nat} {xs:List α} {base:Nat} (h:Sl enc w A n xs) (hf:Fr base A) {p:Addr} (hp:p.block < base) (v:Value):Sl enc (w.setCell p v) A n xs:=
 ⟨h.len,h.big,fun hn=>by
   obtain ⟨b,off,e,hlt,hc⟩:=h.at' hn
   have hb:=hf b off e
   refine ⟨b,off,e,by simpa [World.setCell] using hlt,fun j hj=>?_⟩
   rw [← hc j hj]
   have hne:b ≠ p.block:=by omega
   simp only [World.cell?,Below.heap_setCell w p v b hne]⟩
def RowsF {α:Type} [Inhabited α] (base:Nat) (enc:α→Value) (w:World) (A:Option Addr) (n:Nat) (L:List (List α)):Prop:=
 (∃ vs:List (Option Addr × Nat × Nat),Sl eS w A n vs∧Fr base A∧∀ i,i < n→Sl enc w (nth vs i).1 (nth vs i).2.1 (nth L i)∧Fr base (nth vs i).1∧(nth vs i).2.1≤(nth vs i).2.2)∧L.length=n
section
variable {α:Type} [Inhabited α] {enc:α→Value} {w w':World} {A:Option Addr} {n base:Nat} {L:List (List α)}
theorem RowsF.rows (h:RowsF base enc w A n L):Rows enc w A n L:=by
 obtain ⟨⟨vs,h1,_,h3⟩,h4⟩:=h
 exact ⟨⟨vs,h1,fun i hi=>⟨(h3 i hi).1,(h3 i hi).2.2⟩⟩,h4⟩
theorem RowsF.mono (h:RowsF base enc w A n L) {base':Nat} (hb:base'≤base):RowsF base' enc w A n L:=by
 obtain ⟨⟨vs,h1,h2,h3⟩,h4⟩:=h
 exact ⟨⟨vs,h1,h2.mono hb,fun i hi=>⟨(h3 i hi).1,(h3 i hi).2.1.mono hb,(h3 i hi).2.2⟩⟩,h4⟩
theorem RowsF.below (h:RowsF base enc w A n L) {B:Nat} (hB:w.heap.size≤B) (hb:Below B w w'):RowsF base enc w' A n L:=by
 obtain ⟨⟨vs,h1,h2,h3⟩,h4⟩:=h
 exact ⟨⟨vs,h1.below hB hb,h2,fun i hi=>⟨(h3 i hi).1.below hB hb,(h3 i hi).2⟩⟩,h4⟩
theorem RowsF.setLow (h:RowsF base enc w A n L) {p:Addr} (hp:p.block < base) (v:Value):RowsF base enc (w.setCell p v) A n L:=by
 obtain ⟨⟨vs,h1,h2,h3⟩,h4⟩:=h
 exact ⟨⟨vs,h1.setLow h2 hp v,h2,fun i hi=>⟨(h3 i hi).1.setLow (h3 i hi).2.1 hp v,(h3 i hi).2⟩⟩,h4⟩
instance:Stable (fun w=>RowsF base enc w A n L):=⟨fun hb h=>h.below (Nat.le_refl _) hb⟩
end
theorem Sl.toNat {w:World} {A:Option Addr} {n:Nat} {l:List Int} (h:Sl (Value.int .i64) w A n l) (hl:∀ p,p ∈ l→0≤p):Sl eN w A n (l.map Int.toNat):=
 ⟨by rw [List.length_map];exact h.len,h.big,fun hp=>by
   obtain ⟨b,off,e,hlt,hc⟩:=h.at' hp
   refine ⟨b,off,e,hlt,fun j hj=>?_⟩
   have hj':j < l.length:=by rw [h.len];exact hj
   rw [hc j hj,nth_map _ hj']
   have:=hl _ (nth_mem hj')
   show some (Value.int .i64 _)=some (Value.int .i64 _)
   congr 2
   omega⟩
theorem Sl.toInt {w:World} {A:Option Addr} {n:Nat} {l:List Nat} (h:Sl eN w A n l):Sl (Value.int .i64) w A n (l.map fun m:Nat=>(m:Int)):=
 ⟨by rw [List.length_map];exact h.len,h.big,fun hp=>by
   obtain ⟨b,off,e,hlt,hc⟩:=h.at' hp
   refine ⟨b,off,e,hlt,fun j hj=>?_⟩
   rw [hc j hj,nth_map _ (by rw [h.len];exact hj)]⟩
theorem Rows.toNat {w:World} {A:Option Addr} {n:Nat} {Ps:List (List Int)} (h:Rows (Value.int .i64) w A n Ps) (hr:inR Ps=true):Rows eN w A n (toG Ps):=by
 have hl:=h.len
 obtain ⟨⟨vs,h1,h2⟩,h3⟩:=h
 refine ⟨⟨vs,h1,fun i hi=>?_⟩,by rw [toG_length];exact h3⟩
 rw [nth_toG (by omega)]
 exact ⟨(h2 i hi).1.toNat fun p hp=>(inR_row hr (by omega) p hp).1,(h2 i hi).2⟩
def castL (l:List Nat):List Int:=l.map fun m:Nat=>(m:Int)
theorem castL_snoc (l:List Nat) (x:Nat):castL (l ++ [x])=castL l ++ [(x:Int)]:=by simp [castL]
theorem mem_castL {l:List Nat} {x:Nat}:((x:Int) ∈ castL l) ↔ x ∈ l:=by
 unfold castL;rw [List.mem_map]
 constructor
 ·rintro ⟨y,hy,e⟩
  have:y=x:=by omega
  rw [← this];exact hy
 ·exact fun h=>⟨x,h,rfl⟩
end Go.Proofs.YtgbmnlmnhbkdbaaGreat
/- Plain law: states by which open trails go on; what they come to is what simple open trails come to. Condition: no way leads back. -/
namespace Go.Proofs.YtgbmnlmnhbkdbaaGreat

abbrev St:=Nat × Bool
inductive Nx (G:List (List Nat)) (Z Ab:Nat→Prop):St→St→Prop
 | up {p:Nat} {u:Bool} {q:Nat}:¬ (u=true∧Z p)→(u=true ∨ Ab p)→q ∈ nth G p→Nx G Z Ab (p,u) (q,true)
 | down {p:Nat} {u:Bool} {c:Nat}:¬ Z p→c < G.length→p ∈ nth G c→Nx G Z Ab (p,u) (c,false)
inductive Go {G:List (List Nat)} {Z Ab:Nat→Prop}:Nat→St→St→Prop
 | refl (s:St):Go 0 s s
 | snoc {m:Nat} {s t r:St}:Go m s t→Nx G Z Ab t r→Go (m + 1) s r
structure AbOk (G:List (List Nat)) (Z Ab:Nat→Prop):Prop where
 sub:∀ x,Z x→Ab x
 up:∀ x,Ab x→∀ p,p ∈ nth G x→Ab p

section
variable {G:List (List Nat)} {Z Ab:Nat→Prop}
theorem Go.trans {m n:Nat} {s t r:St} (h:Go (G:=G) (Z:=Z) (Ab:=Ab) m s t) (k:Go (G:=G) (Z:=Z) (Ab:=Ab) n t r):Go (G:=G) (Z:=Z) (Ab:=Ab) (m + n) s r:=by
 induction k with
 | refl=>exact h
 | snoc _ hx ih=>exact Go.snoc (ih h) hx
theorem Go.one {s t:St} (h:Nx G Z Ab s t):Go (G:=G) (Z:=Z) (Ab:=Ab) 1 s t:=(Go.refl s).snoc h
theorem Go.head {m:Nat} {s r:St} (h:Go (G:=G) (Z:=Z) (Ab:=Ab) (m + 1) s r):∃ t,Nx G Z Ab s t∧Go (G:=G) (Z:=Z) (Ab:=Ab) m t r:=by
 generalize hn:m + 1=n at h
 induction h generalizing m with
 | refl=>omega
 | snoc h1 hx ih =>
   rename_i m' s t r
   obtain rfl:m=m':=by omega
   cases m with
   | zero=>cases h1;exact ⟨r,hx,.refl _⟩
   | succ m =>
     obtain ⟨t',ht,hg⟩:=ih rfl
     exact ⟨t',ht,hg.snoc hx⟩
theorem Go.turned (hA:AbOk G Z Ab):∀ {m:Nat} {p q:Nat},Go (G:=G) (Z:=Z) (Ab:=Ab) m (p,false) (q,true)→Ab p
 | 0,p,q,h=>by cases h
 | m + 1,p,q,h=>by
   obtain ⟨t,ht,hg⟩:=h.head
   cases ht with
   | up h1 h2 h3=>rcases h2 with h2 | h2;cases h2;exact h2
   | down h1 h2 h3=>exact hA.up _ (Go.turned hA hg) _ h3
theorem Go.cut (hA:AbOk G Z Ab) {m:Nat} {c:Nat} {u v:Bool} {t:St} (h:Go (G:=G) (Z:=Z) (Ab:=Ab) (m + 1) (c,u) (c,v)) (hx:Nx G Z Ab (c,v) t):Nx G Z Ab (c,u) t:=by
 cases hx with
 | down h1 h2 h3=>exact .down h1 h2 h3
 | up h1 h2 h3 =>
   cases u with
   | true =>
     obtain ⟨r,hr,_⟩:=h.head
     have hz:¬ Z c:=by
      cases hr with
      | up g1 _ _=>exact fun hz=>g1 ⟨rfl,hz⟩
      | down g1 _ _=>exact g1
     exact .up (fun g=>hz g.2) (.inl rfl) h3
   | false =>
     have ha:Ab c:=by
      cases v with
      | true=>exact h.turned hA
      | false=>rcases h2 with h2 | h2;cases h2;exact h2
     exact .up (fun g=>by cases g.1) (.inr ha) h3

inductive Ways (G:List (List Nat)) (Z Ab:Nat→Prop) (a:St):List St→Prop
 | one:Ways G Z Ab a [a]
 | more {s t:St} {l:List St}:Ways G Z Ab a (s :: l)→Nx G Z Ab s t→Ways G Z Ab a (t :: s :: l)
end

/-! ### trails, point by point -/
section
variable (G:List (List Nat)) (Z Ab:Nat→Prop)
def Opn (q p n:Nat):Prop:=if q ∈ nth G p∧n ∈ nth G p then Ab p else ¬ Z p
inductive Trl (a:Nat):List Nat→Prop
 | one:Trl a [a]
 | two {n:Nat}:n < G.length→(n ∈ nth G a ∨ a ∈ nth G n)→n ∉ [a]→Trl a [n,a]
 | more {q p n:Nat} {l:List Nat}:Trl a (p :: q :: l)→n < G.length→(n ∈ nth G p ∨ p ∈ nth G n)→n ∉ p :: q :: l→Opn G Z Ab q p n→Trl a (n :: p :: q :: l)
end
section
variable {G:List (List Nat)} {Z Ab:Nat→Prop}
def OneWay (G:List (List Nat)):Prop:=∀ p q,p < G.length→q < G.length→p ∈ nth G q→¬ q ∈ nth G p
theorem Acyc.irr (h:Acyc G) {p:Nat} (hp:p < G.length):¬ p ∈ nth G p:=by
 obtain ⟨r,hr⟩:=h
 intro h1
 have:=hr p hp p h1
 omega
open Classical in
noncomputable def stOf (G:List (List Nat)):List Nat→Bool
 | n :: p :: _=>decide (n ∈ nth G p)
 | _=>true
end
end Go.Proofs.YtgbmnlmnhbkdbaaGreat
/- A state as a map's key: what it reads as, and that no two read alike. Condition: the points within Go's bound. -/
namespace Go.Proofs.YtgbmnlmnhbkdbaaGreat
open Go.RowKit Go.Maps

abbrev sV (s:St):Value:=.agg #[.int .i64 (s.1:Int),.bool s.2]
def kS (s:St):Lit:=.string (keyBytes [.int .i64 (s.1:Int),.bool s.2])
def okS (s:St):Prop:=s.1≤140737488355328
theorem wideState:(match Tryz.prog.underlying 97 with | some (.array _ _) | some (.struct _)=>true | _=>false)=true:=by kernel_rfl
set_option maxRecDepth 1000000 in
theorem laidAll:laidOutB Tryz.prog=true:=by kernel_rfl
set_option maxRecDepth 1000000 in
theorem law97:Keyed Tryz.prog 97:=Keyed.of_law (deep_law_laid laidAll (m:=2) (by omega) (of_decide_eq_true (by kernel_rfl)) (by kernel_rfl) wideState)
theorem cellsState:Tryz.prog.cellsOf 97=2:=by kernel_rfl
theorem deepState:Tryz.prog.keyType 97=true:=by kernel_rfl
theorem cellsI:Tryz.prog.cellsOf 3=1:=by kernel_rfl
theorem cellsB:Tryz.prog.cellsOf 4=1:=by kernel_rfl
theorem sizeTwo:∃ d,Tryz.prog.types.size + 1=d + 2:=⟨Tryz.prog.types.size - 1,by have h:0 < Tryz.prog.types.size:=of_decide_eq_true (by kernel_rfl);omega⟩
theorem keyLits_mk (d:Nat) {x:Int} (hx:(Lit.int .i64 x).wf=true) (u:Bool):Tryz.prog.keyLits (d + 2) 97 [.int .i64 x,.bool u]=some [.int .i64 x,.bool u]:=by
 simp [Program.keyLits,Tryz.underlying97,Tryz.underlying3,Tryz.underlying4,cellsState,cellsI,cellsB,hx]
theorem keyOf_sV {s:St} (h:okS s):keyOf Tryz.prog 97 (sV s)=some (kS s):=by
 have hw:(Lit.int .i64 (s.1:Int)).wf=true:=WalkArith.wf_i64 (by unfold okS at h;omega)
 obtain ⟨d,hd⟩:=sizeTwo
 unfold keyOf
 rw [Tryz.underlying97]
 simp only []
 rw [deepState]
 have hf:(sV s).formed Tryz.prog 97=true:=by simp [Value.formed,Tryz.underlying97,cellsState]
 rw [hf,hd]
 have hc:(sV s).cells.toList=[.int .i64 (s.1:Int),.bool s.2]:=by simp [Value.cells]
 rw [hc,keyLits_mk d hw]
 rfl
set_option maxRecDepth 1000000 in
theorem keyOf_state {v:Value} {l:Lit} (h:keyOf Tryz.prog 97 v=some l):∃ x:Int × Bool,v=.agg #[.int .i64 x.1,.bool x.2]:=by
 obtain ⟨xs,L,rfl,hL,_⟩:=keyOf_top wideState h
 obtain ⟨d,hd⟩:=sizeTwo
 rw [hd] at hL
 unfold Program.keyLits at hL
 rw [Tryz.underlying97] at hL
 simp only [cellsState] at hL
 split at hL
 ·rename_i hc
  obtain ⟨xs⟩:=xs
  rcases xs with _ | ⟨a,_ | ⟨b,_ | ⟨c,xs⟩⟩⟩
  ·simp at hc
  ·simp at hc
  ·have hb:∃ u,b=.bool u:=by
    cases b
    case bool u=>exact ⟨u,rfl⟩
    all_goals (exfalso;revert hL;simp [cellsI,cellsB,Program.keyLits,Tryz.underlying3,Tryz.underlying4])
   obtain ⟨u,rfl⟩:=hb
   cases a
   case int q x =>
    by_cases hq:q=.i64
    ·subst hq;exact ⟨(x,u),rfl⟩
    ·exfalso;revert hL;simp [cellsI,cellsB,Program.keyLits,Tryz.underlying3,Tryz.underlying4,hq]
   all_goals (exfalso;revert hL;simp [cellsI,cellsB,Program.keyLits,Tryz.underlying3,Tryz.underlying4])
  ·simp at hc
 ·cases hL
theorem kS_inj {s t:St} (hs:okS s) (ht:okS t) (h:kS s=kS t):s=t:=by
 have h1:=keyOf_sV hs
 have h2:=keyOf_sV ht
 rw [← h] at h2
 have:=law97.inj h1 h2
 obtain ⟨p,u⟩:=s
 obtain ⟨q,v⟩:=t
 simp only [sV,Value.agg.injEq,Array.mk.injEq,List.cons.injEq,Value.int.injEq,Value.bool.injEq] at this
 simp at this
 obtain ⟨h1,h2⟩:=this
 exact Prod.ext (by show p=q;omega) h2
open Classical in
noncomputable def liftS (g:St→Option Int):Lit→Option Int:=fun l=>if h:∃ s,okS s∧kS s=l then g (Classical.choose h) else none
open Classical in
noncomputable def putS (g:St→Option Int) (s:St) (v:Int):St→Option Int:=fun t=>if t=s then some v else g t
theorem liftS_kS (g:St→Option Int) {s:St} (h:okS s):liftS g (kS s)=g s:=by
 have hx:∃ t,okS t∧kS t=kS s:=⟨s,h,rfl⟩
 unfold liftS
 rw [dif_pos hx]
 obtain ⟨h1,h2⟩:=Classical.choose_spec hx
 rw [kS_inj h1 h h2]
theorem liftS_some {g:St→Option Int} {l:Lit} (h:(liftS g l).isSome=true):∃ s,okS s∧kS s=l:=by
 unfold liftS at h
 split at h
 ·assumption
 ·cases h
theorem putF_liftS (g:St→Option Int) {s:St} (hs:okS s) (v:Int) (l:Lit):putF (liftS g) (kS s) v l=liftS (putS g s v) l:=by
 unfold putF
 by_cases h:l=kS s
 ·subst h;rw [if_pos rfl,liftS_kS _ hs];unfold putS;rw [if_pos rfl]
 ·rw [if_neg h]
  by_cases hx:∃ t,okS t∧kS t=l
  ·obtain ⟨t,ht,rfl⟩:=hx
   rw [liftS_kS _ ht,liftS_kS _ ht]
   unfold putS
   rw [if_neg (fun e=>h (by rw [e]))]
  ·unfold liftS;rw [dif_neg hx,dif_neg hx]
def MapS (k e:TypeId) (w:World) (b n:Nat) (g:St→Option Int):Prop:=MapF Tryz.prog k e w b n (liftS g)
section
variable {k e:TypeId} {w w':World} {b n:Nat} {g:St→Option Int}
theorem MapS.made (w:World) (k e:TypeId):MapS k e (w.alloc (.map #[] 0)) w.heap.size 0 (fun _=>none):=(MapF.made w Tryz.prog k e).congr fun x=>by unfold liftS;split <;> rfl
theorem MapS.lt (h:MapS k e w b n g):b < w.heap.size:=MapF.lt h
theorem MapS.mono (h:MapS k e w b n g) {m:Nat} (hn:n≤m):MapS k e w b m g:=MapF.mono h hn
theorem MapS.grown {row:Option Nat} (h:MapS k e w b n g) (hg:w.grownBy w' row) (hne:some b ≠ row):MapS k e w' b n g:=MapF.grown h hg hne
theorem MapS.below (h:MapS k e w b n g) (hb:Below w.heap.size w w'):MapS k e w' b n g:=MapF.below h hb
theorem MapS.alloc (h:MapS k e w b n g) (o:Obj):MapS k e (w.alloc o) b n g:=MapF.alloc h o
theorem MapS.setCell (h:MapS k e w b n g) {a:Addr} (ha:b ≠ a.block) (u:Value):MapS k e (w.setCell a u) b n g:=MapF.setCell h ha u
theorem MapS.congr (h:MapS k e w b n g) {f:St→Option Int} (hg:∀ x,g x=f x):MapS k e w b n f:=MapF.congr h fun x=>by unfold liftS;split <;> simp [hg]
instance:Stable (fun w=>MapS k e w b n g):=⟨fun hb h=>MapS.below h hb⟩
end
section
variable (w:World) {ops:Array Oper} {rest:List Oper} {o:Oper} {a:Act} {Q:Exit→Act→World→Prop}
theorem wpList_look_S (hg:o.guard=none) (m x:Operand) (t:TypeId) (hop:o.op=Op.lookup t m x false)
 (e:TypeId) (ht:Tryz.prog.underlying t=some (.map 97 e)) (he:Tryz.prog.underlying e=some (.int .i64)) (hz:(zeroValue e).run Tryz.prog w=.ok (.int .i64 0) w) (b n:Nat) (g:St→Option Int)
 (hm:a.eval m=.map (some b)) (hown:MapS 97 e w b n g) (s:St) (hx:a.eval x=sV s) (hok:okS s)
 (hK:wpList Tryz.prog ops Q rest (a.put o.dst (.int .i64 ((g s).getD 0))) w):wpList Tryz.prog ops Q (o :: rest) a w:=
 wpList_look_F w hg m x t hop 97 e law97 ht he hz b n _ hm hown _ (kS s) hx (keyOf_sV hok) (by rw [liftS_kS _ hok];exact hK)
theorem wpList_store_S (hg:o.guard=none) (m x v:Operand) (t:TypeId) (hop:o.op=Op.mapUpdate t m x v)
 (e:TypeId) (ht:Tryz.prog.underlying t=some (.map 97 e)) (he:Tryz.prog.underlying e=some (.int .i64)) (b n:Nat) (g:St→Option Int)
 (hm:a.eval m=.map (some b)) (hown:MapS 97 e w b n g) (hn:n < maxLen) (s:St) (hx:a.eval x=sV s) (hok:okS s) (c:Int) (hv:a.eval v=.int .i64 c) (hwc:(Lit.int .i64 c).wf=true)
 (hK:∀ w',MapS 97 e w' b (n + 1) (putS g s c)→w.grownBy w' (some b)→wpList Tryz.prog ops Q rest (a.put o.dst undef) w'):wpList Tryz.prog ops Q (o :: rest) a w:=
 wpList_store_F w hg m x v t hop 97 e law97 ht he b n _ hm hown hn _ (kS s) hx c hv (keyOf_sV hok) hwc fun w' h1 h2=>hK w' (MapF.congr h1 (putF_liftS g hok c)) h2
end
end Go.Proofs.YtgbmnlmnhbkdbaaGreat
