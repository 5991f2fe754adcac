/- Joined by program out of: Last, Multi, Up, Lists, LastIn, Map, Fits, Own, Kids, SrtMath. What each says stands at its own head. -/
import Derived.Test.YtmncjibcoffmfaaGreatJ2
import Derived.Deep.RegionHeld3
import Derived.Test.YtmncjibcoffmfaaGreatJ1
import Derived.OrdersIn
import Derived.RangeFuncCalls
import Derived.Maps.Own
import Derived.Maps.OwnOps
import Derived.Maps.OwnSet
import Derived.Maps.Views
import Derived.IntWalk
import Derived.Laws.OwnMore
set_option linter.unusedVariables false
set_option linter.unusedSimpArgs false
/- A region that draws its order and ends in one operation that waits for all others: that one is walked behind the region. No condition. -/
namespace Go.Proofs.YtmncjibcoffmfaaGreat
open Go.RowKit

def AheadOf (P:Program) (o:Oper) (Q:Exit→Act→World→Prop):Exit→Act→World→Prop
 | .normal,a,w=>o.wp P a w (fun a w=>Q .normal a w) Q
 | e,a,w=>Q e a w
def lastOk (ops:Array Oper) (L:Nat):Bool:=(List.range ops.size).all fun j=>match ops[j]? with
 | none=>true
 | some o=>o.after.all (fun e=>decide (e.on < j) && e.on != L) && (if j=L then (List.range ops.size).all (fun k=>k == L || o.after.any (fun e=>Region.binds .any e && e.on == k)) else true)
section
variable {P:Program} {ops:Array Oper} {Q:Exit→Act→World→Prop} {S:World→Prop} {L:Nat} {o:Oper}
theorem wpOp_ahead {i:Nat} {K:Act→World→Prop} {a:Act} {w:World} (h:wpOp P ops (AheadOf P o Q) i K a w):wpOp P ops Q i K a w:=by
 have hw:∀ {x:Oper} {r:Result Next},x.upon P a K (AheadOf P o Q) r→x.upon P a K Q r:=by
  intro x r hr
  rcases r with ⟨n,w'⟩ | ⟨y,w'⟩
  ·cases n <;> first
    | exact hr
    | (refine Calls.mono hr fun e w2 he=>?_
       cases e <;> exact he)
  ·cases y <;> exact hr
 unfold wpOp at *
 rcases ho:ops[i]? with _ | x
 ·rw [ho] at h;exact h
 ·rw [ho] at h
  simp only at h ⊢
  split at h
  ·rename_i hq
   rw [if_pos hq]
   rcases h with h | h
   ·exact .inl (hw h)
   ·exact .inr ⟨h.1,h.2⟩
  ·rename_i hq
   rw [if_neg hq]
   exact h
theorem ahead_sound (ho:ops[L]?=some o) (hg:o.guard=none) (hok:lastOk ops L=true):∀ (fuel:Nat) (listed:Array Bool) (a:Act) (w:World),listed.size=ops.size→listed.getD L true=false →
 wpAnyH P .any ops (AheadOf P o Q) S fuel (listed.setIfInBounds L true) a w→wpAny P .any ops Q (fuel + 1) listed a w:=by
 have hL:L < ops.size:=(Array.getElem?_eq_some_iff.1 ho).1
 have h1:∀ k,k < ops.size→k ≠ L→∃ e ∈ o.after,Region.binds .any e=true∧e.on=k:=by
  intro k hk hne
  unfold lastOk at hok
  have:=List.all_eq_true.1 hok L (List.mem_range.2 hL)
  rw [ho] at this
  simp only [if_true,Bool.and_eq_true] at this
  have:=List.all_eq_true.1 this.2 k (List.mem_range.2 hk)
  simp only [Bool.or_eq_true,beq_iff_eq,Array.any_eq_true] at this
  rcases this with h | ⟨i,hi,h⟩
  ·exact absurd h hne
  ·simp only [Bool.and_eq_true,beq_iff_eq] at h
   exact ⟨_,Array.getElem_mem hi,h.1,h.2⟩
 have h2:∀ (j:Nat) (x:Oper),ops[j]?=some x→∀ e ∈ x.after,e.on < j∧e.on ≠ L:=by
  intro j x hx e he
  have hj:j < ops.size:=(Array.getElem?_eq_some_iff.1 hx).1
  unfold lastOk at hok
  have:=List.all_eq_true.1 hok j (List.mem_range.2 hj)
  rw [hx] at this
  simp only [Bool.and_eq_true] at this
  have:=Array.all_eq_true_iff_forall_mem.1 this.1 e he
  simpa using this
 have key:∀ (listed:Array Bool),listed.size=ops.size→listed.getD L true=false →
  (L ∈ Region.ready .any ops listed∧Region.ready .any ops (listed.setIfInBounds L true)=[]∧∀ i ∈ Region.ready .any ops listed,i=L) ∨
  ((∃ j,j ∈ Region.ready .any ops listed)∧∀ i ∈ Region.ready .any ops listed,i ≠ L∧i ∈ Region.ready .any ops (listed.setIfInBounds L true)):=by
  intro listed hs hLf
  by_cases hall:∀ j,j < ops.size→j ≠ L→listed.getD j true=true
  ·left
   have hd:∀ j,j < ops.size→j ≠ L→listed.getD j false=true:=fun j hj hne=>by
    have:=hall j hj hne
    have hj':j < listed.size:=by omega
    simpa [Array.getD,hj'] using this
   have hin:∀ i,i ∈ Region.ready .any ops listed→i=L:=fun i hi=>by
    obtain ⟨h0,x,hx,_⟩:=mem_ready.1 hi
    have hi':i < ops.size:=(Array.getElem?_eq_some_iff.1 hx).1
    by_cases hne:i=L
    ·exact hne
    ·rw [hall i hi' hne] at h0;cases h0
   refine ⟨mem_ready.2 ⟨hLf,o,ho,fun e he hb=>?_⟩,?_,hin⟩
   ·obtain ⟨h3,h4⟩:=h2 L o ho e he
    exact hd e.on (by omega) h4
   ·refine List.eq_nil_iff_forall_not_mem.2 fun i hi=>?_
    obtain ⟨h0,x,hx,_⟩:=mem_ready.1 hi
    have hi':i < ops.size:=(Array.getElem?_eq_some_iff.1 hx).1
    by_cases hne:i=L
    ·subst hne
     simp [Array.getD,hs,hi'] at h0
    ·rw [getD_set_ne true (Ne.symm hne),hall i hi' hne] at h0;cases h0
  ·right
   have hex:∃ j,j < ops.size∧j ≠ L∧listed.getD j true=false:=by
    refine Classical.byContradiction fun hno=>hall fun j hj hne=>?_
    rcases hq:listed.getD j true with _ | _
    ·exact absurd ⟨j,hj,hne,hq⟩ hno
    ·rfl
   have hmin:∃ j,(j < ops.size∧j ≠ L∧listed.getD j true=false)∧∀ k,k < j→k ≠ L→listed.getD k true=true:=by
    obtain ⟨j,hj⟩:=hex
    have hrec:∀ n j,j < n→(j < ops.size∧j ≠ L∧listed.getD j true=false)→∃ j,(j < ops.size∧j ≠ L∧listed.getD j true=false)∧∀ k,k < j→k ≠ L→listed.getD k true=true:=by
     intro n
     induction n with
     | zero=>intro j h;omega
     | succ n ihn =>
       intro j hjn hj
       by_cases hk:∀ k,k < j→k ≠ L→listed.getD k true=true
       ·exact ⟨j,hj,hk⟩
       ·obtain ⟨k,hk⟩:=Classical.not_forall.1 hk
        have hkj:k < j:=Classical.byContradiction fun h=>hk fun h'=>absurd h' h
        have hkL:k ≠ L:=Classical.byContradiction fun h=>hk fun _ h'=>absurd h' h
        have hkf:listed.getD k true=false:=by
         rcases hq:listed.getD k true with _ | _
         ·rfl
         ·exact absurd (fun _ _=>hq) hk
        exact ihn k (by omega) ⟨by omega,hkL,hkf⟩
    exact hrec (j + 1) j (Nat.lt_succ_self j) hj
   obtain ⟨j,⟨hj,hjL,hjf⟩,hlow⟩:=hmin
   refine ⟨⟨j,?_⟩,fun i hi=>?_⟩
   ·refine mem_ready.2 ⟨hjf,ops[j],Array.getElem?_eq_getElem hj,fun e he hb=>?_⟩
    obtain ⟨h3,h4⟩:=h2 j _ (Array.getElem?_eq_getElem hj) e he
    have:=hlow e.on h3 h4
    have hj':e.on < listed.size:=by omega
    simpa [Array.getD,hj'] using this
   ·have hne:i ≠ L:=by
     rintro rfl
     obtain ⟨_,x,hx,hedge⟩:=mem_ready.1 hi
     rw [ho] at hx
     injection hx with hx
     subst hx
     obtain ⟨e,he,hb,hon⟩:=h1 j hj hjL
     have:=hedge e he hb
     rw [hon] at this
     have hj':j < listed.size:=by omega
     simp [Array.getD,hj'] at this hjf
     rw [hjf] at this
     cases this
    exact ⟨hne,ready_mono hi hne⟩
 have hdone:∀ (fuel:Nat) (listed:Array Bool) (a:Act) (w:World),Region.ready .any ops listed=[]→Q .normal a w→wpAny P .any ops Q fuel listed a w:=by
  intro fuel listed a w h0 hq
  cases fuel with
  | zero=>exact ⟨h0,hq⟩
  | succ f=>exact ⟨fun _=>hq,fun i hi=>by rw [h0] at hi;cases hi⟩
 have hlast:∀ (fuel:Nat) (listed:Array Bool) (a:Act) (w:World),L ∈ Region.ready .any ops listed→Region.ready .any ops (listed.setIfInBounds L true)=[]→(∀ i ∈ Region.ready .any ops listed,i=L)→AheadOf P o Q .normal a w →
  wpAny P .any ops Q (fuel + 1) listed a w:=by
  intro fuel listed a w hm hnil honly hq
  refine ⟨(fun h0=>by rw [h0] at hm;cases hm),fun i hi=>?_⟩
  obtain rfl:=honly i hi
  unfold wpOp
  rw [ho]
  simp only
  rw [if_pos (by simp [Region.wanted,hg])]
  exact .inl (Oper.wp_mono (fun a w h=>hdone fuel _ a w hnil h) hq)
 intro fuel
 induction fuel with
 | zero =>
   intro listed a w hs hLf h
   rcases key listed hs hLf with ⟨hm,hnil,honly⟩ | ⟨⟨j,hj⟩,hin⟩
   ·exact hlast 0 listed a w hm hnil honly h.2
   ·have:=(hin j hj).2
    rw [h.1] at this
    cases this
 | succ fuel ih =>
   intro listed a w hs hLf h
   rcases key listed hs hLf with ⟨hm,hnil,honly⟩ | ⟨⟨j,hj⟩,hin⟩
   ·exact hlast (fuel + 1) listed a w hm hnil honly (h.1 hnil)
   ·refine ⟨(fun h0=>by rw [h0] at hj;cases hj),fun i hi=>?_⟩
    obtain ⟨hne,hi1⟩:=hin i hi
    refine wpOp_ahead (wpOp_mono (fun a' w' h'=>?_) (h.2 i hi1))
    refine ih (listed.setIfInBounds i true) a' w' (by simpa using hs) (by rw [getD_set_ne true hne];exact hLf) ?_
    rw [Array.setIfInBounds_comm _ _ hne]
    exact h'.2
theorem wp_region_last {id:Nat} {a:Act} {w:World} (L n:Nat) (hm:P.follows .mixedOrders=true) (hn:ops.size=n + 1) (ho:ops[L]?=some o) (hg:o.guard=none) (hok:lastOk ops L=true) (hS:S w.drew)
 (h:S w.drew→wpAnyH P .any ops (AheadOf P o Q) S n ((Array.replicate ops.size false).setIfInBounds L true) a w.drew):(Code.region id ops true).wp P Q a w:=by
 refine wp_region_any hm ?_
 have hL:L < ops.size:=(Array.getElem?_eq_some_iff.1 ho).1
 have:=ahead_sound ho hg hok n (Array.replicate ops.size false) a w.drew (by simp) (by simp [Array.getD,hL]) (h hS)
 rw [← hn] at this
 exact this
theorem wp_region_lastL {l:List Oper} {id:Nat} {a:Act} {w:World} (L n:Nat) (hm:P.follows .mixedOrders=true) (hn:l.length=n + 1) (ho:l[L]?=some o) (hg:o.guard=none) (hok:lastOk l.toArray L=true) (hS:S w.drew)
 (h:S w.drew→wpAnyH P .any l.toArray (AheadOf P o Q) S n ((Array.replicate (n + 1) false).setIfInBounds L true) a w.drew):(Code.region id l.toArray true).wp P Q a w:=
 wp_region_last L n hm (by simpa using hn) (by simpa using ho) hg hok hS (by
  have e:l.toArray.size=n + 1:=by simpa using hn
  rw [e];exact h)
theorem wpAnyH_takeL {md:Region.Mode} {l:List Oper} {i:Nat} {oi:Oper} {v:Value} {fuel:Nat} {listed:Array Bool} {a:Act} {w:World} (hi:l[i]?=some oi)
 (hs:Region.noSelect l.toArray=true) (hf:Region.free md l.toArray listed i=true) (hr:(Region.ready md l.toArray listed).contains i=true)
 (hQ:∀ c a w,Q (.panic c) (a.put oi.dst v) w→Q (.panic c) a w) (hw:Region.wanted oi (yielded l.toArray a.tmps)=true) (hy:∀ w,S w→(execOp a.eval oi).run P w=.ok (.value v) w) (hS:S w)
 (h:wpAnyH P md l.toArray Q S fuel (listed.setIfInBounds i true) (a.put oi.dst v) w):wpAnyH P md l.toArray Q S (fuel + 1) listed a w:=
 wpAnyH_take (by simpa using hi) hs hf hr hQ (.inl ⟨hw,hy⟩) hS h
theorem consL {md:Region.Mode} {l:List Oper} {i:Nat} {oi:Oper} {fuel:Nat} {listed:Array Bool} {a:Act} {w:World} (hi:l[i]?=some oi)
 (h:∀ K':Act→World→Prop,Shut (∀ a w,S w→(S w→wpAnyH P md l.toArray Q S fuel (listed.setIfInBounds i true) a w)→K' a w)→if Region.wanted oi (yielded l.toArray a.tmps)=true then Oper.wp P oi a w K' Q else K' (a.put oi.dst undef) w) :
 AllReadyH P md l.toArray Q S fuel listed a w [i]:=AllReadyH.cons (by simpa using hi) h AllReadyH.nil
theorem consM {md:Region.Mode} {l:List Oper} {i:Nat} {oi:Oper} {fuel:Nat} {listed:Array Bool} {a:Act} {w:World} {rs:List Nat} (hi:l[i]?=some oi)
 (h:∀ K':Act→World→Prop,Shut (∀ a w,S w→(S w→wpAnyH P md l.toArray Q S fuel (listed.setIfInBounds i true) a w)→K' a w)→if Region.wanted oi (yielded l.toArray a.tmps)=true then Oper.wp P oi a w K' Q else K' (a.put oi.dst undef) w)
 (hs:AllReadyH P md l.toArray Q S fuel listed a w rs):AllReadyH P md l.toArray Q S fuel listed a w (i :: rs):=AllReadyH.cons (by simpa using hi) h hs
end
section
variable {P:Program} {Q:Exit→Act→World→Prop} {S:World→Prop}
theorem wpAnyH_skipL {md:Region.Mode} {l:List Oper} {i:Nat} {oi:Oper} {fuel:Nat} {listed:Array Bool} {a:Act} {w:World} (hi:l[i]?=some oi)
 (hs:Region.noSelect l.toArray=true) (hf:Region.free md l.toArray listed i=true) (hr:(Region.ready md l.toArray listed).contains i=true)
 (hQ:∀ c a w,Q (.panic c) (a.put oi.dst undef) w→Q (.panic c) a w) (hw:Region.wanted oi (yielded l.toArray a.tmps)=false) (hS:S w)
 (h:wpAnyH P md l.toArray Q S fuel (listed.setIfInBounds i true) (a.put oi.dst undef) w):wpAnyH P md l.toArray Q S (fuel + 1) listed a w:=
 wpAnyH_take (by simpa using hi) hs hf hr hQ (.inr ⟨hw,rfl⟩) hS h
end
theorem sp:(∀ {α:Type} (xs:List α) (i:Nat) (a:α),xs.toArray.setIfInBounds i a=(xs.set i a).toArray)∧(∀ {α:Type} (x:α) (xs:List α) (a:α),(x :: xs).set 0 a=a :: xs)∧(∀ {α:Type} (x:α) (xs:List α) (n:Nat) (a:α),(x :: xs).set (n + 1) a=x :: xs.set n a):=⟨fun _ _ _=>List.setIfInBounds_toArray _ _ _,fun _ _ _=>rfl,fun _ _ _ _=>rfl⟩
theorem tk {P:Program} {Q:Exit→Act→World→Prop} {S:World→Prop} {md:Region.Mode} {l:List Oper} (i:Nat) {oi:Oper} {v:Value} {fuel:Nat} {listed:Array Bool} {a:Act} {w:World} (hi:l[i]?=some oi)
 (h:wpAnyH P md l.toArray Q S fuel (listed.setIfInBounds i true) (a.put oi.dst v) w) (hs:Region.noSelect l.toArray=true:=by kernel_rfl) (hf:Region.free md l.toArray listed i=true:=by kernel_rfl) (hr:(Region.ready md l.toArray listed).contains i=true:=by kernel_rfl)
 (hw:Region.wanted oi (yielded l.toArray a.tmps)=true:=by rfl) (hy:∀ w,S w→(execOp a.eval oi).run P w=.ok (.value v) w:=by (intro w hSw;(try dsimp only at hSw);go_simp;try with_reducible rfl)) (hQ:∀ c a w,Q (.panic c) (a.put oi.dst v) w→Q (.panic c) a w:=by exact fun _ _ _ h=>h) (hS:S w:=by assumption) :
 wpAnyH P md l.toArray Q S (fuel + 1) listed a w:=wpAnyH_takeL hi hs hf hr hQ hw hy hS h
theorem sk {P:Program} {Q:Exit→Act→World→Prop} {S:World→Prop} {md:Region.Mode} {l:List Oper} (i:Nat) {oi:Oper} {fuel:Nat} {listed:Array Bool} {a:Act} {w:World} (hi:l[i]?=some oi)
 (h:wpAnyH P md l.toArray Q S fuel (listed.setIfInBounds i true) (a.put oi.dst undef) w) (hs:Region.noSelect l.toArray=true:=by kernel_rfl) (hf:Region.free md l.toArray listed i=true:=by kernel_rfl) (hr:(Region.ready md l.toArray listed).contains i=true:=by kernel_rfl)
 (hw:Region.wanted oi (yielded l.toArray a.tmps)=false:=by rfl) (hQ:∀ c a w,Q (.panic c) (a.put oi.dst undef) w→Q (.panic c) a w:=by exact fun _ _ _ h=>h) (hS:S w:=by assumption) :
 wpAnyH P md l.toArray Q S (fuel + 1) listed a w:=wpAnyH_skipL hi hs hf hr hQ hw hS h
end Go.Proofs.YtmncjibcoffmfaaGreat
/- Slices whose elements have several cells: read as lists, owned, appended to. Conditions: lengths within Go's bound. -/
namespace Go.Proofs.YtmncjibcoffmfaaGreat
open Go.RowKit

instance stable_below {wc:World}:Stable (fun w=>Below wc.heap.size wc w):=⟨fun hb h=>h.trans (hb.mono h.size)⟩
structure Enc (α:Type) (k:Nat) where
 cells:α→List Value
 len:∀ x,(cells x).length=k
 one:∀ x,∀ u ∈ cells x,u.oneCell'=true
structure EIM (P:Program) (t e:TypeId) (z:Value) (k bytes:Nat):Prop where
 ex:∃ i:TypeInfo,P.underlying t=some (.slice e)∧P.info? e=some i∧i.zero=some z∧i.size=k∧i.bytes=bytes
 zs:z.cells.size=k
 pos:1≤bytes
 kpos:0 < k
theorem EIM.mk' {P:Program} {t e:TypeId} {z:Value} {k bytes:Nat} (h1:P.underlying t=some (.slice e)) (h2:(P.info? e).map (fun i=>(i.zero,i.size,i.bytes))=some (some z,k,bytes)) (h3:z.cells.size=k) (h4:1≤bytes) (h5:0 < k):EIM P t e z k bytes:=by
 obtain ⟨i0,hi,hz0,hz1,hz2⟩:=info_parts h2
 exact ⟨⟨i0,h1,hi,hz0,hz1,hz2⟩,h3,h4,h5⟩
structure SlM {α:Type} [Inhabited α] {k:Nat} (E:Enc α k) (w:World) (A:Option Addr) (n:Nat) (xs:List α):Prop where
 len:xs.length=n
 big:n≤140737488351232
 at':0 < n→∃ b off,A=some ⟨b,off,none⟩∧b < w.heap.size∧∀ j i,j < n→i < k→w.cell? ⟨b,off + j * k + i,none⟩=(E.cells (nth xs j))[i]?
section
variable {α:Type} [Inhabited α] {k:Nat} {E:Enc α k} {w w':World} {A:Option Addr} {n:Nat} {xs:List α}
theorem SlM.nil (E:Enc α k) (w:World) (A:Option Addr):SlM E w A 0 []:=⟨rfl,by omega,fun h=>absurd h (by omega)⟩
theorem SlM.below (h:SlM E w A n xs) {B:Nat} (hB:w.heap.size≤B) (hb:Below B w w'):SlM E w' A n xs:=
 ⟨h.len,h.big,fun hn=>by
   obtain ⟨b,off,e,hlt,hc⟩:=h.at' hn
   exact ⟨b,off,e,Nat.lt_of_lt_of_le hlt hb.size,fun j i hj hi=>bc hb (hc j i hj hi) (Nat.lt_of_lt_of_le hlt hB)⟩⟩
instance:Stable (fun w=>SlM E w A n xs):=⟨fun hb h=>h.below (Nat.le_refl _) hb⟩
theorem SlM.turn {a b:World} {S:Nat→Prop} (h:SlM E a A n xs) (ht:Turn a b S) (hS:0 < n→∀ g o,A=some ⟨g,o,none⟩→¬ S g):SlM E b A n xs:=
 ⟨h.len,h.big,fun hn=>by
   obtain ⟨g,off,e,hlt,hc⟩:=h.at' hn
   refine ⟨g,off,e,Nat.lt_of_lt_of_le hlt ht.size,fun j i hj hi=>?_⟩
   have:b.cell? ⟨g,off + j * k + i,none⟩=a.cell? ⟨g,off + j * k + i,none⟩:=by simp only [World.cell?,ht.block g hlt (hS hn g off e)]
   exact this.trans (hc j i hj hi)⟩
end
def OwnM {α:Type} {k:Nat} (E:Enc α k) (w:World) (base:Nat) (e:TypeId) (A:Option Addr) (n c:Nat) (xs:List α):Prop:=w.ownsRow base e k (.slice A n c) n (xs.flatMap E.cells)
theorem flat_length {α:Type} {k:Nat} (E:Enc α k):∀ xs:List α,(xs.flatMap E.cells).length=xs.length * k
 | []=>by simp
 | x :: xs=>by rw [List.flatMap_cons,List.length_append,E.len,flat_length E xs,List.length_cons,Nat.add_mul,Nat.one_mul,Nat.add_comm]
theorem flat_nth {α:Type} [Inhabited α] {k:Nat} (E:Enc α k):∀ (xs:List α) (j i:Nat),j < xs.length→i < k→(xs.flatMap E.cells)[j * k + i]?=(E.cells (nth xs j))[i]?
 | [],j,_,h,_=>absurd h (by simp)
 | x :: xs,0,i,_,hi=>by
   rw [List.flatMap_cons,Nat.zero_mul,Nat.zero_add,List.getElem?_append_left (by rw [E.len];exact hi)]
   rfl
 | x :: xs,j + 1,i,h,hi=>by
   rw [List.flatMap_cons,Nat.add_mul,Nat.one_mul,List.getElem?_append_right (by rw [E.len];omega),E.len,show j * k + k + i - k=j * k + i by omega,flat_nth E xs j i (by simpa using h) hi]
   rfl
section
variable {α:Type} {k:Nat} {E:Enc α k} {w w':World} {base:Nat} {e:TypeId} {A:Option Addr} {n c:Nat} {xs:List α}
theorem OwnM.length (hk:0 < k) (h:OwnM E w base e A n c xs):xs.length=n:=by
 have h1:=h.1
 rw [flat_length] at h1
 exact Nat.eq_of_mul_eq_mul_right hk h1
theorem OwnM.nil (E:Enc α k) (w:World) (base:Nat) (e:TypeId):OwnM E w base e none 0 0 []:=World.ownsRow_nil _ _ _ _
theorem OwnM.mono (h:OwnM E w base e A n c xs) {base':Nat} (hb:base'≤base):OwnM E w base' e A n c xs:=by
 refine ⟨h.1,?_⟩
 rcases h.2 with h2 | ⟨g,cap,cur,h1,hg,r⟩
 ·exact .inl h2
 ·exact .inr ⟨g,cap,cur,h1,Nat.le_trans hb hg,r⟩
theorem OwnM.below (h:OwnM E w base e A n c xs) {B:Nat} (hB:w.heap.size≤B) (hb:Below B w w'):OwnM E w' base e A n c xs:=by
 refine ⟨h.1,?_⟩
 rcases h.2 with h2 | ⟨g,cap,cur,h1,hg,hh,r⟩
 ·exact .inl h2
 ·exact .inr ⟨g,cap,cur,h1,hg,(hb.block g (Nat.lt_of_lt_of_le (Array.getElem?_eq_some_iff.1 hh).1 hB)).trans hh,r⟩
theorem OwnM.alloc (h:OwnM E w base e A n c xs) (o:Obj):OwnM E (w.alloc o) base e A n c xs:=World.ownsRow.alloc h o
instance:Stable (fun w=>OwnM E w base e A n c xs):=⟨fun hb h=>h.below (Nat.le_refl _) hb⟩
theorem OwnM.geT (h:OwnM E w base e A n c xs) {g o:Nat} (e1:A=some ⟨g,o,none⟩):base≤g∧g < w.heap.size:=by
 rcases h.2 with ⟨hv,_⟩ | ⟨g',cap,cur,hv,hb,hg,_⟩
 ·injection hv with hv;rw [e1] at hv;cases hv
 ·injection hv with hv
  rw [e1] at hv
  injection hv with hv
  injection hv with hv
  subst hv
  exact ⟨hb,(Array.getElem?_eq_some_iff.1 hg).1⟩
theorem OwnM.turn {a b:World} {S:Nat→Prop} (h:OwnM E a base e A n c xs) (ht:Turn a b S) (hS:∀ g o,A=some ⟨g,o,none⟩→¬ S g):OwnM E b base e A n c xs:=by
 refine ⟨h.1,?_⟩
 rcases h.2 with h2 | ⟨g,cap,cur,h1,hb,hh,r⟩
 ·exact .inl h2
 ·have e1:A=some ⟨g,0,none⟩:=by injection h1
  exact .inr ⟨g,cap,cur,h1,hb,(ht.block g (Array.getElem?_eq_some_iff.1 hh).1 (hS g 0 e1)).trans hh,r⟩
theorem OwnM.sl [Inhabited α] (hk:0 < k) (h:OwnM E w base e A n c xs) (hbig:n≤140737488351232):SlM E w A n xs:=by
 have hl:=h.length hk
 refine ⟨hl,hbig,fun hn=>?_⟩
 rcases h.2 with ⟨_,h2⟩ | ⟨g,cap,cur,h1,hb,hg,_,_,hs,ht⟩
 ·omega
 ·have e1:A=some ⟨g,0,none⟩:=by injection h1
  refine ⟨g,0,e1,(Array.getElem?_eq_some_iff.1 hg).1,fun j i hj hi=>?_⟩
  rw [cell_of_row w g _ _ e (0,0) hg,Nat.zero_add]
  have h3:j * k + i < n * k:=by
   have:(j + 1) * k≤n * k:=Nat.mul_le_mul_right _ hj
   rw [Nat.add_mul,Nat.one_mul] at this
   omega
  have h4:(cur.toList.take (n * k))[j * k + i]?=cur.toList[j * k + i]?:=by rw [List.getElem?_take,if_pos h3]
  rw [ht,flat_nth E xs j i (by omega) hi] at h4
  rw [h4]
  simp
end
section
variable {P:Program} (w:World)
theorem wpList_appM {α:Type} {k:Nat} {t e:TypeId} {z:Value} {bytes:Nat} (I:EIM P t e z k bytes) (E:Enc α k) {ops:Array Oper} {rest:List Oper} {o:Oper} {a:Act} {Q:Exit→Act→World→Prop} (hgd:o.guard=none) (s x:Operand)
 (ho:o.op=.call { callee:=.builtin .append,args:=#[s,x],argTypes:=#[t,t] }) (base:Nat) (A:Option Addr) (n c:Nat) (xs:List α) (hs:a.eval s=.slice A n c) (hown:OwnM E w base e A n c xs)
 (ad:Addr) (d:Nat) (y:α) (hx:a.eval x=.slice (some ad) 1 d) (hy:∀ j u,(E.cells y)[j]?=some u→w.cell? (ad.add j)=some u) (hbytes:(n + 1) * bytes≤140737488355328) (hbase:base≤w.heap.size)
 (h:∀ A' c' w',OwnM E w' base e A' (n + 1) c' (xs ++ [y])→w.grownBy w' (Value.slice A n c).ownBlock→Below base w w' →
   ((Value.slice A' (n + 1) c').ownBlock=(Value.slice A n c).ownBlock ∨ (Value.slice A' (n + 1) c').ownBlock=some w.heap.size)→wpList P ops Q rest (a.put o.dst (.slice A' (n + 1) c')) w'):wpList P ops Q (o :: rest) a w:=by
 obtain ⟨⟨i,e1,e2,e3,e4,e5⟩,hz,hp,hk⟩:=I
 refine wpList_plain hgd fun K hK=>?_
 have hrow:∀ q,(Value.slice A n c).ownBlock=some q→base≤q:=fun q hq=>(World.ownsRow.lt hown q hq).1
 have h63:n + 1≤maxLen:=by
  have:(n + 1) * 1≤(n + 1) * bytes:=Nat.mul_le_mul_left _ hp
  unfold maxLen;omega
 obtain ⟨v',w',hrun,h2,h3,_,h5⟩:=run_append_own_at (P:=P) w base t o.type e i z k bytes e1 e2 e3 e4 e5 hz hk (.slice A n c) n (xs.flatMap E.cells) hown ad 1 d (E.cells y) (by rw [E.len,Nat.one_mul]) hy (E.one y) h63 hbytes hbase
 have hv:∃ A' c',v'=.slice A' (n + 1) c':=by
  rcases h2.2 with ⟨rfl,h0⟩ | ⟨g,cap,cur,rfl,_⟩
  ·omega
  ·exact ⟨_,cap,rfl⟩
 obtain ⟨A',c',rfl⟩:=hv
 unfold Oper.wp execOp
 simp only [ho,resolve,invoke,builtin,Sem.run_bind,Sem.run_pure,Result.andThen_ok,List.map_toArray,List.map_cons,List.map_nil,hs,hx,hrun]
 refine hK _ _ (h A' c' w' ?_ h3 ((Below.refl _ _).grown h3 hbase hrow) h5)
 unfold OwnM
 rw [List.flatMap_append]
 simpa using h2
end
theorem newM {α:Type} {k:Nat} (E:Enc α k) (w:World) (e:TypeId) (y:α):∀ j u,(E.cells y)[j]?=some u→(w.alloc (.cells (E.cells y).toArray e)).cell? ((⟨w.heap.size,0,none⟩:Addr).add j)=some u:=fun j u h=>by
 rw [show (⟨w.heap.size,0,none⟩:Addr).add j=⟨w.heap.size,0 + j,none⟩ from Addr.add_lit _ _ _,cell_of_row _ _ _ _ _ _ (heap_alloc_new w _),Nat.zero_add]
 simpa using h
end Go.Proofs.YtmncjibcoffmfaaGreat
/- Plain law: what is come to from some points along the ways; rising lists of points. No condition. -/
namespace Go.Proofs.YtmncjibcoffmfaaGreat

inductive Up (W:List (List Nat)) (S:Nat→Prop):Nat→Prop
 | base {x:Nat}:S x→Up W S x
 | step {x p:Nat}:Up W S x→p ∈ nth W x→Up W S p
theorem Up.mono {W:List (List Nat)} {S T:Nat→Prop} (h:∀ x,S x→T x) {x:Nat} (hx:Up W S x):Up W T x:=by
 induction hx with
 | base hs=>exact .base (h _ hs)
 | step _ hp ih=>exact .step ih hp
theorem Up.trans {W:List (List Nat)} {S T:Nat→Prop} (h:∀ x,S x→Up W T x) {x:Nat} (hx:Up W S x):Up W T x:=by
 induction hx with
 | base hs=>exact h _ hs
 | step _ hp ih=>exact .step ih hp
theorem Up.lt {W:List (List Nat)} {S:Nat→Prop} (hg:GoodG W) (hs:∀ x,S x→x < W.length) {x:Nat} (hx:Up W S x):x < W.length:=by
 induction hx with
 | base h=>exact hs _ h
 | step _ hp ih=>exact hg _ ih _ hp

abbrev Rising (l:List Nat):Prop:=l.Pairwise (· < ·)

open Classical in
noncomputable def ptsOf (n:Nat) (P:Nat→Prop):List Nat:=(List.range n).filter fun x=>decide (P x)
noncomputable def upList (W:List (List Nat)) (S:List Nat):List Nat:=ptsOf W.length (Up W (· ∈ S))

def swapL (l:List Nat) (i j:Nat):List Nat:=(l.set i (nth l j)).set j (nth l i)
theorem swapL_length (l:List Nat) (i j:Nat):(swapL l i j).length=l.length:=by unfold swapL;simp
theorem swapL_perm {l:List Nat} {i j:Nat} (hi:i < l.length) (hj:j < l.length):(swapL l i j).Perm l:=by
 rw [List.perm_iff_count]
 intro a
 unfold swapL
 rw [List.count_set (by simpa using hj),List.count_set hi]
 by_cases hij:i=j
 ·subst hij
  rw [List.getElem_set_self,nth_eq hi]
  have:l[i] == a→0 < l.count a:=fun h=>by rw [List.count_pos_iff];rw [beq_iff_eq] at h;rw [← h];exact List.getElem_mem hi
  by_cases h:(l[i] == a)=true
  ·have:=this h;simp only [h,if_true];omega
  ·simp only [h,Bool.false_eq_true,if_false];omega
 ·rw [List.getElem_set_ne hij,nth_eq hi,nth_eq hj]
  have h1:l[i] == a→0 < l.count a:=fun h=>by rw [List.count_pos_iff];rw [beq_iff_eq] at h;rw [← h];exact List.getElem_mem hi
  by_cases e1:(l[i] == a)=true <;> by_cases e2:(l[j] == a)=true <;> simp only [e1,e2,if_true,Bool.false_eq_true,if_false]
  ·have:=h1 e1;omega
  ·have:=h1 e1;omega
  ·omega
  ·omega
end Go.Proofs.YtmncjibcoffmfaaGreat
/- Slices of slices that read as lists of lists; numbers that are points. No condition. -/
namespace Go.Proofs.YtmncjibcoffmfaaGreat
open Go.RowKit

abbrev eN:Nat→Value:=fun m=>Value.int .i64 (m:Int)
abbrev eS:Option Addr × Nat × Nat→Value:=fun v=>Value.slice v.1 v.2.1 v.2.2
theorem one_eN (m:Nat):(eN m).oneCell'=true:=rfl
theorem one_eS (v:Option Addr × Nat × Nat):(eS v).oneCell'=true:=rfl

structure Rows {α:Type} [Inhabited α] (enc:α→Value) (w:World) (A:Option Addr) (n:Nat) (L:List (List α)):Prop where
 ex:∃ vs:List (Option Addr × Nat × Nat),Sl eS w A n vs∧∀ i,i < n→Sl enc w (nth vs i).1 (nth vs i).2.1 (nth L i)∧(nth vs i).2.1≤(nth vs i).2.2
 len:L.length=n
section
variable {α:Type} [Inhabited α] {enc:α→Value} {w w':World} {A:Option Addr} {n:Nat} {L:List (List α)}
theorem Rows.below (h:Rows enc w A n L) {B:Nat} (hB:w.heap.size≤B) (hb:Below B w w'):Rows enc w' A n L:=by
 obtain ⟨⟨vs,h1,h2⟩,h3⟩:=h
 exact ⟨⟨vs,h1.below hB hb,fun i hi=>⟨(h2 i hi).1.below hB hb,(h2 i hi).2⟩⟩,h3⟩
instance:Stable (fun w=>Rows enc w A n L):=⟨fun hb h=>h.below (Nat.le_refl _) hb⟩
theorem Rows.drewN (h:Rows enc w A n L) (k:Nat):Rows enc (w.drewN k) A n L:=h.below (Nat.le_refl _) (below_refl_drewN _ _ _)
theorem Rows.big (h:Rows enc w A n L):n≤140737488351232:=by obtain ⟨⟨vs,h1,_⟩,_⟩:=h;exact h1.big
theorem Rows.row (h:Rows enc w A n L) {i:Nat} (hi:i < n):∃ b off B m d,A=some ⟨b,off,none⟩∧b < w.heap.size∧w.cell? ⟨b,off + i,none⟩=some (.slice B m d)∧Sl enc w B m (nth L i):=by
 obtain ⟨⟨vs,h1,h2⟩,_⟩:=h
 obtain ⟨b,off,e,hlt,hc⟩:=h1.at' (by omega)
 exact ⟨b,off,(nth vs i).1,(nth vs i).2.1,(nth vs i).2.2,e,hlt,hc i hi,(h2 i hi).1⟩
theorem Rows.rowC (h:Rows enc w A n L) {i:Nat} (hi:i < n):∃ b off B m d,A=some ⟨b,off,none⟩∧b < w.heap.size∧w.cell? ⟨b,off + i,none⟩=some (.slice B m d)∧Sl enc w B m (nth L i)∧m≤d:=by
 obtain ⟨⟨vs,h1,h2⟩,_⟩:=h
 obtain ⟨b,off,e,hlt,hc⟩:=h1.at' (by omega)
 exact ⟨b,off,(nth vs i).1,(nth vs i).2.1,(nth vs i).2.2,e,hlt,hc i hi,h2 i hi⟩
theorem Rows.take (h:Rows enc w A n L) {k:Nat} (hk:k≤n):Rows enc w A k (L.take k):=by
 obtain ⟨⟨vs,h1,h2⟩,h3⟩:=h
 refine ⟨⟨vs.take k,⟨by rw [List.length_take,h1.len];omega,by have:=h1.big;omega,fun hp=>?_⟩,fun i hi=>?_⟩,by rw [List.length_take,h3];omega⟩
 ·obtain ⟨b,off,e,hlt,hc⟩:=h1.at' (by omega)
  exact ⟨b,off,e,hlt,fun j hj=>by rw [hc j (by omega),nth_take hj]⟩
 ·rw [nth_take hi,nth_take hi];exact h2 i (by omega)
end
def Fr (base:Nat) (A:Option Addr):Prop:=∀ b off,A=some ⟨b,off,none⟩→base≤b
theorem Fr.mono {base base':Nat} {A:Option Addr} (h:Fr base A) (hb:base'≤base):Fr base' A:=fun b off e=>Nat.le_trans hb (h b off e)
theorem OwnR.fr {α:Type} {enc:α→Value} {w:World} {base:Nat} {e:TypeId} {A:Option Addr} {n c:Nat} {xs:List α} (h:OwnR enc w base e A n c xs):Fr base A:=by
 intro b off e1
 rcases h.2 with ⟨hv,_⟩ | ⟨g,cap,cur,hv,hb,_⟩
 ·injection hv with e2;rw [e1] at e2;cases e2
 ·injection hv with e2;rw [e1] at e2;injection e2 with e2;injection e2 with e2;omega
theorem Sl.setLow {α:Type} [Inhabited α] {enc:α→Value} {w:World} {A:Option Addr} {n:Nat} {xs:List α} {base:Nat} (h:Sl enc w A n xs) (hf:Fr base A) {p:Addr} (hp:p.block < base) (v:Value):Sl enc (w.setCell p v) A n xs:=
 ⟨h.len,h.big,fun hn=>by
   obtain ⟨b,off,e,hlt,hc⟩:=h.at' hn
   have hb:=hf b off e
   refine ⟨b,off,e,by simpa [World.setCell] using hlt,fun j hj=>?_⟩
   rw [← hc j hj]
   have hne:b ≠ p.block:=by omega
   simp only [World.cell?,Below.heap_setCell w p v b hne]⟩
def RowsF {α:Type} [Inhabited α] (base:Nat) (enc:α→Value) (w:World) (A:Option Addr) (n:Nat) (L:List (List α)):Prop:=
 (∃ vs:List (Option Addr × Nat × Nat),Sl eS w A n vs∧Fr base A∧∀ i,i < n→Sl enc w (nth vs i).1 (nth vs i).2.1 (nth L i)∧Fr base (nth vs i).1∧(nth vs i).2.1≤(nth vs i).2.2)∧L.length=n
section
variable {α:Type} [Inhabited α] {enc:α→Value} {w w':World} {A:Option Addr} {n base:Nat} {L:List (List α)}
theorem RowsF.rows (h:RowsF base enc w A n L):Rows enc w A n L:=by
 obtain ⟨⟨vs,h1,_,h3⟩,h4⟩:=h
 exact ⟨⟨vs,h1,fun i hi=>⟨(h3 i hi).1,(h3 i hi).2.2⟩⟩,h4⟩
theorem RowsF.mono (h:RowsF base enc w A n L) {base':Nat} (hb:base'≤base):RowsF base' enc w A n L:=by
 obtain ⟨⟨vs,h1,h2,h3⟩,h4⟩:=h
 exact ⟨⟨vs,h1,h2.mono hb,fun i hi=>⟨(h3 i hi).1,(h3 i hi).2.1.mono hb,(h3 i hi).2.2⟩⟩,h4⟩
theorem RowsF.below (h:RowsF base enc w A n L) {B:Nat} (hB:w.heap.size≤B) (hb:Below B w w'):RowsF base enc w' A n L:=by
 obtain ⟨⟨vs,h1,h2,h3⟩,h4⟩:=h
 exact ⟨⟨vs,h1.below hB hb,h2,fun i hi=>⟨(h3 i hi).1.below hB hb,(h3 i hi).2⟩⟩,h4⟩
instance:Stable (fun w=>RowsF base enc w A n L):=⟨fun hb h=>h.below (Nat.le_refl _) hb⟩
end
theorem Sl.toNat {w:World} {A:Option Addr} {n:Nat} {l:List Int} (h:Sl (Value.int .i64) w A n l) (hl:∀ p,p ∈ l→0≤p):Sl eN w A n (l.map Int.toNat):=
 ⟨by rw [List.length_map];exact h.len,h.big,fun hp=>by
   obtain ⟨b,off,e,hlt,hc⟩:=h.at' hp
   refine ⟨b,off,e,hlt,fun j hj=>?_⟩
   have hj':j < l.length:=by rw [h.len];exact hj
   rw [hc j hj,nth_map _ hj']
   have:=hl _ (nth_mem hj')
   show some (Value.int .i64 _)=some (Value.int .i64 _)
   congr 2
   omega⟩
theorem Sl.toInt {w:World} {A:Option Addr} {n:Nat} {l:List Nat} (h:Sl eN w A n l):Sl (Value.int .i64) w A n (l.map fun m:Nat=>(m:Int)):=
 ⟨by rw [List.length_map];exact h.len,h.big,fun hp=>by
   obtain ⟨b,off,e,hlt,hc⟩:=h.at' hp
   refine ⟨b,off,e,hlt,fun j hj=>?_⟩
   rw [hc j hj,nth_map _ (by rw [h.len];exact hj)]⟩
theorem Rows.toNat {w:World} {A:Option Addr} {n:Nat} {Ps:List (List Int)} (h:Rows (Value.int .i64) w A n Ps) (hr:inR Ps=true):Rows eN w A n (toG Ps):=by
 have hl:=h.len
 obtain ⟨⟨vs,h1,h2⟩,h3⟩:=h
 refine ⟨⟨vs,h1,fun i hi=>?_⟩,by rw [toG_length];exact h3⟩
 rw [nth_toG (by omega)]
 exact ⟨(h2 i hi).1.toNat fun p hp=>(inR_row hr (by omega) p hp).1,(h2 i hi).2⟩
def castL (l:List Nat):List Int:=l.map fun m:Nat=>(m:Int)
theorem mem_castL {l:List Nat} {x:Nat}:((x:Int) ∈ castL l) ↔ x ∈ l:=by
 unfold castL;rw [List.mem_map]
 constructor
 ·rintro ⟨y,hy,e⟩
  have:y=x:=by omega
  rw [← this];exact hy
 ·exact fun h=>⟨x,h,rfl⟩
end Go.Proofs.YtmncjibcoffmfaaGreat
/- A region that draws its order, in a round of a range over a function: walked as anywhere. Conditions: no defer statement in it. -/
namespace Go.Proofs.YtmncjibcoffmfaaGreat
open Go.RowKit

def noDefer (ops:Array Oper):Bool:=(List.range ops.size).all fun j=>match ops[j]? with
 | some o=>match o.op with | .defer _=>false | _=>true
 | none=>true
section
variable {P:Program} {ops:Array Oper} {Q:Exit→Act→World→Prop} {S:World→Prop} {o:Oper} {md:Region.Mode}
theorem rowsIn_of {n l:Nat} {row:String} {args:Array Value} {w:World} {R:Value→World→Prop} (h:_root_.Go.Rows P row args w R):RowsIn (Fence.wide.inRound l) n P row args w R:=fun c cs _=>by
 obtain ⟨v,w',hr,hs⟩:=h c cs
 exact ⟨v,w',hr,stepsIn_wide.2 hs⟩
theorem operIn_of {n l:Nat} {a:Act} {w:World} {K:Act→World→Prop} (hd:∀ c,o.op ≠ .defer c) (h:o.wp P a w K Q):o.wpIn (Fence.wide.inRound l) n P a w K Q:=by
 refine ⟨fun _ _=>trivial,?_⟩
 rw [Oper.semAt_eq _ _ _ hd]
 unfold Oper.wp at h
 generalize (execOp a.eval o).run P w=r at *
 rcases r with ⟨x,w'⟩ | ⟨y,w'⟩
 ·cases x <;> first
   | exact h
   | exact ⟨(fun h0=>by cases h0),CallsIn.inRound l (callsIn_wide.2 h)⟩
   | exact ⟨(fun h0=>by cases h0),rowsIn_of h⟩
   | exact h.elim
 ·cases y <;> exact h
end
end Go.Proofs.YtmncjibcoffmfaaGreat
/- A map with integer elements, read as a function of its keys: look-ups and stores at the operation. No condition. -/
namespace Go.Proofs.YtmncjibcoffmfaaGreat
open Go.RowKit Go.Maps

theorem run_makeMap_some {P:Program} {t k e:TypeId} (ht:P.underlying t=some (.map k e)) (n:Int) (w:World):(Instr.makeMap t (some (.int .i64 n))).run P w=.ok (.map (some w.heap.size)) (w.alloc (.map #[] 0)):=by
 simp [Instr.makeMap,run_underlying ht,asInt]
 rfl
def MapF (P:Program) (k e:TypeId) (w:World) (b n:Nat) (f:Lit→Option Int):Prop:=
 ∃ D:DataW Unit,w.ownsMap P k (plainElem P e) b n D∧∀ kl,Maps.has D kl=(f kl).isSome∧D.atKey kl (.lit (.int .i64 0))=.lit (.int .i64 ((f kl).getD 0))
open Classical in
noncomputable def putF (f:Lit→Option Int) (kl:Lit) (v:Int):Lit→Option Int:=fun x=>if x=kl then some v else f x

section
variable {P:Program} {k e:TypeId} {w w':World} {b n:Nat} {f:Lit→Option Int}
theorem MapF.made (w:World) (P:Program) (k e:TypeId):MapF P k e (w.alloc (.map #[] 0)) w.heap.size 0 (fun _=>none):=⟨.map [],World.ownsMap_made _ _ _ _,fun _=>⟨rfl,rfl⟩⟩
theorem MapF.lt (h:MapF P k e w b n f):b < w.heap.size:=by obtain ⟨D,h,_⟩:=h;exact h.lt
theorem MapF.mono (h:MapF P k e w b n f) {m:Nat} (hn:n≤m):MapF P k e w b m f:=by obtain ⟨D,h,q⟩:=h;exact ⟨D,h.mono hn,q⟩
theorem MapF.grown {row:Option Nat} (h:MapF P k e w b n f) (hg:w.grownBy w' row) (hne:some b ≠ row):MapF P k e w' b n f:=by obtain ⟨D,h,q⟩:=h;exact ⟨D,h.kept hg hne,q⟩
theorem MapF.below (h:MapF P k e w b n f) (hb:Below w.heap.size w w'):MapF P k e w' b n f:=h.grown (below_grown hb none) (by simp)
theorem MapF.setCell (h:MapF P k e w b n f) {a:Addr} (ha:b ≠ a.block) (u:Value):MapF P k e (w.setCell a u) b n f:=by obtain ⟨D,h,q⟩:=h;exact ⟨D,h.setCell ha u,q⟩
instance:Stable (fun w=>MapF P k e w b n f):=⟨fun hb h=>h.below hb⟩
theorem MapF.congr (h:MapF P k e w b n f) {g:Lit→Option Int} (hg:∀ x,f x=g x):MapF P k e w b n g:=by
 obtain ⟨D,h,q⟩:=h;exact ⟨D,h,fun kl=>by rw [← hg];exact q kl⟩
end

section
variable {P:Program} (w:World) {ops:Array Oper} {rest:List Oper} {o:Oper} {a:Act} {Q:Exit→Act→World→Prop}
theorem wpList_look_F (hg:o.guard=none) (m x:Operand) (t:TypeId) (hop:o.op=Op.lookup t m x false)
 (k e:TypeId) (K:Keyed P k) (ht:P.underlying t=some (.map k e)) (he:P.underlying e=some (.int .i64)) (hz:(zeroValue e).run P w=.ok (.int .i64 0) w) (b n:Nat) (f:Lit→Option Int)
 (hm:a.eval m=.map (some b)) (hown:MapF P k e w b n f) (key:Value) (kl:Lit) (hx:a.eval x=key) (hkey:keyOf P k key=some kl)
 (hK:wpList P ops Q rest (a.put o.dst (.int .i64 ((f kl).getD 0))) w):wpList P ops Q (o :: rest) a w:=by
 obtain ⟨D,hD,q⟩:=hown
 refine wpList_lookup_own_int w hg m x t hop k e .i64 K ht he hz b n D hm hD key kl hx hkey fun c hat _=>?_
 rw [(q kl).2] at hat
 injection hat with h1;injection h1 with _ h2
 rw [← h2];exact hK
theorem wpList_store_F (hg:o.guard=none) (m x v:Operand) (t:TypeId) (hop:o.op=Op.mapUpdate t m x v)
 (k e:TypeId) (K:Keyed P k) (ht:P.underlying t=some (.map k e)) (he:P.underlying e=some (.int .i64)) (b n:Nat) (f:Lit→Option Int)
 (hm:a.eval m=.map (some b)) (hown:MapF P k e w b n f) (hn:n < maxLen) (key:Value) (kl:Lit) (hx:a.eval x=key) (c:Int) (hv:a.eval v=.int .i64 c) (hkey:keyOf P k key=some kl) (hwf:(Lit.int .i64 c).wf=true)
 (hK:∀ w',MapF P k e w' b (n + 1) (putF f kl c)→w.grownBy w' (some b)→wpList P ops Q rest (a.put o.dst undef) w'):wpList P ops Q (o :: rest) a w:=by
 obtain ⟨D,hD,q⟩:=hown
 refine wpList_mapUpdate_own w hg m x v t hop k e K ht (plainElem P e) b n D hm hD hn key _ kl hx hv hkey _ [] (plainElem_int he hwf) fun w' h1 h2=>hK w' ⟨_,h1,fun y=>?_⟩ h2
 unfold putF
 by_cases hy:y=kl
 ·subst hy
  rw [if_pos rfl,has_put_same hD.isMap (K.key hkey),atKey_put_same hD.isMap (K.key hkey)]
  exact ⟨rfl,rfl⟩
 ·rw [if_neg hy,has_put_other hy,atKey_put_other hy]
  exact q y
end

def liftI (g:Int→Option Int):Lit→Option Int
 | .int .i64 x=>g x
 | _=>none
def putI (g:Int→Option Int) (x v:Int):Int→Option Int:=fun y=>if y=x then some v else g y
theorem putF_lift (g:Int→Option Int) (x v:Int) (y:Lit):putF (liftI g) (.int .i64 x) v y=liftI (putI g x v) y:=by
 unfold putF
 by_cases h:y=.int .i64 x
 ·subst h;rw [if_pos rfl];show some v=putI g x v x;unfold putI;rw [if_pos rfl]
 ·rw [if_neg h]
  unfold liftI
  split
  ·rename_i z
   unfold putI
   rw [if_neg (fun e=>h (by rw [e]))]
  ·rfl
def MapI (P:Program) (k e:TypeId) (w:World) (b n:Nat) (g:Int→Option Int):Prop:=MapF P k e w b n (liftI g)
section
variable {P:Program} {k e:TypeId} {w w':World} {b n:Nat} {g:Int→Option Int}
theorem MapI.made (w:World) (P:Program) (k e:TypeId):MapI P k e (w.alloc (.map #[] 0)) w.heap.size 0 (fun _=>none):=(MapF.made w P k e).congr fun x=>by unfold liftI;split <;> rfl
theorem MapI.lt (h:MapI P k e w b n g):b < w.heap.size:=MapF.lt h
theorem MapI.mono (h:MapI P k e w b n g) {m:Nat} (hn:n≤m):MapI P k e w b m g:=MapF.mono h hn
theorem MapI.grown {row:Option Nat} (h:MapI P k e w b n g) (hg:w.grownBy w' row) (hne:some b ≠ row):MapI P k e w' b n g:=MapF.grown h hg hne
theorem MapI.below (h:MapI P k e w b n g) (hb:Below w.heap.size w w'):MapI P k e w' b n g:=MapF.below h hb
theorem MapI.setCell (h:MapI P k e w b n g) {a:Addr} (ha:b ≠ a.block) (u:Value):MapI P k e (w.setCell a u) b n g:=MapF.setCell h ha u
theorem MapI.congr (h:MapI P k e w b n g) {f:Int→Option Int} (hg:∀ x,g x=f x):MapI P k e w b n f:=MapF.congr h fun x=>by unfold liftI;split <;> simp [hg]
instance:Stable (fun w=>MapI P k e w b n g):=⟨fun hb h=>MapI.below h hb⟩
end
section
variable {P:Program} (w:World) {ops:Array Oper} {rest:List Oper} {o:Oper} {a:Act} {Q:Exit→Act→World→Prop}
theorem wpList_look_I (hg:o.guard=none) (m x:Operand) (t:TypeId) (hop:o.op=Op.lookup t m x false)
 (k e:TypeId) (hk:P.underlying k=some (.int .i64)) (ht:P.underlying t=some (.map k e)) (he:P.underlying e=some (.int .i64)) (hz:(zeroValue e).run P w=.ok (.int .i64 0) w) (b n:Nat) (g:Int→Option Int)
 (hm:a.eval m=.map (some b)) (hown:MapI P k e w b n g) (key:Int) (hx:a.eval x=.int .i64 key) (hwf:(Lit.int .i64 key).wf=true)
 (hK:wpList P ops Q rest (a.put o.dst (.int .i64 ((g key).getD 0))) w):wpList P ops Q (o :: rest) a w:=
 wpList_look_F w hg m x t hop k e (int_keyed hk) ht he hz b n _ hm hown _ (.int .i64 key) hx (keyOf_int_mk hk hwf) hK
theorem wpList_store_I (hg:o.guard=none) (m x v:Operand) (t:TypeId) (hop:o.op=Op.mapUpdate t m x v)
 (k e:TypeId) (hk:P.underlying k=some (.int .i64)) (ht:P.underlying t=some (.map k e)) (he:P.underlying e=some (.int .i64)) (b n:Nat) (g:Int→Option Int)
 (hm:a.eval m=.map (some b)) (hown:MapI P k e w b n g) (hn:n < maxLen) (key:Int) (hx:a.eval x=.int .i64 key) (hwf:(Lit.int .i64 key).wf=true) (c:Int) (hv:a.eval v=.int .i64 c) (hwc:(Lit.int .i64 c).wf=true)
 (hK:∀ w',MapI P k e w' b (n + 1) (putI g key c)→w.grownBy w' (some b)→wpList P ops Q rest (a.put o.dst undef) w'):wpList P ops Q (o :: rest) a w:=
 wpList_store_F w hg m x v t hop k e (int_keyed hk) ht he b n _ hm hown hn _ (.int .i64 key) hx c hv (keyOf_int_mk hk hwf) hwc fun w' h1 h2=>hK w' (h1.congr (putF_lift g key c)) h2
end
end Go.Proofs.YtmncjibcoffmfaaGreat
/- dag.fits, walked: are all parents points, does none stand twice. Condition: the parents read. -/
namespace Go.Proofs.YtmncjibcoffmfaaGreat
open Go.RowKit

theorem zeroI (w:World):(zeroValue 3).run Tryz.prog w=.ok (.int .i64 0) w:=by kernel_rfl
def fitsC (Ps:List (List Int)):Int:=if inR Ps=false then 3 else if Ps.any dup=true then 40 else 0
theorem fitsC_3 {Ps:List (List Int)} {k:Nat} (h:k < Ps.length) {q:Nat} (hq:q < (nth Ps k).length) (hb:¬ (0≤nth (nth Ps k) q∧nth (nth Ps k) q < (Ps.length:Int))):fitsC Ps=3:=by
 unfold fitsC;rw [if_pos]
 refine all_down _ h ?_
 refine all_down _ hq ?_
 simp only [Bool.and_eq_false_iff,decide_eq_false_iff_not]
 omega
theorem fitsC_40 {Ps:List (List Int)} (hr:inR Ps=true) {k:Nat} (h:k < Ps.length) {q:Nat} (hq:q < (nth Ps k).length) (hd:dupAt (nth Ps k) q=true):fitsC Ps=40:=by
 unfold fitsC;rw [if_neg (by rw [hr];simp),if_pos (any_upp _ h (dup_up hq hd))]
theorem fitsC_0 {Ps:List (List Int)} (hr:inR Ps=true) (hd:Ps.any dup=false):fitsC Ps=0:=by
 unfold fitsC;rw [if_neg (by rw [hr];simp),if_neg (by rw [hd];simp)]
def seenI (l:List Int):Int→Option Int:=fun x=>if x ∈ l then some 1 else none
theorem seenI_snoc (l:List Int) (x y:Int):putI (seenI l) x 1 y=seenI (l ++ [x]) y:=by
 unfold putI seenI
 by_cases h:y=x
 ·subst h;simp
 ·simp [h]
theorem seenI_val (l:List Int) (x:Int):(seenI l x).getD 0=if l.contains x then 1 else 0:=by
 unfold seenI
 by_cases h:x ∈ l
 ·rw [if_pos h,if_pos (by simpa using h)];rfl
 ·rw [if_neg h,if_neg (by simpa using h)];rfl

set_option maxRecDepth 100000 in
set_option maxHeartbeats 1600000 in
theorem fits_any (A:Option Addr) (n c:Nat) (Ps:List (List Int)) (w:World) (h:Rows (Value.int .i64) w A n Ps) :
 Calls Tryz.prog 130 #[.slice A n c] w fun e w'=>e=.returned (.int .i64 (fitsC Ps))∧Below w.heap.size w w':=by
 have hbig:=h.big
 have HI:=Lib.hid h.len
 obtain ⟨wa,hwa⟩:∃ wa:World,wa=w:=⟨_,rfl⟩
 subst hwa
 have hmm:=fun (n:Int) (w:World)=>run_makeMap_some (P:=Tryz.prog) Tryz.underlying80 n w
 go_enter Tryz.func130,Tryz.ntmps130
 go_wp2_with fail
 go_loopw [14] (fun i wr=>∃ k:Nat,i=.int .i64 (k:Nat)∧k≤n∧(Ps.take k).all (inRow n)=true∧wr=wa) (fun i _=>n - (intOf i).toNat)
 case atStart=>exact ⟨0,rfl,Nat.zero_le _,by simp,rfl⟩
 case round =>
  obtain ⟨k,rfl,hk,hall,hwr⟩:=hrel
  have hwr:=hwr.symm
  subst hwr
  by_cases hlt:k < n
  ·obtain ⟨b,off,B,m,d,rfl,_,g1,hrow⟩:=h.row hlt
   have hbm:=hrow.big
   have HL:=Lib.hid (And.intro hrow.len hall);clear hall
   go_wp2_with fail
   go_loopw [20] (fun j wr=>∃ q:Nat,j=.int .i64 (q:Nat)∧q≤m∧inRow n ((nth Ps k).take q)=true∧wr=wa) (fun j _=>m - (intOf j).toNat)
   case atStart=>exact ⟨0,rfl,Nat.zero_le _,by simp [inRow],rfl⟩
   case round =>
    obtain ⟨q,rfl,hq,hin,hwr⟩:=hrel
    have hwr:=hwr.symm
    subst hwr
    by_cases hqm:q < m
    ·obtain ⟨b2,off2,rfl,_,hc⟩:=hrow.at' (by omega)
     have g2:=hc q hqm
     have hbad:¬ (0≤nth (nth Ps k) q∧nth (nth Ps k) q < (Ps.length:Int))→fitsC Ps=3:=fitsC_3 (by rw [HI.out];exact hlt) (by rw [HL.out.1];exact hqm)
     have hsn:inRow n ((nth Ps k).take (q + 1))=(inRow n ((nth Ps k).take q) && (decide (0≤nth (nth Ps k) q) && decide (nth (nth Ps k) q < (n:Int)))):=all_take_succ _ (by rw [HL.out.1];exact hqm)
     rw [hin,Bool.true_and] at hsn
     rw [HI.out] at hbad
     have HS:=Lib.hid (And.intro hbad hsn);clear hbad hsn hc hin
     generalize hs:nth (nth Ps k) q=s at g2
     have HE:=Lib.hid hs;clear hs
     by_cases hs0:s < 0
     ·have HC:=Lib.hid (HS.out.1 (by rw [HE.out];omega))
      go_wp2_with fail
      go_ret
      exact ⟨ret_int HC.out.symm,Below.refl _ _⟩
     ·by_cases hs1:(n:Int)≤s
      ·have HC:=Lib.hid (HS.out.1 (by rw [HE.out];omega))
       go_wp2_with fail
       go_ret
       exact ⟨ret_int HC.out.symm,Below.refl _ _⟩
      ·have HC:=Lib.hid (show inRow n ((nth Ps k).take (q + 1))=true by rw [HS.out.2,HE.out];simp;omega)
       go_wp2_with fail
       exact ⟨⟨q + 1,by go_num,by omega,HC.out,trivial⟩,by simp [intOf];omega⟩
    ·obtain rfl:q=m:=by omega
     have HC:=Lib.hid (show (Ps.take (k + 1)).all (inRow n)=true by
      rw [all_take_succ _ (by rw [HI.out];exact hlt),HL.out.2]
      rw [take_all (by rw [HL.out.1];exact Nat.le_refl _)] at hin
      simpa using hin)
     clear hin
     go_wp2_with fail
     exact ⟨⟨k + 1,by go_num,by omega,HC.out,trivial⟩,by simp [intOf];omega⟩
  ·obtain rfl:k=n:=by omega
   have hR:inR Ps=true:=by
    unfold inR;rw [HI.out];rw [take_all (by rw [HI.out];exact Nat.le_refl _)] at hall;exact hall
   have HR:=Lib.hid hR;clear hR hall
   go_wp2_with fail
   go_loopw [36] (fun i wr=>∃ j:Nat,i=.int .i64 (j:Nat)∧j≤k∧(Ps.take j).any dup=false∧Below wa.heap.size wa wr) (fun i _=>k - (intOf i).toNat)
   case atStart=>exact ⟨0,rfl,Nat.zero_le _,by simp,Below.refl _ _⟩
   case round =>
    obtain ⟨j,rfl,hj,hany,hbl⟩:=hrel
    obtain ⟨wb,hwb⟩:∃ wb:World,wb=wr:=⟨_,rfl⟩
    subst hwb
    by_cases hlt:j < k
    ·obtain ⟨b,off,B,m,d,rfl,hbs,g0,hrow⟩:=h.row hlt
     have g1:=((keeps hbl).1 b (off + j) hbs).trans g0
     have hbm:=hrow.big
     have hM:=MapI.made wb Tryz.prog 3 3
     have hsz:=hbl.size
     have HL:=Lib.hid (And.intro hrow.len (And.intro hany (And.intro (hbl.alloc hbl.size (.map #[] 0)) hrow)));clear hany hbl hrow g0
     generalize hp:wb.heap.size=p at *
     go_wp2_with fail
     generalize hwm:wb.alloc (.map #[] 0)=wm at *
     clear g1 hwm hp
     go_loopw [45] (fun x wr=>∃ q:Nat,x=.int .i64 (q:Nat)∧q≤m∧dupTo (nth Ps j) q=false∧MapI Tryz.prog 3 3 wr p q (seenI ((nth Ps j).take q))∧Below wa.heap.size wa wr) (fun x _=>m - (intOf x).toNat)
     case atStart=>exact ⟨0,rfl,Nat.zero_le _,rfl,hM,HL.out.2.2.1⟩
     case round =>
      obtain ⟨q,rfl,hq,hdup,hmap,hbl⟩:=hrel
      obtain ⟨wc,hwc⟩:∃ wc:World,wc=wr:=⟨_,rfl⟩
      subst hwc
      by_cases hqm:q < m
      ·obtain ⟨b2,off2,rfl,hb2,hc⟩:=(HL.out.2.2.2.below (Nat.le_refl _) hbl).at' (by omega)
       have g2:=hc q hqm
       have hin:=inR_row HR.out (by rw [HI.out];exact hlt) (nth (nth Ps j) q) (nth_mem (by rw [HL.out.1];exact hqm))
       rw [HI.out] at hin
       have hwf:(Lit.int .i64 (nth (nth Ps j) q)).wf=true:=WalkArith.wf_i64 (by omega)
       have hbad:dupAt (nth Ps j) q=true→fitsC Ps=40:=fitsC_40 HR.out (by rw [HI.out];exact hlt) (by rw [HL.out.1];exact hqm)
       have hsn:=dupTo_succ (nth Ps j) q
       rw [hdup,Bool.false_or] at hsn
       have htk:=take_snoc (xs:=nth Ps j) (k:=q) (by rw [HL.out.1];exact hqm)
       have hval:=seenI_val ((nth Ps j).take q) (nth (nth Ps j) q)
       have hda:dupAt (nth Ps j) q=((nth Ps j).take q).contains (nth (nth Ps j) q):=rfl
       have hsz2:=hbl.size
       have HS:=Lib.hid (And.intro hbad (And.intro hsn (And.intro htk (And.intro hda hbl))));clear hbad hsn htk hda hc hdup hbl hin
       generalize hs:nth (nth Ps j) q=s at *
       generalize hl:(nth Ps j).take q=l at *
       have HE:=Lib.hid (And.intro hs hl);clear hs hl
       rcases hcb:l.contains s
       ·rw [hcb] at hval
        have HV:=Lib.hid (And.intro hval hcb);clear hval hcb
        go_wp2_with (first
         | (at_lookup;refine wpList_look_I _ rfl _ _ 80 rfl 3 3 Tryz.underlying3 Tryz.underlying80 Tryz.underlying3 (zeroI _) p q _ rfl hmap _ rfl hwf ?_;rw [HV.out.1])
         | (at_mapUpdate;refine wpList_store_I _ rfl _ _ _ 80 rfl 3 3 Tryz.underlying3 Tryz.underlying80 Tryz.underlying3 p q _ rfl hmap (by unfold maxLen;omega) _ rfl hwf 1 rfl (by decide) ?_)
         | fail)
        intro w1 hm1 hg1
        have hm2:=hm1.congr (seenI_snoc l s)
        rw [← HS.out.2.2.1] at hm2
        have hb2:=HS.out.2.2.2.2.grown hg1 hsz2 (fun g e=>by cases e;exact hsz)
        have H2:=Lib.hid (And.intro hm2 hb2);clear hm2 hb2 hm1 hg1 hmap
        go_wp2_with fail
        exact ⟨⟨q + 1,by go_num,by omega,by rw [HS.out.2.1,HS.out.2.2.2.1,HV.out.2],H2.out.1,H2.out.2⟩,by simp [intOf];omega⟩
       ·rw [hcb] at hval
        have HV:=Lib.hid (And.intro hval hcb);clear hval hcb
        go_wp2_with (first
         | (at_lookup;refine wpList_look_I _ rfl _ _ 80 rfl 3 3 Tryz.underlying3 Tryz.underlying80 Tryz.underlying3 (zeroI _) p q _ rfl hmap _ rfl hwf ?_;rw [HV.out.1])
         | fail)
        go_ret
        exact ⟨ret_int (HS.out.1 (by rw [HS.out.2.2.2.1,HV.out.2])).symm,HS.out.2.2.2.2⟩
      ·obtain rfl:q=m:=by omega
       have hdd:(Ps.take (j + 1)).any dup=false:=by
        rw [any_take_succ _ (by rw [HI.out];exact hlt),HL.out.2.1,Bool.false_or]
        unfold dup;rw [HL.out.1];exact hdup
       have HC:=Lib.hid (And.intro hdd hbl);clear hdd hbl hmap hdup
       go_wp2_with fail
       exact ⟨⟨j + 1,by go_num,by omega,HC.out.1,HC.out.2⟩,by simp [intOf];omega⟩
    ·obtain rfl:j=k:=by omega
     have hcc:fitsC Ps=0:=fitsC_0 HR.out (by rw [take_all (by rw [HI.out];exact Nat.le_refl _)] at hany;exact hany)
     have HC:=Lib.hid (And.intro hcc hbl);clear hcc hany hbl
     go_wp2_with fail
     go_ret
     exact ⟨ret_int HC.out.1.symm,HC.out.2⟩
end Go.Proofs.YtmncjibcoffmfaaGreat
/- Memory of the call's own: make and append with an element type's facts in one word; a row of slices that each own a row. Conditions: lengths within Go's bound. -/
namespace Go.Proofs.YtmncjibcoffmfaaGreat
open Go.RowKit

theorem eiInt:EI Tryz.prog 53 3 (.int .i64 0) 8:=.mk' Tryz.underlying53 (by kernel_rfl) rfl (by omega)
theorem eiRows:EI Tryz.prog 24 53 (.slice none 0 0) 24:=.mk' Tryz.underlying24 (by kernel_rfl) rfl (by omega)

structure Owns {α:Type} (enc:α→Value) (w:World) (g:Nat) (te e:TypeId) (n:Nat) (vs:List (Option Addr × Nat × Nat)) (f:Nat→List α):Prop where
 row:RowAt eS w g te vs []
 len:vs.length=n
 own:∀ p,p < n→OwnR enc w (g + 1) e (nth vs p).1 (nth vs p).2.1 (nth vs p).2.2 (f p)
 far:∀ p q,p < n→q < n→p ≠ q→∀ b,(nth vs p).1=some ⟨b,0,none⟩→(nth vs q).1 ≠ some ⟨b,0,none⟩
section
variable {α:Type} {enc:α→Value} {w w':World} {g n:Nat} {te e:TypeId} {vs:List (Option Addr × Nat × Nat)} {f:Nat→List α}
theorem Owns.start (h:RowAt eS w g te (List.replicate n (none,0,0)) []):Owns enc w g te e n (List.replicate n (none,0,0)) (fun _=>[]):=by
 have hn:∀ p,p < n→nth (List.replicate n ((none:Option Addr),0,0)) p=(none,0,0):=fun p hp=>by rw [nth_eq (by simpa using hp)];simp
 exact ⟨h,by simp,fun p hp=>by rw [hn p hp];exact OwnR.nil _ _ _ _,fun p q hp hq _ b e=>by rw [hn p hp] at e;cases e⟩
theorem Owns.below (h:Owns enc w g te e n vs f) (hb:Below w.heap.size w w'):Owns enc w' g te e n vs f:=
 ⟨h.row.below hb h.row.lt,h.len,fun p hp=>(h.own p hp).below (Nat.le_refl _) hb,h.far⟩
instance:Stable (fun w=>Owns enc w g te e n vs f):=⟨fun hb h=>h.below hb⟩
theorem Owns.cell (h:Owns enc w g te e n vs f) {p:Nat} (hp:p < n):w.cell? ⟨g,p,none⟩=some (.slice (nth vs p).1 (nth vs p).2.1 (nth vs p).2.2):=h.row.cell (by rw [h.len];exact hp)
theorem Owns.rowsF [Inhabited α] (h:Owns enc w g te e n vs f) (hn:n≤140737488351232) (hl:∀ p,p < n→(f p).length≤140737488351232):RowsF g enc w (some ⟨g,0,none⟩) n ((List.range n).map f):=by
 refine ⟨⟨vs,?_,fun b off e=>by injection e with e;injection e with e;omega,fun i hi=>⟨?_,((h.own i hi).fr).mono (Nat.le_succ g),(h.own i hi).cap⟩⟩,by simp⟩
 ·have:=h.row.sl (by rw [h.len];exact hn);rw [h.len] at this;exact this
 ·rw [nth_map _ (by simpa using hi)]
  have e:nth (List.range n) i=i:=by rw [nth_eq (by simpa using hi)];simp
  rw [e]
  have h1:=(h.own i hi).length
  have h2:=hl i hi
  exact (h.own i hi).sl (by omega)
theorem Owns.append (h:Owns enc w g te e n vs f) {p:Nat} (hp:p < n) {A':Option Addr} {m' c':Nat} {ys:List α} (hown:OwnR enc w' (g + 1) e A' m' c' ys)
 (hg:w.grownBy w' (Value.slice (nth vs p).1 (nth vs p).2.1 (nth vs p).2.2).ownBlock) (hd:(Value.slice A' m' c').ownBlock=(Value.slice (nth vs p).1 (nth vs p).2.1 (nth vs p).2.2).ownBlock ∨ ∃ b,(Value.slice A' m' c').ownBlock=some b∧w.heap.size≤b) :
 Owns enc (w'.setCell ⟨g,p,none⟩ (.slice A' m' c')) g te e n (vs.set p (A',m',c')) (fun x=>if x=p then ys else f x):=by
 have hne:∀ b,(nth vs p).1=some ⟨b,0,none⟩→g < b:=fun b e=>by
  rcases (h.own p hp).at_row with h1 | ⟨g',h1,h2,_⟩
  ·rw [e] at h1;cases h1
  ·rw [e] at h1;injection h1 with h1;injection h1 with h1;omega
 have hob:∀ b,(Value.slice (nth vs p).1 (nth vs p).2.1 (nth vs p).2.2).ownBlock=some b→(nth vs p).1=some ⟨b,0,none⟩:=fun b e=>by
  rcases (h.own p hp).at_row with h1 | ⟨g',h1,_⟩
  ·rw [h1] at e;cases e
  ·rw [h1] at e ⊢;injection e with e;rw [← e]
 have hrow:RowAt eS w' g te vs []:=h.row.grown hg fun e=>by
  have:=hne g (hob g e.symm)
  omega
 have hset:=hrow.set (j:=p) (by rw [h.len];exact hp) (A',m',c')
 have hA:∀ b,A'=some ⟨b,0,none⟩→g < b∧((nth vs p).1=some ⟨b,0,none⟩ ∨ w.heap.size≤b):=fun b e=>by
  have h1:g < b:=by
   rcases hown.at_row with h1 | ⟨g',h1,h2,_⟩
   ·rw [e] at h1;cases h1
   ·rw [e] at h1;injection h1 with h1;injection h1 with h1;omega
  refine ⟨h1,?_⟩
  have h2:(Value.slice A' m' c').ownBlock=some b:=by rw [e];rfl
  rcases hd with hd | hd
  ·exact .inl (hob b (by rw [← hd];exact h2))
  ·obtain ⟨b',hd,hle⟩:=hd
   rw [h2] at hd;injection hd with hd;subst hd;exact .inr hle
 refine ⟨hset,by simpa using h.len,fun q hq=>?_,fun q r hq hr hqr b e1 e2=>?_⟩
 ·by_cases hqp:q=p
  ·subst hqp
   rw [nth_set_same (by rw [h.len];exact hq),if_pos rfl]
   exact hown.setFar (fun b e=>by have:=(hA b e).1;simp;omega) _
  ·rw [nth_set_other (fun e=>hqp e.symm),if_neg hqp]
   refine ((h.own q hq).grown hg fun b e e2=>?_).setFar (fun b e=>?_) _
   ·exact h.far q p hq hp hqp b e (hob b e2)
   ·rcases (h.own q hq).at_row with h1 | ⟨g',h1,h2,_⟩
    ·rw [e] at h1;cases h1
    ·rw [e] at h1;injection h1 with h1;injection h1 with h1;simp;omega
 ·have hlt:∀ q b,q < n→(nth vs q).1=some ⟨b,0,none⟩→b < w.heap.size:=fun q b hq e=>by
   rcases (h.own q hq).at_row with h1 | ⟨g',h1,_,h3⟩
   ·rw [e] at h1;cases h1
   ·rw [e] at h1;injection h1 with h1;injection h1 with h1;omega
  by_cases hqp:q=p
  ·subst hqp
   rw [nth_set_same (by rw [h.len];exact hq)] at e1
   rw [nth_set_other hqr] at e2
   rcases (hA b e1).2 with h1 | h1
   ·exact h.far q r hq hr hqr b h1 e2
   ·have:=hlt r b hr e2;omega
  ·rw [nth_set_other (fun e=>hqp e.symm)] at e1
   by_cases hrp:r=p
   ·subst hrp
    rw [nth_set_same (by rw [h.len];exact hr)] at e2
    rcases (hA b e2).2 with h1 | h1
    ·exact h.far q r hq hr hqr b e1 h1
    ·have:=hlt q b hq e1;omega
   ·rw [nth_set_other (fun e=>hrp e.symm)] at e2
    exact h.far q r hq hr hqr b e1 e2
end
end Go.Proofs.YtmncjibcoffmfaaGreat
/- dag.children, walked: of each point the points that hang on it. Conditions: the parents read, are points, none twice. -/
namespace Go.Proofs.YtmncjibcoffmfaaGreat
open Go.RowKit

def kidsUp (G:List (List Nat)) (i p:Nat):List Nat:=(List.range i).filter fun j=>(nth G j).contains p
def kids (G:List (List Nat)):List (List Nat):=(List.range G.length).map (kidsUp G G.length)
theorem nth_kids {G:List (List Nat)} {p:Nat} (h:p < G.length):nth (kids G) p=kidsUp G G.length p:=by
 unfold kids;rw [nth_map _ (by simpa using h),nth_eq (by simpa using h)];simp
theorem mem_kids {G:List (List Nat)} {p c:Nat} (h:p < G.length):c ∈ nth (kids G) p ↔ c < G.length∧p ∈ nth G c:=by
 rw [nth_kids h];unfold kidsUp;rw [List.mem_filter,List.mem_range];simp
theorem kids_nodup {G:List (List Nat)} {p:Nat} (h:p < G.length):(nth (kids G) p).Nodup:=by
 rw [nth_kids h];exact List.nodup_range.filter _
def kidsTo (G:List (List Nat)) (i q p:Nat):List Nat:=kidsUp G i p ++ if ((nth G i).take q).contains p then [i] else []
theorem kidsTo_zero (G:List (List Nat)) (i p:Nat):kidsTo G i 0 p=kidsUp G i p:=by simp [kidsTo]
theorem kidsTo_full {G:List (List Nat)} {i m:Nat} (h:(nth G i).length=m) (p:Nat):kidsTo G i m p=kidsUp G (i + 1) p:=by
 unfold kidsTo kidsUp
 rw [List.take_of_length_le (by omega),List.range_succ,List.filter_append]
 congr 1
 simp [List.filter_cons]
theorem kidsTo_succ {G:List (List Nat)} {i q:Nat} (hn:(nth G i).Nodup) (hq:q < (nth G i).length) (x:Nat) :
 kidsTo G i (q + 1) x=if x=nth (nth G i) q then kidsTo G i q (nth (nth G i) q) ++ [i] else kidsTo G i q x:=by
 unfold kidsTo
 rw [take_snoc hq]
 have hnot:((nth G i).take q).contains (nth (nth G i) q)=false:=by
  have:=nodup_dup hn
  rw [← Bool.not_eq_true]
  intro h
  have h2:=dup_up hq (l:=nth G i) h
  rw [h2] at this;cases this
 by_cases hx:x=nth (nth G i) q
 ·subst hx
  rw [if_pos rfl,hnot]
  simp
 ·rw [if_neg hx]
  have:(((nth G i).take q) ++ [nth (nth G i) q]).contains x=((nth G i).take q).contains x:=by
   rw [Bool.eq_iff_iff];simp [hx]
  rw [this]
theorem kidsTo_length (G:List (List Nat)) (i q p:Nat):(kidsTo G i q p).length≤i + 1:=by
 unfold kidsTo kidsUp
 rw [List.length_append]
 have h1:=List.length_filter_le (fun j=>(nth G j).contains p) (List.range i)
 rw [List.length_range] at h1
 have h2:(if ((nth G i).take q).contains p then [i] else []).length≤1:=by split <;> simp
 omega

set_option maxRecDepth 100000 in
set_option maxHeartbeats 1600000 in
theorem children_any (A:Option Addr) (n c:Nat) (G:List (List Nat)) (w:World) (h:Rows eN w A n G) (hg:GoodG G) (hd:∀ i,i < n→(nth G i).Nodup) (hn:n * 24≤140737488351232) :
 Calls Tryz.prog 132 #[.slice A n c] w fun e w'=>∃ B d,e=.returned (.slice B n d)∧RowsF w.heap.size eN w' B n (kids G)∧Below w.heap.size w w':=by
 have hbig:=h.big
 have HI:=Lib.hid (And.intro h.len (And.intro hg hd));clear hg hd
 obtain ⟨wa,hwa⟩:∃ wa:World,wa=w:=⟨_,rfl⟩
 subst hwa
 go_enter Tryz.func132,Tryz.ntmps132
 go_wp2_with (first
  | (with_reducible refine wpList_mk _ eiRows eS (none,0,0) rfl rfl _ _ rfl n rfl rfl (by omega) ?_)
  | fail)
 intro w1 hrow1 hb1
 have hO:=Owns.start (enc:=eN) (e:=3) hrow1
 have HO:=Lib.hid (And.intro hO hb1);clear hO hb1 hrow1
 generalize hp:wa.heap.size=p
 go_wp2_with fail
 go_loopw [13] (fun i wr=>∃ (k:Nat) (vs:List (Option Addr × Nat × Nat)),i=.int .i64 (k:Nat)∧k≤n∧Owns eN wr p 53 3 n vs (kidsUp G k)∧Below p wa wr) (fun i _=>n - (intOf i).toNat)
 case atStart=>exact ⟨0,_,rfl,Nat.zero_le _,by rw [← hp];exact HO.out.1,by rw [← hp];exact HO.out.2⟩
 case round =>
  obtain ⟨k,vs,rfl,hk,hown,hbl⟩:=hrel
  obtain ⟨wb,hwb⟩:∃ wb:World,wb=wr:=⟨_,rfl⟩
  subst hwb
  by_cases hlt:k < n
  ·obtain ⟨b,off,B,m,d,rfl,hbs,g0,hrow⟩:=h.row hlt
   have g1:=((keeps hbl).1 b (off + k) (by omega)).trans g0
   have hbm:=hrow.big
   have HL:=Lib.hid (And.intro hrow hbl);clear hbl hrow g0
   have hown':Owns eN wb p 53 3 n vs (kidsTo G k 0):=by rw [funext (kidsTo_zero G k)];exact hown
   clear hown
   go_wp2_with fail
   go_loopw [20] (fun j wr=>∃ (q:Nat) (vs:List (Option Addr × Nat × Nat)),j=.int .i64 (q:Nat)∧q≤m∧Owns eN wr p 53 3 n vs (kidsTo G k q)∧Below p wa wr) (fun j _=>m - (intOf j).toNat)
   case atStart=>exact ⟨0,vs,rfl,Nat.zero_le _,hown',HL.out.2⟩
   case round =>
    obtain ⟨q,vt,rfl,hq,hown,hbl⟩:=hrel
    obtain ⟨wc,hwc⟩:∃ wc:World,wc=wr:=⟨_,rfl⟩
    subst hwc
    by_cases hqm:q < m
    ·obtain ⟨b2,off2,rfl,hb2,hc⟩:=(HL.out.1.below (Nat.le_of_eq hp) hbl).at' (by omega)
     have hql:q < (nth G k).length:=by rw [HL.out.1.len];exact hqm
     have g2:=hc q hqm
     have hs2:nth (nth G k) q < n:=by have:=HI.out.2.1 k (by rw [HI.out.1];exact hlt) _ (nth_mem hql);rw [HI.out.1] at this;exact this
     have hsucc:=kidsTo_succ (HI.out.2.2 k hlt) hql
     have hlen:=kidsTo_length G k q (nth (nth G k) q)
     have HS:=Lib.hid hsucc;clear hsucc hc hql
     generalize hs:nth (nth G k) q=s at *
     have g3:=hown.cell hs2
     have f3:=hown.row.frozen s
     have hos:=(hown.own s hs2).alloc (.cells #[.int .i64 (k:Int)] 3)
     have hol:=hos.length
     have hHO:=Lib.hid (And.intro hown hbl)
     have hpz:=hbl.size
     have hpl:=hown.row.lt
     clear hown hbl hs
     go_wp2_with (first
      | (at_builtin;refine wpList_app _ eiInt eN one_eN rfl _ _ rfl (p + 1) _ _ _ _ rfl hos _ _ _ _ rfl (Sl.one (enc:=eN) _ _ _) (by omega) (by simp;omega) ?_)
      | fail)
     intro A9 c9 w9 ho9 hg9 _ hd9
     have ho10:=hHO.out.1.append hs2 (by simpa using ho9) (grown_trans (World.grownBy_alloc wc (.cells #[.int .i64 (k:Int)] 3) _) hg9) (hd9.imp id fun e=>⟨_,e,by simp⟩)
     have hb10:=((hHO.out.2.alloc (by omega) (.cells #[.int .i64 (k:Int)] 3)).grown hg9 (by simp;omega) (fun b e=>by have:=(hHO.out.1.own s hs2).at_row;rcases this with e2 | ⟨g',e2,e3,_⟩ <;> rw [e2] at e <;> cases e;exact Nat.le_trans (Nat.le_succ p) e3)).setCell (p:=⟨p,s,none⟩) (Nat.le_refl p) (.slice A9 ((nth vt s).2.1 + 1) c9)
     have hr9:RowAt eS w9 p 53 vt []:=(hHO.out.1.row.alloc _).grown hg9 fun e=>by have:=(hHO.out.1.own s hs2).at_row;rcases this with e2 | ⟨g',e2,e3,_⟩ <;> rw [e2] at e <;> cases e;exact absurd e3 (Nat.not_succ_le_self _)
     have c9':=hr9.cell (j:=s) (by rw [hHO.out.1.len];exact hs2)
     have f9:=hr9.frozen s
     have H9:=Lib.hid (And.intro ho10 hb10);clear ho10 hb10 hr9 ho9 hg9 hd9
     go_wp2_with fail
     exact ⟨⟨q + 1,_,by go_num,by omega,by rw [funext HS.out];exact H9.out.1,H9.out.2⟩,by simp [intOf];omega⟩
    ·obtain rfl:q=m:=by omega
     have hfull:Owns eN wc p 53 3 n vt (kidsUp G (k + 1)):=by rw [← funext (kidsTo_full (HL.out.1.len))];exact hown
     have HC:=Lib.hid (And.intro hfull hbl);clear hown hbl hfull
     go_wp2_with fail
     exact ⟨⟨k + 1,vt,by go_num,by omega,HC.out.1,HC.out.2⟩,by simp [intOf];omega⟩
  ·obtain rfl:k=n:=by omega
   have hr:RowsF p eN wb (some ⟨p,0,none⟩) k (kids G):=by
    have:=hown.rowsF hbig (fun q hq=>by
     have:=kidsTo_length G k 0 q
     rw [kidsTo_zero] at this
     omega)
    unfold kids
    rw [HI.out.1]
    exact this
   have HC:=Lib.hid (And.intro hr hbl);clear hown hbl hr
   go_wp2_with fail
   go_ret
   exact ⟨_,_,rfl,by rw [hp];exact HC.out.1,by rw [hp];exact HC.out.2⟩
end Go.Proofs.YtmncjibcoffmfaaGreat
/- Plain law: points put out one by one, each behind its parents: how many parents are still wanting, what is ready. No condition. -/
namespace Go.Proofs.YtmncjibcoffmfaaGreat

def cntOut (G:List (List Nat)) (L:List Nat) (x:Nat):Nat:=((nth G x).filter fun p=>!L.contains p).length
theorem cntOut_zero {G:List (List Nat)} {L:List Nat} {x:Nat}:cntOut G L x=0 ↔ ∀ p,p ∈ nth G x→p ∈ L:=by
 unfold cntOut
 rw [List.length_eq_zero_iff,List.filter_eq_nil_iff]
 simp
theorem cntOut_nil (G:List (List Nat)) (x:Nat):cntOut G [] x=(nth G x).length:=by unfold cntOut;simp
theorem cntOut_le (G:List (List Nat)) (L:List Nat) (x:Nat):cntOut G L x≤(nth G x).length:=List.length_filter_le _ _
theorem filter_snoc:∀ {l:List Nat} (L:List Nat) {p:Nat},l.Nodup→p ∉ L→(l.filter fun y=>!L.contains y).length=(l.filter fun y=>!(L ++ [p]).contains y).length + if p ∈ l then 1 else 0
 | [],L,p,_,_=>by simp
 | y :: l,L,p,hn,hp=>by
   have hn':=List.nodup_cons.1 hn
   have ih:=filter_snoc L hn'.2 hp
   by_cases hy:y=p
   ·subst hy
    rw [if_neg hn'.1] at ih
    rw [List.filter_cons_of_pos (by simpa using hp),List.filter_cons_of_neg (by simp),if_pos (by simp)]
    simp only [List.length_cons];omega
   ·have e:(p ∈ y :: l) ↔ p ∈ l:=by rw [List.mem_cons];exact ⟨fun h=>h.resolve_left fun h=>hy h.symm,.inr⟩
    have e2:(!(L ++ [p]).contains y)=!L.contains y:=by
     congr 1;rw [Bool.eq_iff_iff];simp [hy]
    by_cases hL:(!L.contains y)=true
    ·rw [List.filter_cons_of_pos (p:=fun y=>!L.contains y) hL,List.filter_cons_of_pos (p:=fun y=>!(L ++ [p]).contains y) (by rw [e2];exact hL)]
     simp only [List.length_cons,e];omega
    ·rw [List.filter_cons_of_neg (p:=fun y=>!L.contains y) hL,List.filter_cons_of_neg (p:=fun y=>!(L ++ [p]).contains y) (by rw [e2];exact hL)]
     simp only [e];exact ih
theorem cntOut_snoc {G:List (List Nat)} {L:List Nat} {x p:Nat} (hn:(nth G x).Nodup) (hp:p ∉ L):cntOut G L x=cntOut G (L ++ [p]) x + if p ∈ nth G x then 1 else 0:=filter_snoc L hn hp

structure Ready (G:List (List Nat)) (L H:List Nat) (lf:Nat→Nat):Prop where
 nodup:H.Nodup
 mem:∀ x,x ∈ H ↔ x < G.length∧x ∉ L∧lf x=0
def lfAt (G:List (List Nat)) (L D:List Nat) (q:Nat) (x:Nat):Nat:=cntOut G L x + if x ∈ D.drop q then 1 else 0
theorem lfAt_zero {G:List (List Nat)} {L:List Nat} {p:Nat} (hp:p < G.length) (hn:∀ i,i < G.length→(nth G i).Nodup) (hpl:p ∉ L) {x:Nat} (hx:x < G.length):lfAt G (L ++ [p]) (nth (kids G) p) 0 x=cntOut G L x:=by
 unfold lfAt
 rw [cntOut_snoc (hn x hx) hpl,List.drop_zero]
 congr 1
 have:=mem_kids (G:=G) (p:=p) (c:=x) hp
 by_cases h:p ∈ nth G x
 ·rw [if_pos h,if_pos (this.2 ⟨hx,h⟩)]
 ·rw [if_neg h,if_neg (fun h2=>h (this.1 h2).2)]
theorem lfAt_full {G:List (List Nat)} {L D:List Nat} {q:Nat} (h:D.length≤q) (x:Nat):lfAt G L D q x=cntOut G L x:=by
 unfold lfAt;rw [List.drop_of_length_le h];simp
theorem drop_mem {D:List Nat} {q:Nat} (h:q < D.length) (x:Nat):x ∈ D.drop q ↔ x=nth D q ∨ x ∈ D.drop (q + 1):=by
 rw [List.drop_eq_getElem_cons h,nth_eq h,List.mem_cons]
theorem drop_not {D:List Nat} {q:Nat} (h:q < D.length) (hn:D.Nodup):nth D q ∉ D.drop (q + 1):=by
 have h1:(D.drop q).Nodup:=hn.sublist (List.drop_sublist _ _)
 rw [List.drop_eq_getElem_cons h] at h1
 rw [nth_eq h];exact (List.nodup_cons.1 h1).1
theorem lfAt_self {G:List (List Nat)} {L D:List Nat} {q:Nat} (h:q < D.length) (hn:D.Nodup):lfAt G L D q (nth D q)=lfAt G L D (q + 1) (nth D q) + 1:=by
 unfold lfAt;rw [if_pos ((drop_mem h _).2 (.inl rfl)),if_neg (drop_not h hn)]
theorem lfAt_other {G:List (List Nat)} {L D:List Nat} {q:Nat} (h:q < D.length) {x:Nat} (hx:x ≠ nth D q):lfAt G L D q x=lfAt G L D (q + 1) x:=by
 unfold lfAt
 have:=drop_mem h x
 by_cases h2:x ∈ D.drop (q + 1)
 ·rw [if_pos h2,if_pos (this.2 (.inr h2))]
 ·rw [if_neg h2,if_neg (fun h3=>(this.1 h3).elim hx h2)]
theorem Ready.push {G:List (List Nat)} {L D H H':List Nat} {q:Nat} (h:Ready G L H (lfAt G L D q)) (hq:q < D.length) (hn:D.Nodup) (hlt:nth D q < G.length) (hnot:nth D q ∉ L) (h0:lfAt G L D (q + 1) (nth D q)=0) (hp:H'.Perm (nth D q :: H)) :
 Ready G L H' (lfAt G L D (q + 1)):=by
 have hs:=lfAt_self (G:=G) (L:=L) hq hn
 have hnew:nth D q ∉ H:=fun hm=>by have:=(h.mem _).1 hm;omega
 refine ⟨hp.nodup_iff.2 (List.nodup_cons.2 ⟨hnew,h.nodup⟩),fun x=>?_⟩
 rw [hp.mem_iff,List.mem_cons,h.mem]
 by_cases hx:x=nth D q
 ·subst hx;exact ⟨fun _=>⟨hlt,hnot,h0⟩,fun _=>.inl rfl⟩
 ·rw [lfAt_other hq hx];exact ⟨fun h=>h.resolve_left hx,fun h=>.inr h⟩
theorem Ready.pass {G:List (List Nat)} {L D H:List Nat} {q:Nat} (h:Ready G L H (lfAt G L D q)) (hq:q < D.length) (hn:D.Nodup) (h0:lfAt G L D (q + 1) (nth D q) ≠ 0):Ready G L H (lfAt G L D (q + 1)):=by
 have hs:=lfAt_self (G:=G) (L:=L) hq hn
 refine ⟨h.nodup,fun x=>?_⟩
 rw [h.mem]
 by_cases hx:x=nth D q
 ·subst hx;rw [hs];exact ⟨fun h=>absurd h.2.2 (by omega),fun h=>absurd h.2.2 h0⟩
 ·rw [lfAt_other hq hx]
theorem Ready.pop {G:List (List Nat)} {L H H':List Nat} {p:Nat} (h:Ready G L H (cntOut G L)) (hk:Kahn G L) (hn:∀ i,i < G.length→(nth G i).Nodup) (hp:H.Perm (p :: H')) :
 p < G.length∧p ∉ L∧(∀ q,q ∈ nth G p→q ∈ L)∧Kahn G (L ++ [p])∧Ready G (L ++ [p]) H' (lfAt G (L ++ [p]) (nth (kids G) p) 0)∧∀ c,c ∈ nth (kids G) p→c < G.length∧c ∉ L ++ [p]:=by
 have hm:p ∈ H:=hp.mem_iff.2 (by simp)
 obtain ⟨h1,h2,h3⟩:=(h.mem p).1 hm
 have h4:=cntOut_zero.1 h3
 have hnp:=List.nodup_cons.1 (hp.nodup_iff.1 h.nodup)
 refine ⟨h1,h2,h4,hk.snoc h1 h2 h4,⟨hnp.2,fun x=>?_⟩,fun c hc=>?_⟩
 ·constructor
  ·intro hx
   obtain ⟨g1,g2,g3⟩:=(h.mem x).1 (hp.mem_iff.2 (List.mem_cons_of_mem _ hx))
   refine ⟨g1,?_,by rw [lfAt_zero h1 hn h2 g1];exact g3⟩
   rw [List.mem_append,List.mem_singleton]
   rintro (hx2 | rfl)
   ·exact g2 hx2
   ·exact hnp.1 hx
  ·rintro ⟨g1,g2,g3⟩
   rw [lfAt_zero h1 hn h2 g1] at g3
   rw [List.mem_append,List.mem_singleton] at g2
   have:=hp.mem_iff.1 ((h.mem x).2 ⟨g1,fun hx=>g2 (.inl hx),g3⟩)
   rcases List.mem_cons.1 this with rfl | this
   ·exact absurd (.inr rfl) g2
   ·exact this
 ·obtain ⟨c1,c2⟩:=(mem_kids h1).1 hc
  refine ⟨c1,?_⟩
  rw [List.mem_append,List.mem_singleton]
  rintro (hcl | rfl)
  ·obtain ⟨j,hj,e⟩:=mem_nth hcl
   have:=hk.behind j hj p (by rw [e];exact c2)
   exact h2 (List.mem_of_mem_take this)
  ·exact h2 (h4 c c2)
theorem Ready.start {G:List (List Nat)} {H:List Nat} (hn:H.Nodup) (hm:∀ x,x ∈ H ↔ x < G.length∧(nth G x).length=0):Ready G [] H (cntOut G []):=
 ⟨hn,fun x=>by rw [hm,cntOut_nil];simp⟩
theorem Ready.stuck {G:List (List Nat)} {L:List Nat} (h:Ready G L [] (cntOut G L)) {i:Nat} (hi:i < G.length) (hn:i ∉ L):∃ p,p ∈ nth G i∧p ∉ L:=by
 apply Classical.byContradiction
 intro hex
 have:i ∈ ([]:List Nat):=(h.mem i).2 ⟨hi,hn,cntOut_zero.2 fun p hp=>Classical.byContradiction fun hpl=>hex ⟨p,hp,hpl⟩⟩
 cases this
end Go.Proofs.YtmncjibcoffmfaaGreat
