/- Joined by program out of: Laws, Held, Mem. What each says stands at its own head. -/
import Derived.Test.YtgbmnlmnhbkdbaaGreatBase
import Derived.Lib.SliceRun
import Derived.Laws.IdiomCopy
import Derived.Outline
import Derived.Laws.OwnMore
set_option linter.unusedVariables false
set_option linter.unusedSimpArgs false
/- Laws at the operations append, clear, copy, said of slices that read as lists. Conditions: elements of one cell; the lengths stay below Go's bound. -/
namespace Go.Proofs.YtgbmnlmnhbkdbaaGreat
open Go.RowKit

section
variable {α:Type} [Inhabited α] {enc:α→Value} {w w':World}

theorem Sl.one (w:World) (e:TypeId) (x:α):Sl enc (w.alloc (.cells #[enc x] e)) (some ⟨w.heap.size,0,none⟩) 1 [x]:=
 ⟨rfl,by omega,fun _=>⟨w.heap.size,0,rfl,by simp,fun j hj=>by
   obtain rfl:j=0:=by omega
   rw [cell_of_row _ _ _ _ _ _ (heap_alloc_new w _)]
   simp [nth]⟩⟩
theorem Sl.news {n:Nat} {xs:List α} {ad:Addr} (h:Sl enc w (some ad) n xs):∀ j u,(xs.map enc)[j]?=some u→w.cell? (ad.add j)=some u:=by
 intro j u hu
 have hj:j < xs.length:=by
  rcases Nat.lt_or_ge j xs.length with h1 | h1
  ·exact h1
  ·rw [List.getElem?_eq_none (by simpa using h1)] at hu;cases hu
 obtain ⟨b,off,e,_,hc⟩:=h.at' (by rw [← h.len];omega)
 injection e with e
 subst e
 rw [show (⟨b,off,none⟩:Addr).add j=⟨b,off + j,none⟩ from Addr.add_lit _ _ _,hc j (by rw [← h.len];exact hj)]
 rw [List.getElem?_map,nth_get? hj] at hu
 exact hu
end

section
variable {P:Program} (w:World)
theorem run_append_sl {α:Type} [Inhabited α] (enc:α→Value) (h1:∀ x,(enc x).oneCell'=true) (base:Nat) (t ty e:TypeId) (i:TypeInfo) (z:Value) (bytes:Nat) (ht:P.underlying t=some (.slice e)) (hi:P.info? e=some i)
 (hz:i.zero=some z) (hsize:i.size=1) (hby:i.bytes=bytes) (hzs:z.cells.size=1) (A:Option Addr) (n c:Nat) (xs:List α) (hown:OwnR enc w base e A n c xs)
 (B:Option Addr) (m d:Nat) (ys:List α) (hy:Sl enc w B m ys) (h63:n + m≤maxLen) (hbytes:(n + m) * bytes≤140737488355328) (hbase:base≤w.heap.size) :
 ∃ A' c' w',(Builtin.append_ #[t,t] ty #[.slice A n c,.slice B m d]).run P w=.ok (.slice A' (n + m) c') w'∧OwnR enc w' base e A' (n + m) c' (xs ++ ys)∧w.grownBy w' (Value.slice A n c).ownBlock∧Below base w w' ∧
  ((Value.slice A' (n + m) c').ownBlock=(Value.slice A n c).ownBlock ∨ (Value.slice A' (n + m) c').ownBlock=some w.heap.size):=by
 have hrow:∀ k,(Value.slice A n c).ownBlock=some k→base≤k:=fun k hk=>(World.ownsRow.lt hown k hk).1
 rcases B with _ | ad
 ·have hm:m=0:=by
   rcases Nat.eq_zero_or_pos m with h0 | h0
   ·exact h0
   ·obtain ⟨b,off,e,_⟩:=hy.at' h0
    cases e
  subst hm
  have hyn:ys=[]:=List.eq_nil_of_length_eq_zero hy.len
  subst hyn
  refine ⟨A,c,w,?_,by simpa using hown,World.grownBy.refl w _,Below.refl _ _,.inl rfl⟩
  rcases hown.2 with ⟨hv,_⟩ | ⟨g,cap,cur,hv,_,_,hnc,_⟩
  ·injection hv with e1 e2 e3;subst e1 e2 e3
   simp [Builtin.append_,run_underlying ht,sizeOf,typeInfo,hi,Builtin.lenOf,Builtin.firstCells]
  ·injection hv with e1 e2 e3;subst e1 e3
   simp [Builtin.append_,run_underlying ht,sizeOf,typeInfo,hi,Builtin.lenOf,Builtin.firstCells,hnc,storeCells]
 ·obtain ⟨v',w',hrun,h2,h3,_,h5⟩:=run_append_own_at (P:=P) w base t ty e i z 1 bytes ht hi hz hsize hby hzs (by omega) (.slice A n c) n (xs.map enc) hown ad m d (ys.map enc) (by simpa using hy.len) (Sl.news hy)
   (by intro u hu;obtain ⟨y,_,rfl⟩:=List.mem_map.1 hu;exact h1 y) h63 hbytes hbase
  have hv:∃ A' c',v'=.slice A' (n + m) c':=by
   rcases h2.2 with ⟨rfl,h0⟩ | ⟨g,cap,cur,rfl,_⟩
   ·exact ⟨none,0,by rw [h0]⟩
   ·exact ⟨_,cap,rfl⟩
  obtain ⟨A',c',rfl⟩:=hv
  refine ⟨A',c',w',hrun,?_,h3,(Below.refl _ _).grown h3 hbase hrow,h5⟩
  unfold OwnR
  rw [List.map_append]
  exact h2
theorem wpList_append_sl {α:Type} [Inhabited α] (enc:α→Value) (h1:∀ x,(enc x).oneCell'=true) {ops:Array Oper} {rest:List Oper} {o:Oper} {a:Act} {Q:Exit→Act→World→Prop} (hgd:o.guard=none) (s x:Operand) (t:TypeId)
 (ho:o.op=.call { callee:=.builtin .append,args:=#[s,x],argTypes:=#[t,t] })
 (base:Nat) (e:TypeId) (i:TypeInfo) (z:Value) (bytes:Nat) (ht:P.underlying t=some (.slice e)) (hi:P.info? e=some i)
 (hz:i.zero=some z) (hsize:i.size=1) (hby:i.bytes=bytes) (hzs:z.cells.size=1) (A:Option Addr) (n c:Nat) (xs:List α) (hs:a.eval s=.slice A n c) (hown:OwnR enc w base e A n c xs)
 (B:Option Addr) (m d:Nat) (ys:List α) (hx:a.eval x=.slice B m d) (hy:Sl enc w B m ys) (h63:n + m≤maxLen) (hbytes:(n + m) * bytes≤140737488355328) (hbase:base≤w.heap.size)
 (h:∀ A' c' w',OwnR enc w' base e A' (n + m) c' (xs ++ ys)→w.grownBy w' (Value.slice A n c).ownBlock→Below base w w' →
   ((Value.slice A' (n + m) c').ownBlock=(Value.slice A n c).ownBlock ∨ (Value.slice A' (n + m) c').ownBlock=some w.heap.size)→wpList P ops Q rest (a.put o.dst (.slice A' (n + m) c')) w'):wpList P ops Q (o :: rest) a w:=by
 refine wpList_plain hgd fun K hK=>?_
 obtain ⟨A',c',w',hr,h2,h3,h4,h5⟩:=run_append_sl (P:=P) w enc h1 base t o.type e i z bytes ht hi hz hsize hby hzs A n c xs hown B m d ys hy h63 hbytes hbase
 unfold Oper.wp execOp
 simp only [ho,resolve,invoke,builtin,Sem.run_bind,Sem.run_pure,Result.andThen_ok,List.map_toArray,List.map_cons,List.map_nil,hs,hx,hr]
 exact hK _ _ (h A' c' w' h2 h3 h4 h5)
theorem step_append_sl {α:Type} [Inhabited α] (enc:α→Value) (h1:∀ x,(enc x).oneCell'=true) {ops:Array Oper} {o:Oper} {a:Act} {K:Act→World→Prop} {Q:Exit→Act→World→Prop} {E:Prop} (hgd:o.guard=none) (s x:Operand) (t:TypeId)
 (ho:o.op=.call { callee:=.builtin .append,args:=#[s,x],argTypes:=#[t,t] })
 (base:Nat) (e:TypeId) (i:TypeInfo) (z:Value) (bytes:Nat) (ht:P.underlying t=some (.slice e)) (hi:P.info? e=some i)
 (hz:i.zero=some z) (hsize:i.size=1) (hby:i.bytes=bytes) (hzs:z.cells.size=1) (A:Option Addr) (n c:Nat) (xs:List α) (hs:a.eval s=.slice A n c) (hown:OwnR enc w base e A n c xs)
 (B:Option Addr) (m d:Nat) (ys:List α) (hx:a.eval x=.slice B m d) (hy:Sl enc w B m ys) (h63:n + m≤maxLen) (hbytes:(n + m) * bytes≤140737488355328) (hbase:base≤w.heap.size)
 (h:∀ A' c' w',OwnR enc w' base e A' (n + m) c' (xs ++ ys)→w.grownBy w' (Value.slice A n c).ownBlock→Below base w w' →
   ((Value.slice A' (n + m) c').ownBlock=(Value.slice A n c).ownBlock ∨ (Value.slice A' (n + m) c').ownBlock=some w.heap.size)→K (a.put o.dst (.slice A' (n + m) c')) w') :
 if Region.wanted o (yielded ops a.tmps)=true then Oper.wp P o a w K Q else E:=by
 have hw:Region.wanted o (yielded ops a.tmps)=true:=by simp [Region.wanted,hgd]
 rw [if_pos hw]
 obtain ⟨A',c',w',hr,h2,h3,h4,h5⟩:=run_append_sl (P:=P) w enc h1 base t o.type e i z bytes ht hi hz hsize hby hzs A n c xs hown B m d ys hy h63 hbytes hbase
 unfold Oper.wp execOp
 simp only [ho,resolve,invoke,builtin,Sem.run_bind,Sem.run_pure,Result.andThen_ok,List.map_toArray,List.map_cons,List.map_nil,hs,hx,hr]
 exact h A' c' w' h2 h3 h4 h5
end

theorem RowC.set {w:World} {g:Nat} {e:TypeId} {A B:List Value} {u v:Value} (h:RowC w g e (A ++ u :: B)):RowC (w.setCell ⟨g,A.length,none⟩ v) g e (A ++ v :: B):=by
 unfold RowC at h ⊢
 simp only [World.setCell,Array.getElem?_modify,if_true,h,Option.map_some]
 congr 2
 rw [List.setIfInBounds_toArray,List.set_append_right _ _ (Nat.le_refl _)]
 simp
theorem RowC.setCells {g:Nat} {e:TypeId} {C:List Value}:∀ (vs B A:List Value) (w:World),RowC w g e (A ++ B ++ C)→vs.length=B.length→RowC (w.setCells g A.length vs) g e (A ++ vs ++ C)
 | [],B,A,w,h,hl=>by
   obtain rfl:B=[]:=List.eq_nil_of_length_eq_zero (by simpa using hl.symm)
   exact h
 | v :: vs,[],A,w,h,hl=>by simp at hl
 | v :: vs,b :: B,A,w,h,hl=>by
   have h1:RowC w g e (A ++ b :: (B ++ C)):=by simpa using h
   have h2:=RowC.setCells vs B (A ++ [v]) _ (C:=C) (by simpa using h1.set (v:=v)) (by simpa using hl)
   rw [World.setCells]
   simpa using h2
theorem grown_setCells {a:World} {g:Nat}:∀ (vs:List Value) (o:Nat) (w:World),a.grownBy w (some g)→a.grownBy (w.setCells g o vs) (some g)
 | [],_,_,h=>h
 | v :: vs,o,_,h=>grown_setCells vs (o + 1) _ (grown_setCell h o v)

section
variable {P:Program} (w:World)
theorem run_clear_row {α:Type} [Inhabited α] (enc:α→Value) (t e ty:TypeId) (z:Value) (ht:P.underlying t=some (.slice e)) (hv:∀ w,(zeroValue e).run P w=.ok z w) (hz:z.cells=#[z]) (h1:z.oneCell'=true)
 (g k m d:Nat) (xs:List α) (rest:List Value) (hr:RowAt enc w g e xs rest) (hm:k + m=xs.length) :
 ∃ w',(Builtin.clear_ #[t] ty #[.slice (some ⟨g,k,none⟩) m d]).run P w=.ok (.tuple #[]) w'∧RowAt enc w' g e (xs.take k) (List.replicate m z ++ rest)∧w.grownBy w' (some g):=by
 rcases Nat.eq_zero_or_pos m with rfl | hp
 ·refine ⟨w,by simp [Builtin.clear_,run_underlying ht],?_,World.grownBy.refl _ _⟩
  rw [List.take_of_length_le (by omega)]
  exact hr
 ·refine ⟨_,Go.Lib.run_clear_slice w t e ty z ht hv hz h1 g k m d hp (fun j hj=>by rw [hr.cell (by omega)];rfl) (fun j _=>hr.frozen _),?_,grown_setCells _ _ _ (World.grownBy.refl _ _)⟩
  have h2:=RowC.setCells (g:=g) (e:=e) (C:=rest) (List.replicate m z) ((xs.drop k).map enc) ((xs.take k).map enc) w (by
   unfold RowC
   rw [← List.map_append,List.take_append_drop]
   exact hr) (by simp;omega)
  have e3:((xs.take k).map enc).length=k:=by simp;omega
  rw [e3] at h2
  unfold RowAt
  unfold RowC at h2
  rw [h2,List.append_assoc]
theorem wpList_clear_row {α:Type} [Inhabited α] (enc:α→Value) {ops:Array Oper} {rs:List Oper} {o:Oper} {a:Act} {Q:Exit→Act→World→Prop} (hgd:o.guard=none) (x:Operand) (t:TypeId)
 (ho:o.op=.call { callee:=.builtin .clear,args:=#[x],argTypes:=#[t] }) (e:TypeId) (z:Value) (ht:P.underlying t=some (.slice e)) (hv:∀ w,(zeroValue e).run P w=.ok z w) (hz:z.cells=#[z]) (h1:z.oneCell'=true)
 (g k m d:Nat) (hx:a.eval x=.slice (some ⟨g,k,none⟩) m d) (xs:List α) (rest:List Value) (hr:RowAt enc w g e xs rest) (hm:k + m=xs.length)
 (h:∀ w',RowAt enc w' g e (xs.take k) (List.replicate m z ++ rest)→w.grownBy w' (some g)→wpList P ops Q rs (a.put o.dst (.tuple #[])) w'):wpList P ops Q (o :: rs) a w:=by
 refine wpList_plain hgd fun K hK=>?_
 obtain ⟨w',hrun,h2,h3⟩:=run_clear_row (P:=P) w enc t e o.type z ht hv hz h1 g k m d xs rest hr hm
 unfold Oper.wp execOp
 simp only [ho,resolve,invoke,builtin,Sem.run_bind,Sem.run_pure,Result.andThen_ok,List.map_toArray,List.map_cons,List.map_nil,hx,hrun]
 exact hK _ _ (h w' h2 h3)
end

section
variable {P:Program} (w:World)
end
end Go.Proofs.YtgbmnlmnhbkdbaaGreat
/- What stays while the world only grows above: one word for many facts. No condition. -/
namespace Go.Proofs.YtgbmnlmnhbkdbaaGreat
open Go.RowKit

class Stable (P:World→Prop):Prop where
 below:∀ {w w':World},Below w.heap.size w w'→P w→P w'

section
variable {P Q:World→Prop}
instance (p:Prop):Stable (fun _=>p):=⟨fun _ h=>h⟩
instance [Stable P] [Stable Q]:Stable (fun w=>P w∧Q w):=⟨fun hb h=>⟨Stable.below hb h.1,Stable.below hb h.2⟩⟩
instance {α:Type} {P:α→World→Prop} [∀ x,Stable (P x)]:Stable (fun w=>∀ x,P x w):=⟨fun hb h x=>Stable.below hb (h x)⟩
instance {α:Type} {P:α→World→Prop} [∀ x,Stable (P x)]:Stable (fun w=>∃ x,P x w):=⟨fun hb h=>h.imp fun _ hx=>Stable.below hb hx⟩
instance {p:Prop} [Stable P]:Stable (fun w=>p→P w):=⟨fun hb h hp=>Stable.below hb (h hp)⟩
instance {α:Type} [Inhabited α] {enc:α→Value} {A:Option Addr} {n:Nat} {xs:List α}:Stable (fun w=>Sl enc w A n xs):=⟨fun hb h=>h.below (Nat.le_refl _) hb⟩
instance {g:Nat} {e:TypeId} {cs:List Value}:Stable (fun w=>RowC w g e cs):=⟨fun hb h=>h.below' hb⟩
instance {α:Type} {enc:α→Value} {base:Nat} {e:TypeId} {A:Option Addr} {n c:Nat} {xs:List α}:Stable (fun w=>OwnR enc w base e A n c xs):=⟨fun hb h=>h.below (Nat.le_refl _) hb⟩
instance {α:Type} {enc:α→Value} {g:Nat} {e:TypeId} {xs:List α} {rest:List Value}:Stable (fun w=>RowAt enc w g e xs rest):=⟨fun hb h=>h.below hb h.lt⟩
instance {B:Nat}:Stable (fun w=>B≤w.heap.size):=⟨fun hb h=>Nat.le_trans h hb.size⟩
end

structure Held (w0:World) (P:World→Prop) (w:World):Prop where
 bel:Below w0.heap.size w0 w
 has:P w

section
variable {w0 w w':World} {P Q:World→Prop}
theorem Held.start (w0:World) (h:P w0):Held w0 P w0:=⟨Below.refl _ _,h⟩
theorem Held.init (w0:World):Held w0 (fun _=>True) w0:=⟨Below.refl _ _,trivial⟩
theorem Held.step [Stable P] (h:Held w0 P w) (hb:Below w.heap.size w w'):Held w0 P w':=⟨h.bel.trans (hb.mono h.bel.size),Stable.below hb h.has⟩
theorem Held.alloc [Stable P] (h:Held w0 P w) (o:Obj):Held w0 P (w.alloc o):=h.step ((Below.refl _ _).alloc (Nat.le_refl _) o)
theorem Held.drewN [Stable P] (h:Held w0 P w) (k:Nat):Held w0 P (w.drewN k):=h.step (below_refl_drewN _ _ _)
theorem Held.drew [Stable P] (h:Held w0 P w):Held w0 P w.drew:=h.drewN 1
theorem Held.and (h:Held w0 P w) (hq:Q w):Held w0 (fun w=>Q w∧P w) w:=⟨h.bel,hq,h.has⟩
theorem Held.sl [Stable P] {α:Type} [Inhabited α] {enc:α→Value} {A:Option Addr} {n:Nat} {xs:List α} (h:Held w0 P w) (hq:Sl enc w A n xs):Held w0 (fun w=>Sl enc w A n xs∧P w) w:=⟨h.bel,hq,h.has⟩
theorem Held.own [Stable P] {α:Type} {enc:α→Value} {base:Nat} {e:TypeId} {A:Option Addr} {n c:Nat} {xs:List α} (h:Held w0 P w) (hq:OwnR enc w base e A n c xs):Held w0 (fun w=>OwnR enc w base e A n c xs∧P w) w:=⟨h.bel,hq,h.has⟩
theorem Held.row [Stable P] {g:Nat} {e:TypeId} {cs:List Value} (h:Held w0 P w) (hq:RowC w g e cs):Held w0 (fun w=>RowC w g e cs∧P w) w:=⟨h.bel,hq,h.has⟩
theorem Held.ge [Stable P] {B:Nat} (h:Held w0 P w) (hq:B≤w.heap.size):Held w0 (fun w=>B≤w.heap.size∧P w) w:=⟨h.bel,hq,h.has⟩
theorem Held.imp (h:Held w0 P w) (hq:P w→Q w):Held w0 Q w:=⟨h.bel,hq h.has⟩
theorem Held.new [Stable P] (h:Held w0 P w) (e:TypeId) (cs:List Value):Held w0 (fun w'=>RowC w' w.heap.size e cs∧P w') (w.alloc (.cells cs.toArray e)):=(h.alloc _).and (RowC.new w e cs)
section
variable {A B C D E:World→Prop}
end
theorem Held.size (h:Held w0 P w):w0.heap.size≤w.heap.size:=h.bel.size
end
theorem bg {w0 w:World} {P:World→Prop} (H:Held w0 P w) {C:Prop} (f:P w→C:=by (intro q;first | with_reducible exact q.1 | with_reducible exact q.2.1 | with_reducible exact q.2.2.1 | with_reducible exact q.2.2.2.1 | with_reducible exact q.2.2.2.2.1 | with_reducible exact q.2.2.2.2.2.1 | with_reducible exact q.2.2.2.2.2.2.1 | with_reducible exact q.2.2.2.2.2.2.2.1 | with_reducible exact q.2.2.2.2.2.2.2.2.1 | with_reducible exact q.2.2.2.2.2.2.2.2.2.1 | with_reducible exact q.2.2.2.2.2.2.2.2.2.2.1 | with_reducible exact q.2.2.2.2.2.2.2.2.2.2.2.1 | with_reducible exact q.2.2.2.2.2.2.2.2.2.2.2.2.1 | with_reducible exact q.2.2.2.2.2.2.2.2.2.2.2.2.2.1 | with_reducible exact q.2.2.2.2.2.2.2.2.2.2.2.2.2.2.1 | with_reducible exact q.2.2.2.2.2.2.2.2.2.2.2.2.2.2.2.1 | with_reducible exact q.2.2.2.2.2.2.2.2.2.2.2.2.2.2.2.2.1 | with_reducible exact q.2.2.2.2.2.2.2.2.2.2.2.2.2.2.2.2.2.1 | with_reducible exact q.2.2.2.2.2.2.2.2.2.2.2.2.2.2.2.2.2.2.1 | with_reducible exact q.2.2.2.2.2.2.2.2.2.2.2.2.2.2.2.2.2.2.2.1)):C:=f H.has
end Go.Proofs.YtgbmnlmnhbkdbaaGreat
/- Memory of the call's own: make and append with an element type's facts in one word; what turns between two worlds. Conditions: lengths within Go's bound. -/
namespace Go.Proofs.YtgbmnlmnhbkdbaaGreat
open Go.RowKit

structure EI (P:Program) (t e:TypeId) (z:Value) (bytes:Nat):Prop where
 ex:∃ i:TypeInfo,P.underlying t=some (.slice e)∧P.info? e=some i∧i.zero=some z∧i.size=1∧i.bytes=bytes
 zs:z.cells=#[z]
 pos:1≤bytes
theorem EI.mk' {P:Program} {t e:TypeId} {z:Value} {bytes:Nat} (h1:P.underlying t=some (.slice e)) (h2:(P.info? e).map (fun i=>(i.zero,i.size,i.bytes))=some (some z,1,bytes)) (h3:z.cells=#[z]) (h4:1≤bytes):EI P t e z bytes:=by
 obtain ⟨i0,hi,hz0,hz1,hz2⟩:=info_parts h2
 exact ⟨⟨i0,h1,hi,hz0,hz1,hz2⟩,h3,h4⟩

theorem OwnR.at_row {α:Type} {enc:α→Value} {w:World} {base:Nat} {e:TypeId} {A:Option Addr} {n c:Nat} {xs:List α} (h:OwnR enc w base e A n c xs):A=none ∨ ∃ g,A=some ⟨g,0,none⟩∧base≤g∧g < w.heap.size:=by
 rcases h.2 with ⟨hv,_⟩ | ⟨g,cap,cur,hv,hb,hg,_⟩
 ·injection hv with e1;exact .inl e1
 ·injection hv with e1;exact .inr ⟨g,e1,hb,(Array.getElem?_eq_some_iff.1 hg).1⟩
theorem OwnR.setFar {α:Type} {enc:α→Value} {w:World} {base:Nat} {e:TypeId} {A:Option Addr} {n c:Nat} {xs:List α} (h:OwnR enc w base e A n c xs) {p:Addr} (hp:∀ g,A=some ⟨g,0,none⟩→g ≠ p.block) (u:Value):OwnR enc (w.setCell p u) base e A n c xs:=by
 refine h.grown (row:=some p.block) ⟨rfl,rfl,rfl,by simp [World.setCell],fun k _ hne=>Below.heap_setCell _ _ _ _ (by rintro rfl;exact hne rfl)⟩ fun g e1 e2=>?_
 injection e2 with e2
 exact hp g e1 e2.symm

section
variable {P:Program} (w:World)
theorem wpList_app {α:Type} [Inhabited α] {t e:TypeId} {z:Value} {bytes:Nat} (E:EI P t e z bytes) (enc:α→Value) (h1:∀ x,(enc x).oneCell'=true) {ops:Array Oper} {rest:List Oper} {o:Oper} {a:Act} {Q:Exit→Act→World→Prop} (hgd:o.guard=none) (s x:Operand)
 (ho:o.op=.call { callee:=.builtin .append,args:=#[s,x],argTypes:=#[t,t] }) (base:Nat) (A:Option Addr) (n c:Nat) (xs:List α) (hs:a.eval s=.slice A n c) (hown:OwnR enc w base e A n c xs)
 (B:Option Addr) (m d:Nat) (ys:List α) (hx:a.eval x=.slice B m d) (hy:Sl enc w B m ys) (hbytes:(n + m) * bytes≤140737488355328) (hbase:base≤w.heap.size)
 (h:∀ A' c' w',OwnR enc w' base e A' (n + m) c' (xs ++ ys)→w.grownBy w' (Value.slice A n c).ownBlock→Below base w w' →
   ((Value.slice A' (n + m) c').ownBlock=(Value.slice A n c).ownBlock ∨ (Value.slice A' (n + m) c').ownBlock=some w.heap.size)→wpList P ops Q rest (a.put o.dst (.slice A' (n + m) c')) w'):wpList P ops Q (o :: rest) a w:=by
 obtain ⟨⟨i,e1,e2,e3,e4,e5⟩,hz,hp⟩:=E
 refine wpList_append_sl w enc h1 hgd s x t ho base e i z bytes e1 e2 e3 e4 e5 (by rw [hz];rfl) A n c xs hs hown B m d ys hx hy ?_ hbytes hbase h
 have:(n + m) * 1≤(n + m) * bytes:=Nat.mul_le_mul_left _ hp
 unfold maxLen;omega
theorem wpList_mk {α:Type} [Inhabited α] {t e:TypeId} {z:Value} {bytes:Nat} (E:EI P t e z bytes) (enc:α→Value) (x0:α) (hx0:enc x0=z) {ops:Array Oper} {rest:List Oper} {o:Oper} {a:Act} {Q:Exit→Act→World→Prop} (hgd:o.guard=none) (l c:Operand)
 (ho:o.op=Op.makeSlice t l c) (n:Nat) (hl:a.eval l=.int .i64 (n:Int)) (hc:a.eval c=.int .i64 (n:Int)) (hb:bytes * n≤281474976710656)
 (h:∀ w',RowAt enc w' w.heap.size e (List.replicate n x0) []→Below w.heap.size w w'→wpList P ops Q rest (a.put o.dst (.slice (some ⟨w.heap.size,0,none⟩) n n)) w'):wpList P ops Q (o :: rest) a w:=by
 obtain ⟨⟨i,e1,e2,e3,e4,e5⟩,hz,hp⟩:=E
 have hn:1 * n≤bytes * n:=Nat.mul_le_mul_right _ hp
 refine wpList_make_full w hgd l c t ho w.heap.size e i z 1 e1 e2 e3 e4 .i64 .i64 _ _ n hl hc rfl rfl (by rw [e5];exact hb) (by unfold maxLen;omega) (Nat.le_refl _) fun w' h1 h2=>h w' ?_ ⟨h2.os,h2.tape,h2.output,h2.size,fun b hb=>h2.block b hb (by simp)⟩
 rcases h1.2 with ⟨h3,_⟩ | ⟨g,cap,cur,h3,h4,h5,h6,h7,h8,h9⟩
 ·cases h3
 ·injection h3 with e6 e7 e8
  injection e6 with e6
  injection e6 with e6
  subst e6 e8
  have hl:=h1.1
  unfold RowAt
  rw [h5]
  congr 2
  rw [hz,Nat.mul_one,toList_madeCells_one] at h9
  rw [Nat.mul_one] at h8
  rw [List.take_of_length_le (by simp [h8])] at h9
  rw [List.map_replicate,hx0,List.append_nil,← h9]
end

structure Turn (w w':World) (S:Nat→Prop):Prop where
 os:w'.os=w.os
 tape:w'.tape=w.tape
 output:w'.output=w.output
 size:w.heap.size≤w'.heap.size
 block:∀ b,b < w.heap.size→¬ S b→w'.heap[b]?=w.heap[b]?
section
variable {a b c w w':World} {S T:Nat→Prop}
theorem Turn.refl (w:World) (S:Nat→Prop):Turn w w S:=⟨rfl,rfl,rfl,Nat.le_refl _,fun _ _ _=>rfl⟩
theorem Turn.trans (h:Turn a b S) (k:Turn b c T) (hT:∀ x,x < a.heap.size→T x→S x):Turn a c S:=
 ⟨k.os.trans h.os,k.tape.trans h.tape,k.output.trans h.output,Nat.le_trans h.size k.size,fun i hi hn=>(k.block i (Nat.lt_of_lt_of_le hi h.size) fun ht=>hn (hT i hi ht)).trans (h.block i hi hn)⟩
theorem Turn.mono (h:Turn a b S) (hT:∀ x,x < a.heap.size→S x→T x):Turn a b T:=⟨h.os,h.tape,h.output,h.size,fun i hi hn=>h.block i hi fun ht=>hn (hT i hi ht)⟩
theorem Turn.of_grown {row:Option Nat} (h:a.grownBy b row):Turn a b (fun x=>row=some x):=⟨h.os,h.tape,h.output,h.size,fun i hi hn=>h.block i hi fun e=>hn e.symm⟩
theorem Turn.of_below (h:Below a.heap.size a b) (S:Nat→Prop):Turn a b S:=⟨h.os,h.tape,h.output,h.size,fun i hi _=>h.block i hi⟩
theorem Turn.drewN (h:Turn a b S) (k:Nat):Turn a (b.drewN k) S:=⟨h.os,h.tape,h.output,h.size,h.block⟩
theorem Turn.drew (h:Turn a b S):Turn a b.drew S:=h.drewN 1
theorem Turn.alloc (h:Turn a b S) (o:Obj):Turn a (b.alloc o) S:=h.trans (Turn.of_below ((Below.refl _ _).alloc (Nat.le_refl _) o) (fun _=>False)) fun _ _ e=>e.elim
theorem Turn.setCell (h:Turn a b S) (p:Addr) (hp:p.block < a.heap.size→S p.block) (v:Value):Turn a (b.setCell p v) S:=
 ⟨h.os,h.tape,h.output,by have:=h.size;simpa [World.setCell] using this,fun i hi hn=>(Below.heap_setCell b p v i (fun e=>hn (by rw [e] at hi ⊢;exact hp hi))).trans (h.block i hi hn)⟩
theorem Turn.below (h:Turn a b S) {B:Nat} (hB:B≤a.heap.size) (hS:∀ x,x < B→¬ S x):Below B a b:=⟨h.os,h.tape,h.output,h.size,fun k hk=>h.block k (by omega) (hS k hk)⟩
theorem OwnR.turn {α:Type} {enc:α→Value} {base:Nat} {e:TypeId} {A:Option Addr} {n c:Nat} {xs:List α} (h:OwnR enc a base e A n c xs) (ht:Turn a b S) (hS:∀ g,A=some ⟨g,0,none⟩→¬ S g):OwnR enc b base e A n c xs:=by
 refine ⟨h.1,?_⟩
 rcases h.2 with h2 | ⟨g,cap,cur,h1,hb,hh,r⟩
 ·exact .inl h2
 ·have e1:A=some ⟨g,0,none⟩:=by injection h1
  exact .inr ⟨g,cap,cur,h1,hb,(ht.block g (Array.getElem?_eq_some_iff.1 hh).1 (hS g e1)).trans hh,r⟩
theorem RowC.turn {g:Nat} {e:TypeId} {cs:List Value} (h:RowC a g e cs) (ht:Turn a b S) (hS:¬ S g):RowC b g e cs:=(ht.block g h.lt hS).trans h
theorem RowAt.turn {α:Type} {enc:α→Value} {g:Nat} {e:TypeId} {xs:List α} {rest:List Value} (h:RowAt enc a g e xs rest) (ht:Turn a b S) (hS:¬ S g):RowAt enc b g e xs rest:=(ht.block g h.lt hS).trans h
end
theorem Sl.litM {α:Type} [Inhabited α] (enc:α→Value) (w:World) (e:TypeId) (xs:List α) (h:xs.length≤140737488351232):Sl enc (w.alloc (.cells (xs.map enc).toArray e)) (some ⟨w.heap.size,0,none⟩) xs.length xs:=
 ⟨rfl,h,fun _=>⟨w.heap.size,0,rfl,by simp,fun j hj=>by
   rw [cell_of_row _ _ _ _ _ _ (heap_alloc_new w _),Nat.zero_add]
   simp only [List.getElem?_toArray,List.getElem?_map,nth_get? hj]
   rfl⟩⟩
end Go.Proofs.YtgbmnlmnhbkdbaaGreat
