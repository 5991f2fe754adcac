/- Joined by program out of: FamR, OwnF, STurnM, STurnL, SWithM. What each says stands at its own head. -/
import Derived.Test.YtmncjibcoffmfaaGreatJ21
set_option linter.unusedVariables false
set_option linter.unusedSimpArgs false
/- A family of lists reads as a network; a box that holds its heads; a list made and its head laid to another. Conditions: lengths within Go's bound. -/
namespace Go.Proofs.YtmncjibcoffmfaaGreat
open Go.RowKit

theorem nth_map_range {α:Type} [Inhabited α] (f:Nat→α) {n i:Nat} (h:i < n):nth ((List.range n).map f) i=f i:=by
 rw [nth_map _ (by simpa using h)]
 congr 1
 simp [nth,List.getD,List.getElem?_range h]
def tabT (T:Nat→Nat→Rat) (i m:Nat):List RawR:=(List.range m).map fun j=>normR (T i j)
def netT (N:NetV) (T:Nat→Nat→Rat):NetV:=⟨N.name,N.names,N.values,N.parents,(List.range N.tables.length).map fun i=>tabT T i (nth N.tables i).length⟩
section
variable {w w':World} {lo:Nat} {M:Key→Lst} {N:NetV} {T:Nat→Nat→Rat}
theorem Lst.own.slR {α:Type} [Inhabited α] {enc:α→Value} {L:Lst} {e:TypeId} {xs:List α} (h:L.own w lo) (hi:Is L e 1 xs.length (xs.map enc)) (hb:xs.length≤140737488351232):Sl enc w L.A xs.length xs:=by
 have h1:=h.ownR (enc:=enc) (xs:=xs) hi.s hi.cs
 rw [hi.n] at h1
 exact h1.sl hb
theorem tab_raw (h:Fam w lo M) {i m:Nat} (ht:Tab M T i m) (hl:∀ j,j < m→ratLen (T i j)≤140737488351232) (hm:m≤140737488351232):RRow w (M (kt i)).A m (tabT T i m):=by
 refine ⟨⟨hdrs M T i m,?_,fun j hj=>?_⟩,by simp [tabT]⟩
 ·have h1:=(h.own (kt i)).ownM (E:=ratE) ht.row.s ht.row.cs
  rw [ht.row.n] at h1
  exact h1.sl (by omega) hm
 ·have hn:nth (hdrs M T i m) j=hdr M T i j:=by unfold hdrs;exact nth_map_range _ hj
  have ht':nth (tabT T i m) j=normR (T i j):=by unfold tabT;exact nth_map_range _ hj
  rw [hn,ht']
  have h1:=ht.num j hj
  have h2:=ht.den j hj
  have hlj:=hl j hj
  unfold ratLen at hlj
  unfold hdr normR
  refine ⟨rfl,?_,(h.own (kn i j)).cap,limbs_L32 _,?_,(h.own (kd i j)).cap,limbs_L32 _⟩
  ·simp only
   rw [h1.n]
   exact (h.own (kn i j)).slR (enc:=eU) h1 (by omega)
  ·simp only
   rw [h2.n]
   exact (h.own (kd i j)).slR (enc:=eU) h2 (by omega)
theorem heads_own (h:Fam w lo M) {k:Key} {f:Nat→Key} {e:TypeId} {n:Nat} (hi:Is (M k) e 1 n (heads M f n)) (hb:n≤140737488351232):Sl eS w (M k).A n ((List.range n).map fun i=>((M (f i)).A,(M (f i)).n,(M (f i)).c)):=by
 have h1:=(h.own k).ownR (enc:=eS) (xs:=(List.range n).map fun i=>((M (f i)).A,(M (f i)).n,(M (f i)).c)) hi.s (by rw [hi.cs,heads,List.map_map];rfl)
 rw [hi.n] at h1
 exact h1.sl hb
theorem lists2_rows {α:Type} [Inhabited α] {enc:α→Value} (h:Fam w lo M) {k:Key} {f:Nat→Key} {e1 e2:TypeId} (L:List (List α)) (hl:Lists2 M k f e1 e2 L.length fun i=>(nth L i).map enc) (hb:L.length≤140737488351232) (hb2:∀ l,l ∈ L→l.length≤140737488351232):Rows enc w (M k).A L.length L:=by
 refine ⟨⟨_,heads_own h hl.out hb,fun i hi=>?_⟩,rfl⟩
 rw [nth_map_range _ hi]
 have h1:=hl.row i hi
 simp only [List.length_map] at h1
 refine ⟨?_,(h.own (f i)).cap⟩
 simp only
 rw [h1.n]
 exact (h.own (f i)).slR h1 (hb2 _ (nth_mem hi))
theorem link_tabs (h:Fam w lo M) {m:Nat} (hO:Is (M kT) 45 1 m (heads M kt m)) (ht:∀ i,i < m→Tab M T i (nth N.tables i).length) (hm:m=N.tables.length) (hb:m≤140737488351232) (hl:∀ i,i < m→(nth N.tables i).length≤140737488351232) (hT:∀ i j,i < m→j < (nth N.tables i).length→ratLen (T i j)≤140737488351232):Tabs w (M kT).A m (netT N T).tables:=by
 refine ⟨⟨_,heads_own h hO hb,fun i hi=>?_⟩,by simp [netT,hm]⟩
 rw [nth_map_range _ hi]
 have e1:nth (netT N T).tables i=tabT T i (nth N.tables i).length:=by unfold netT;exact nth_map_range _ (by omega)
 rw [e1]
 have h1:=ht i hi
 refine ⟨?_,(h.own (kt i)).cap⟩
 simp only
 rw [h1.row.n]
 exact tab_raw h h1 (hT i · hi) (hl i hi)
theorem link_net (h:Fam w lo M) (hL:Link M N T N.values.length N.parents.length N.tables.length) (hB:NetB N) (hT:∀ i j,i < N.tables.length→j < (nth N.tables i).length→ratLen (T i j)≤140737488351232) :
 NetAt w (netT N T) (M kN).A (M kV).A (M kP).A (M kT).A (M kN).c (M kV).c (M kP).c (M kT).c:=by
 have b1:=hB.names
 have b2:=hB.vals
 have b3:=hB.pars
 have b4:=hB.tabs
 refine ⟨(h.own kN).slR hL.names (show N.names.length≤140737488351232 by omega),lists2_rows h N.values hL.vals (by omega) fun l hl=>by have:=(hB.val l hl).1;omega,lists2_rows h N.parents hL.pars (by omega) fun l hl=>by have:=hB.par l hl;omega,?_,?_,?_,?_,?_⟩
 ·have e:(netT N T).tables.length=N.tables.length:=by simp [netT]
  rw [e]
  exact link_tabs h hL.tO hL.tab rfl (by omega) (fun i hi=>by have:=(hB.tab _ (nth_mem hi)).1;omega) hT
 ·have:=(h.own kN).cap;rw [hL.names.n] at this;exact this
 ·have:=(h.own kV).cap;rw [hL.vals.out.n] at this;exact this
 ·have:=(h.own kP).cap;rw [hL.pars.out.n] at this;exact this
 ·have:=(h.own kT).cap
  rw [hL.tO.n] at this
  have e:(netT N T).tables.length=N.tables.length:=by simp [netT]
  rw [e]
  exact this
abbrev kB:Key:=(9,0,0)
def boxCs (M:Key→Lst) (name:ByteArray):List Value:=[.string name,.slice (M kN).A (M kN).n (M kN).c,.slice (M kV).A (M kV).n (M kV).c,.slice (M kP).A (M kP).n (M kP).c,.slice (M kT).A (M kT).n (M kT).c]
def BoxM (M:Key→Lst) (g:Nat) (name:ByteArray):Prop:=M kB=⟨27,5,some ⟨g,0,none⟩,1,1,boxCs M name⟩
theorem BoxM.row {g:Nat} {name:ByteArray} (h:BoxM M g name) (hF:Fam w lo M):RowC w g 27 (boxCs M name):=by
 have ho:=hF.own kB
 unfold BoxM at h
 rw [h] at ho
 obtain ⟨cs,h1,h2,_,h4⟩:=ho.row (g:=g) rfl
 simp only at h1 h2 h4
 rw [List.take_of_length_le (by omega)] at h4
 rw [← h4]
 exact h1
theorem BoxM.lt {g:Nat} {name:ByteArray} (h:BoxM M g name) (hF:Fam w lo M):lo≤g∧g < w.heap.size:=by
 refine hF.lt (k:=kB) ?_
 unfold BoxM at h
 rw [h];rfl
theorem BoxM.upd {g:Nat} {name:ByteArray} (h:BoxM M g name) {k:Key} (L:Lst) (hk:4≤k.1∧k.1 ≠ 9):BoxM (upd M k L) g name:=by
 have hne:∀ (a:Nat) (x:Nat × Nat),a < 4 ∨ a=9→((a,x):Key) ≠ k:=fun a x ha e=>by subst e;simp only at hk;omega
 unfold BoxM boxCs at h ⊢
 rw [upd_ne _ _ (hne _ _ (.inr rfl)),upd_ne _ _ (hne _ _ (.inl (by omega))),upd_ne _ _ (hne _ _ (.inl (by omega))),upd_ne _ _ (hne _ _ (.inl (by omega))),upd_ne _ _ (hne _ _ (.inl (by omega)))]
 exact h
theorem Link.updB {n p m:Nat} (h:Link M N T n p m) (L:Lst):Link (upd M kB L) N T n p m:=
 ⟨by rw [upd_ne _ _ (kne (by omega))];exact h.names,h.vals.upd L (kne (by omega)) fun i _=>kne (by omega),h.pars.upd L (kne (by omega)) fun i _=>kne (by omega),
   by rw [upd_ne _ _ (kne (by omega)),heads_congr fun i _=>upd_ne M L (kne (by omega))];exact h.tO,
   fun i hi=>(h.tab i hi).upd L (kne (by omega)) fun j _=>⟨kne (by omega),kne (by omega)⟩⟩
theorem Fam.pushRow {w1 w2 w3:World} (h:Fam w lo M) (hl:lo≤w.heap.size) {k1 k2:Key} (hk:k2 ≠ k1) {L L2:Lst} (hb1:Below w.heap.size w w1) (ho:L.own w1 w.heap.size) (hb2:Below w1.heap.size w1 w2) (hg:w2.grownBy w3 (M k2).val.ownBlock) (ho2:L2.own w3 lo)
 (hat:L2.val.ownBlock=(M k2).val.ownBlock ∨ L2.val.ownBlock=some w2.heap.size):Fam w3 lo (upd (upd M k1 L) k2 L2):=by
 have h1:=(h.new hb1 k1 ho hl).below hb2
 have e:(upd M k1 L k2)=M k2:=upd_ne _ _ hk
 exact h1.app k2 (by rw [e];exact hg) ho2 (by rw [e];exact hat)
theorem BoxM.put1 {g:Nat} {name:ByteArray} (h:BoxM M g name) {k1:Key} {L L2:Lst} (hk1:4≤k1.1∧k1.1 ≠ 9):BoxM (Go.Proofs.YtmncjibcoffmfaaGreat.upd (Go.Proofs.YtmncjibcoffmfaaGreat.upd (Go.Proofs.YtmncjibcoffmfaaGreat.upd M k1 L) kV L2) kB ((M kB).over 2 [.slice L2.A L2.n L2.c])) g name:=by
 have hne:∀ (a:Nat) (x:Nat × Nat),a < 4 ∨ a=9→((a,x):Key) ≠ k1:=fun a x ha e=>by subst e;simp only at hk1;omega
 unfold BoxM boxCs at h ⊢
 rw [upd_same,upd_ne _ _ (kne (by omega)),upd_ne _ _ (kne (by omega)),upd_ne _ _ (hne _ _ (.inl (by omega))),upd_ne _ _ (kne (by omega)),upd_same,upd_ne _ _ (kne (by omega)),upd_ne _ _ (kne (by omega)),upd_ne _ _ (hne _ _ (.inl (by omega))),upd_ne _ _ (kne (by omega)),upd_ne _ _ (kne (by omega)),upd_ne _ _ (hne _ _ (.inl (by omega))),h]
 rfl
theorem BoxM.put2 {g:Nat} {name:ByteArray} (h:BoxM M g name) {k1:Key} {L L2:Lst} (hk1:4≤k1.1∧k1.1 ≠ 9):BoxM (Go.Proofs.YtmncjibcoffmfaaGreat.upd (Go.Proofs.YtmncjibcoffmfaaGreat.upd (Go.Proofs.YtmncjibcoffmfaaGreat.upd M k1 L) kP L2) kB ((M kB).over 3 [.slice L2.A L2.n L2.c])) g name:=by
 have hne:∀ (a:Nat) (x:Nat × Nat),a < 4 ∨ a=9→((a,x):Key) ≠ k1:=fun a x ha e=>by subst e;simp only at hk1;omega
 unfold BoxM boxCs at h ⊢
 rw [upd_same,upd_ne _ _ (kne (by omega)),upd_ne _ _ (kne (by omega)),upd_ne _ _ (hne _ _ (.inl (by omega))),upd_ne _ _ (kne (by omega)),upd_ne _ _ (kne (by omega)),upd_ne _ _ (hne _ _ (.inl (by omega))),upd_ne _ _ (kne (by omega)),upd_same,upd_ne _ _ (kne (by omega)),upd_ne _ _ (kne (by omega)),upd_ne _ _ (hne _ _ (.inl (by omega))),h]
 rfl
theorem BoxM.put3 {g:Nat} {name:ByteArray} (h:BoxM M g name) {L2:Lst}:BoxM (Go.Proofs.YtmncjibcoffmfaaGreat.upd (Go.Proofs.YtmncjibcoffmfaaGreat.upd M kT L2) kB ((M kB).over 4 [.slice L2.A L2.n L2.c])) g name:=by
 unfold BoxM boxCs at h ⊢
 rw [upd_same,upd_ne _ _ (kne (by omega)),upd_ne _ _ (kne (by omega)),upd_ne _ _ (kne (by omega)),upd_ne _ _ (kne (by omega)),upd_ne _ _ (kne (by omega)),upd_ne _ _ (kne (by omega)),upd_ne _ _ (kne (by omega)),upd_same,h]
 rfl
end
end Go.Proofs.YtmncjibcoffmfaaGreat
/- A family of lists whose heads stay: what they hold turns; a list gone on with behind its end leaves them all. No condition. -/
namespace Go.Proofs.YtmncjibcoffmfaaGreat
open Go.RowKit

def wth (M:Key→Lst) (C:Key→List Value):Key→Lst:=fun k=>⟨(M k).e,(M k).s,(M k).A,(M k).n,(M k).c,C k⟩
def updC (C:Key→List Value) (k:Key) (l:List Value):Key→List Value:=fun q=>if q=k then l else C q
theorem updC_same (C:Key→List Value) (k:Key) (l:List Value):updC C k l k=l:=if_pos rfl
theorem updC_ne (C:Key→List Value) {k q:Key} (l:List Value) (h:q ≠ k):updC C k l q=C q:=if_neg h
theorem updC_self (C:Key→List Value) (k:Key):updC C k (C k)=C:=by
 funext q
 by_cases e:q=k
 ·rw [e,updC_same]
 ·rw [updC_ne C _ e]
theorem updC_twice (C:Key→List Value) (k:Key) (l l2:List Value):updC (updC C k l) k l2=updC C k l2:=by
 funext q
 by_cases e:q=k
 ·rw [e,updC_same,updC_same]
 ·rw [updC_ne _ _ e,updC_ne _ _ e,updC_ne _ _ e]
theorem wth_val (M:Key→Lst) (C:Key→List Value) (k:Key):(wth M C k).val=(M k).val:=rfl
theorem wth_self (M:Key→Lst):wth M (fun k=>(M k).cs)=M:=rfl
theorem wth_upd (M:Key→Lst) (C:Key→List Value) (k:Key) (L:Lst):wth (upd M k L) (updC C k L.cs)=upd (wth M C) k L:=by
 funext q
 by_cases e:q=k
 ·unfold wth;rw [e,upd_same,upd_same,updC_same]
 ·unfold wth;rw [upd_ne _ _ e,upd_ne _ _ e,updC_ne _ _ e]
theorem wth_over (M:Key→Lst) (C:Key→List Value) (k:Key) (o:Nat) (vs:List Value):wth M (updC C k (setL (C k) o vs))=upd (wth M C) k ((wth M C k).over o vs):=by
 funext q
 by_cases e:q=k
 ·rw [e,upd_same];unfold wth Lst.over;rw [updC_same]
 ·rw [upd_ne _ _ e];unfold wth;rw [updC_ne _ _ e]
theorem ownBlock_congr {A B:Option Addr} {n c m d:Nat} (h:A=B):(Value.slice A n c).ownBlock=(Value.slice B m d).ownBlock:=by
 subst h
 cases A <;> rfl
theorem Lst.block_at {l:Lst} {g:Nat} (h:l.A=some ⟨g,0,none⟩):l.val.ownBlock=some g:=by unfold Lst.val;rw [h];rfl
structure OwnS (w0:World) (S:Nat→Prop) (lo:Nat) (M:Key→Lst) (C:Key→List Value) (w:World):Prop where
 fam:Fam w lo (wth M C)
 turn:Turn w0 w S
 ins:∀ k b,(M k).val.ownBlock=some b→b < w0.heap.size→S b
 lo0:lo≤w0.heap.size
section
variable {w0 w w':World} {S:Nat→Prop} {lo:Nat} {M:Key→Lst} {C:Key→List Value}
theorem OwnS.below (h:OwnS w0 S lo M C w) (hb:Below w.heap.size w w'):OwnS w0 S lo M C w':=⟨h.fam.below hb,h.turn.trans (Turn.of_below hb (fun _=>False)) fun _ _ e=>e.elim,h.ins,h.lo0⟩
theorem OwnS.lo_le (h:OwnS w0 S lo M C w):lo≤w.heap.size:=Nat.le_trans h.lo0 h.turn.size
instance:Stable (fun w=>OwnS w0 S lo M C w):=⟨fun hb h=>h.below hb⟩
theorem OwnS.len (h:OwnS w0 S lo M C w) (k:Key):(C k).length=(M k).n * (M k).s:=(h.fam.own k).len
theorem OwnS.at (h:OwnS w0 S lo M C w) (k:Key) (hn:0 < (M k).n):∃ g,(M k).A=some ⟨g,0,none⟩∧lo≤g∧g < w.heap.size∧(∀ j,w.frozen? ⟨g,j,none⟩=false)∧∀ j,j < (M k).n * (M k).s→w.cell? ⟨g,j,none⟩=(C k)[j]?:=by
 rcases (h.fam.own k).addr with ⟨_,h2,_,_⟩ | ⟨g,h1,h2,h3,h4⟩
 ·have h2:(M k).n=0:=h2
  omega
 ·refine ⟨g,h1,h3,h4,fun j=>?_,fun j hj=>(h.fam.own k).cell h1 hj⟩
  have ho:=h.fam.own k
  unfold Lst.own Lst.val at ho
  rw [h1] at ho
  exact ho.frozenAt j
theorem OwnS.cap (h:OwnS w0 S lo M C w) (k:Key):(M k).n≤(M k).c:=(h.fam.own k).cap
theorem OwnS.big (h:OwnS w0 S lo M C w) (k:Key):(M k).c≤maxLen:=(h.fam.own k).big
theorem OwnS.put (h:OwnS w0 S lo M C w) (k:Key) {g:Nat} (hg:(M k).A=some ⟨g,0,none⟩) (o:Nat) (vs:List Value):OwnS w0 S lo M (updC C k (setL (C k) o vs)) (w.setCells g o vs):=
 ⟨by rw [wth_over];exact h.fam.put k hg o vs,h.turn.trans (RowC.turnSet o vs) fun x hx e=>by subst e;exact h.ins k _ (Lst.block_at hg) hx,h.ins,h.lo0⟩
theorem OwnS.new (h:OwnS w0 S lo M C w) (hb:Below w.heap.size w w') (k:Key) {L:Lst} (ho:L.own w' w.heap.size):OwnS w0 S lo (upd M k L) (updC C k L.cs) w':=by
 refine ⟨by rw [wth_upd];exact h.fam.new hb k ho h.lo_le,h.turn.trans (Turn.of_below hb (fun _=>False)) fun _ _ e=>e.elim,fun q b h1 h2=>?_,h.lo0⟩
 by_cases e:q=k
 ·rw [e,upd_same] at h1
  have h3:=(ho.lt h1).1
  have h4:=h.turn.size
  omega
 ·rw [upd_ne _ _ e] at h1
  exact h.ins q b h1 h2
theorem OwnS.bare (h:OwnS w0 S lo M C w) (k:Key) (e:TypeId) (s:Nat):OwnS w0 S lo (upd M k ⟨e,s,none,0,0,[]⟩) (updC C k []) w:=by
 refine ⟨by rw [wth_upd M C k ⟨e,s,Option.none,0,0,[]⟩];exact h.fam.set k ⟨by simp,.inl ⟨rfl,rfl⟩⟩ (fun q b _ e1=>nomatch e1),h.turn,fun q b h1 h2=>?_,h.lo0⟩
 by_cases e:q=k
 ·rw [e,upd_same] at h1;cases h1
 ·rw [upd_ne _ _ e] at h1
  exact h.ins q b h1 h2
theorem OwnS.app (h:OwnS w0 S lo M C w) (k:Key) (hg:w.grownBy w' (M k).val.ownBlock) {L:Lst} (ho:L.own w' lo) (hat:L.val.ownBlock=(M k).val.ownBlock ∨ L.val.ownBlock=some w.heap.size):OwnS w0 S lo (upd M k L) (updC C k L.cs) w':=by
 refine ⟨by rw [wth_upd];exact h.fam.app k hg ho hat,h.turn.trans (Turn.of_grown hg) fun x hx e=>h.ins k x e hx,fun q b h1 h2=>?_,h.lo0⟩
 by_cases e:q=k
 ·rw [e,upd_same] at h1
  rcases hat with h3 | h3
  ·exact h.ins k b (by rw [← h3];exact h1) h2
  ·rw [h3] at h1
   injection h1 with h1
   have h4:=h.turn.size
   omega
 ·rw [upd_ne _ _ e] at h1
  exact h.ins q b h1 h2
structure ExtS (w0:World) (lo:Nat) (M:Key→Lst) (C:Key→List Value) (k:Key) (L:Lst) (w:World):Prop where
 own:L.own w lo
 e:L.e=(M k).e
 s:L.s=(M k).s
 n:(M k).n≤L.n
 cs:L.cs.take ((M k).n * (M k).s)=C k
 at':(L.A=(M k).A∧L.c=(M k).c) ∨ ((∀ q b,L.val.ownBlock=some b→(M q).val.ownBlock ≠ some b)∧∀ b,L.val.ownBlock=some b→w0.heap.size≤b)
theorem ExtS.step {k:Key} {L:Lst} {A':Option Addr} {m c':Nat} {news:List Value} (h:OwnS w0 S lo M C w) (x:ExtS w0 lo M C k L w) (ho:(⟨L.e,L.s,A',L.n + m,c',L.cs ++ news⟩:Lst).own w' lo) (hm:0 < m) (hg:w.grownBy w' L.val.ownBlock)
 (hd:(A'=L.A∧c'=L.c) ∨ (Below w.heap.size w w'∧(Value.slice A' (L.n + m) c').ownBlock=some w.heap.size)):OwnS w0 S lo M C w'∧ExtS w0 lo M C k ⟨L.e,L.s,A',L.n + m,c',L.cs ++ news⟩ w':=by
 have hlen:L.cs.length=L.n * L.s:=x.own.len
 have hk:(M k).n * (M k).s≤L.cs.length:=by rw [hlen,x.s];exact Nat.mul_le_mul_right _ x.n
 have htake:(L.cs ++ news).take ((M k).n * (M k).s)=C k:=by rw [List.take_append_of_le_length hk];exact x.cs
 have hn:(M k).n≤L.n + m:=Nat.le_trans x.n (Nat.le_add_right _ _)
 rcases hd with ⟨rfl,rfl⟩ | ⟨hb,hat⟩
 ·have ht:Turn w w' (fun b=>L.val.ownBlock=some b):=Turn.of_grown hg
  rcases x.at' with ⟨eA,eC⟩ | ⟨hno,hnew⟩
  ·have hv:L.val.ownBlock=(M k).val.ownBlock:=ownBlock_congr eA
   have hAn:L.A ≠ none:=fun e=>by
    rcases ho.addr with ⟨_,h2,_,_⟩ | ⟨g,h1,_⟩
    ·simp only at h2;omega
    ·simp only at h1;rw [e] at h1;cases h1
   have hk':(wth M C k).own w' lo:=by
    have h1:=ho.cut (n:=(M k).n) hn hAn
    simp only [x.e,x.s,eA,eC,htake] at h1
    exact h1
   refine ⟨⟨h.fam.slack k ?_ hk',h.turn.trans ht fun b hb e=>h.ins k b (by rw [← hv];exact e) hb,h.ins,h.lo0⟩,⟨ho,x.e,x.s,hn,htake,.inl ⟨eA,eC⟩⟩⟩
   rw [wth_val,← hv]
   exact ht
  ·have hvv:(⟨L.e,L.s,L.A,L.n + m,L.c,L.cs ++ news⟩:Lst).val.ownBlock=L.val.ownBlock:=ownBlock_congr rfl
   refine ⟨⟨h.fam.turn ht fun q b h1 h2=>hno q b h2 h1,h.turn.trans ht fun b hb e=>by have:=hnew b e;omega,h.ins,h.lo0⟩,⟨ho,x.e,x.s,hn,htake,.inr ⟨fun q b h1=>?_,fun b h1=>?_⟩⟩⟩
   ·rw [hvv] at h1;exact hno q b h1
   ·rw [hvv] at h1;exact hnew b h1
 ·refine ⟨h.below hb,⟨ho,x.e,x.s,hn,htake,.inr ⟨fun q b h1 h2=>?_,fun b h1=>?_⟩⟩⟩
  ·have h3:some w.heap.size=some b:=hat.symm.trans h1
   injection h3 with h3
   have:=(h.fam.lt (k:=q) h2).2
   omega
  ·have h3:some w.heap.size=some b:=hat.symm.trans h1
   injection h3 with h3
   have:=h.turn.size
   omega
def Gone (w0:World) (S:Nat→Prop) (lo:Nat) (M:Key→Lst) (C:Key→List Value) (k:Key) (A:Option Addr) (n c:Nat) (w:World):Prop:=OwnS w0 S lo M C w∧∃ cs,ExtS w0 lo M C k ⟨(M k).e,(M k).s,A,n,c,cs⟩ w
theorem OwnS.start (h:OwnS w0 S lo M C w) (k:Key):Gone w0 S lo M C k (M k).A (M k).n (M k).c w:=
 ⟨h,C k,h.fam.own k,rfl,rfl,Nat.le_refl _,by simp only;rw [List.take_of_length_le (by rw [h.len k];exact Nat.le_refl _)],.inl ⟨rfl,rfl⟩⟩
theorem Gone.below {k:Key} {A:Option Addr} {n c:Nat} (h:Gone w0 S lo M C k A n c w) (hb:Below w.heap.size w w'):Gone w0 S lo M C k A n c w':=by
 obtain ⟨h1,cs,x⟩:=h
 exact ⟨h1.below hb,cs,x.own.below hb,x.e,x.s,x.n,x.cs,x.at'⟩
end
section
variable {P:Program} (w:World)
theorem run_append_raw2 {t ty:TypeId} {z:Value} {L:Lst} {bytes:Nat} (I:EIM P t L.e z L.s bytes) (base:Nat) (hown:L.own w base)
 (ad:Addr) (m d:Nat) (news:List Value) (hl:news.length=m * L.s) (hy:∀ j u,news[j]?=some u→w.cell? (ad.add j)=some u) (h1:∀ u ∈ news,u.oneCell'=true) (hbytes:(L.n + m) * bytes≤140737488355328) (hbase:base≤w.heap.size) (hm:0 < m) :
 ∃ A' c' w',(Builtin.append_ #[t,t] ty #[L.val,.slice (some ad) m d]).run P w=.ok (.slice A' (L.n + m) c') w'∧(⟨L.e,L.s,A',L.n + m,c',L.cs ++ news⟩:Lst).own w' base∧w.grownBy w' L.val.ownBlock ∧
  ((A'=L.A∧c'=L.c) ∨ (Below w.heap.size w w'∧(Value.slice A' (L.n + m) c').ownBlock=some w.heap.size)):=by
 obtain ⟨⟨i,e1,e2,e3,e4,e5⟩,hz,hp,hk⟩:=I
 have h63:L.n + m≤maxLen:=by
  have:(L.n + m) * 1≤(L.n + m) * bytes:=Nat.mul_le_mul_left _ hp
  unfold maxLen;omega
 obtain ⟨v',w',hrun,h2,h3,h4,h5⟩:=run_append_own_at (P:=P) w base t ty L.e i z L.s bytes e1 e2 e3 e4 e5 hz hk L.val L.n L.cs hown ad m d news hl hy h1 h63 hbytes hbase
 have hv:∃ A' c',v'=.slice A' (L.n + m) c':=by
  rcases h2.2 with ⟨_,h0⟩ | ⟨g,cap,cur,rfl,_⟩
  ·omega
  ·exact ⟨_,cap,rfl⟩
 obtain ⟨A',c',rfl⟩:=hv
 have hsm:(Value.slice A' (L.n + m) c').ownBlock ≠ none:=by
  rcases h2.2 with ⟨_,h0⟩ | ⟨g,cap,cur,e,_⟩
  ·omega
  ·rw [e];simp [Value.ownBlock]
 refine ⟨A',c',w',hrun,h2,h3,?_⟩
 rcases hown.2 with ⟨hv,hn0⟩ | ⟨g,cap,cur,hv,hgb,hgg,hnc,hcm,hcs,htk⟩
 ·right
  rw [hv] at h3 h5
  have hg':w.grownBy w' none:=h3
  refine ⟨⟨hg'.os,hg'.tape,hg'.output,hg'.size,fun b hb=>hg'.block b hb (by simp)⟩,?_⟩
  rcases h5 with h5 | h5
  ·exact absurd h5 hsm
  ·exact h5
 ·have hv':=hv
  unfold Lst.val at hv'
  injection hv' with f1 f2 f3
  rcases Nat.lt_or_ge cap (L.n + m) with hfull | hroom
  ·right
   have holds:∀ j u,L.cs[j]?=some u→w.cell? ((⟨g,0,none⟩:Addr).add j)=some u:=World.ownsRow.cells hown (by rw [hv];rfl)
   have hr:=run_append_grow (P:=P) w t ty L.e i z e1 e2 e3 ⟨g,0,none⟩ L.n cap L.cs (by rw [e4];exact hown.1) holds ad m d news (by rw [e4];exact hl) hy hfull (by unfold maxLen at h63;omega) (by rw [e5];exact growslice_fits hfull hbytes)
   rw [hv,hr] at hrun
   injection hrun with k2 k3
   injection k2 with k4 _ _
   subst k3 k4
   refine ⟨?_,rfl⟩
   exact (below_refl_drewN w.heap.size w 1).alloc (Nat.le_refl _) _
  ·left
   have hr:=run_append_room (P:=P) w t ty L.e i e1 e2 g L.n cap cur hgg ad m d news (by rw [e4];exact hl) hy h1 hroom (by rw [e4,hcs,hl,← Nat.add_mul];exact Nat.mul_le_mul_right _ hroom)
   rw [hv,hr] at hrun
   injection hrun with k2 k3
   injection k2 with k4 _ k5
   exact ⟨k4.symm.trans f1.symm,k5.symm.trans f3.symm⟩
theorem wpList_gone {w0:World} {S:Nat→Prop} {lo:Nat} {M:Key→Lst} {C:Key→List Value} {k:Key} {A:Option Addr} {n c:Nat} (h:Gone w0 S lo M C k A n c w) {t e:TypeId} {s:Nat} {z:Value} {bytes:Nat} (I:EIM P t e z s bytes) (he:(M k).e=e) (hs':(M k).s=s)
 {ops:Array Oper} {rest:List Oper} {o:Oper} {a:Act} {Q:Exit→Act→World→Prop} (hgd:o.guard=none) (u x:Operand)
 (ho:o.op=.call { callee:=.builtin .append,args:=#[u,x],argTypes:=#[t,t] }) (hs:a.eval u=.slice A n c)
 (ad:Addr) (m d:Nat) (news:List Value) (hx:a.eval x=.slice (some ad) m d) (hl:news.length=m * s) (hy:∀ j v,news[j]?=some v→w.cell? (ad.add j)=some v) (h1:∀ v ∈ news,v.oneCell'=true) (hbytes:(n + m) * bytes≤140737488355328) (hbase:lo≤w.heap.size) (hm:0 < m)
 (H:∀ A' c' w',Gone w0 S lo M C k A' (n + m) c' w'→wpList P ops Q rest (a.put o.dst (.slice A' (n + m) c')) w'):wpList P ops Q (o :: rest) a w:=by
 obtain ⟨h0,cs,x0⟩:=h
 subst he hs'
 refine wpList_plain hgd fun K hK=>?_
 obtain ⟨A',c',w',hrun,h2,h3,h4⟩:=run_append_raw2 (P:=P) (ty:=o.type) w (L:=⟨(M k).e,(M k).s,A,n,c,cs⟩) I lo x0.own ad m d news hl hy h1 hbytes hbase hm
 have hv:(⟨(M k).e,(M k).s,A,n,c,cs⟩:Lst).val=.slice A n c:=rfl
 rw [hv] at hrun
 unfold Oper.wp execOp
 simp only [ho,resolve,invoke,builtin,Sem.run_bind,Sem.run_pure,Result.andThen_ok,List.map_toArray,List.map_cons,List.map_nil,hs,hx,hrun]
 obtain ⟨r1,r2⟩:=x0.step h0 h2 hm h3 h4
 exact hK _ _ (H A' c' w' ⟨r1,_,r2⟩)
end
def fillL (l:List Value) (q:Nat) (v:Value):List Value:=List.replicate q v ++ l.drop q
theorem fillL_zero (l:List Value) (v:Value):fillL l 0 v=l:=by simp [fillL]
theorem fillL_length (l:List Value) (q:Nat) (v:Value) (h:q≤l.length):(fillL l q v).length=l.length:=by simp [fillL];omega
theorem fillL_full (l:List Value) (q:Nat) (v:Value) (h:l.length≤q):fillL l q v=List.replicate q v:=by simp [fillL,h]
theorem fillL_set (l:List Value) (q:Nat) (v:Value) (h:q < l.length):setL (fillL l q v) q [v]=fillL l (q + 1) v:=by
 show (fillL l q v).set q v=fillL l (q + 1) v
 unfold fillL
 rw [List.set_append_right _ _ (by simp),List.length_replicate,Nat.sub_self,List.drop_eq_getElem_cons h,List.set_cons_zero,List.replicate_succ',List.append_assoc]
 rfl
end Go.Proofs.YtmncjibcoffmfaaGreat
/- For sense.Turn: the numbers as they are turned one by one; how long lines are; the family it starts with; boxes of no network. Conditions: lengths within Go's bound. -/
namespace Go.Proofs.YtmncjibcoffmfaaGreat
open Go.RowKit

def stepQ (N:NetV) (v row value:Nat) (x:Rat) (k:Nat):Nat→Nat→Rat:=fun u j =>
 if u=v∧row * nth N.Z v≤j∧j < row * nth N.Z v + k then newQ N v row value x (j - row * nth N.Z v) else (nth (nth N.tables u) j).q
theorem stepQ_all (N:NetV) (v row value:Nat) (x:Rat):stepQ N v row value x (nth N.Z v)=turnQ N v row value x:=rfl
theorem stepQ_zero (N:NetV) (v row value:Nat) (x:Rat) (u j:Nat):stepQ N v row value x 0 u j=(nth (nth N.tables u) j).q:=if_neg (by omega)
theorem stepQ_other {N:NetV} {v row value:Nat} {x:Rat} {k u:Nat} (h:u ≠ v) (j:Nat):stepQ N v row value x (k + 1) u j=stepQ N v row value x k u j:=by
 unfold stepQ
 rw [if_neg (fun e=>h e.1),if_neg (fun e=>h e.1)]
theorem stepQ_else {N:NetV} {v row value:Nat} {x:Rat} {k j:Nat} (h:j ≠ row * nth N.Z v + k):stepQ N v row value x (k + 1) v j=stepQ N v row value x k v j:=by
 unfold stepQ
 by_cases e:row * nth N.Z v≤j∧j < row * nth N.Z v + k
 ·rw [if_pos ⟨rfl,e.1,by omega⟩,if_pos ⟨rfl,e⟩]
 ·rw [if_neg (fun q=>e ⟨q.2.1,by omega⟩),if_neg (fun q=>e q.2)]
theorem stepQ_at (N:NetV) (v row value:Nat) (x:Rat) (k:Nat):stepQ N v row value x (k + 1) v (row * nth N.Z v + k)=newQ N v row value x k:=by
 unfold stepQ
 rw [if_pos ⟨rfl,by omega,by omega⟩,Nat.add_sub_cancel_left]
theorem line_len {N:NetV} {v row value:Nat} (hp:PlaceOk N v row value) (hl:∀ j,j < (nth N.tables v).length→ratLen (nth (nth N.tables v) j).q≤8388609) (hw:nth N.Z v≤1048576) {k:Nat} (hk:k < nth N.Z v) :
 ratLen (lineA N v row value k)≤30000000∧ratLen (lineB N v row value k)≤30000000:=by
 have hfit:=hp.fits
 have hval:=hp.val
 have hwide:=hp.wide
 have h0:ratLen 0≤2:=by
  rw [ratLen_eq]
  have a0:numL (0:Rat)=0:=by unfold numL;rw [show (0:Rat).num.natAbs=0 from rfl,limbs_zero];rfl
  have a1:denL (0:Rat)≤1:=limbs_len (by rw [Nat.pow_one];decide)
  omega
 have hs:ratLen (shareQ N v row value k)≤30000000:=by
  unfold shareQ
  split
  ·have h1:=mk_lens 1 (d:=nth N.Z v - 1) (by omega)
   have h2:(limbs (1:Int).natAbs).length≤1:=limbs_len (by rw [Nat.pow_one];decide)
   have h3:(limbs (nth N.Z v - 1)).length≤1:=limbs_len (by rw [Nat.pow_one];unfold bB;omega)
   rw [ratLen_eq]
   omega
  ·rename_i hne
   have h1:=div_len (nth (nth N.tables v) (row * nth N.Z v + k)).q _ hne
   have h2:=hl (row * nth N.Z v + k) (by omega)
   have h3:=hl (row * nth N.Z v + value) (by omega)
   have h4:=sub_len 1 (nth (nth N.tables v) (row * nth N.Z v + value)).q
   rw [ratLen_one] at h4
   unfold leftQ at h1 ⊢
   omega
 unfold lineA lineB
 split
 ·exact ⟨by omega,by rw [ratLen_one];omega⟩
 ·refine ⟨hs,?_⟩
  rw [ratLen_neg]
  exact hs
theorem new_len {N:NetV} {v row value:Nat} {x:Rat} {k:Nat} (hl:ratLen (lineA N v row value k)≤30000000∧ratLen (lineB N v row value k)≤30000000) (hx:ratLen x≤100000001):ratLen (newQ N v row value x k)≤1000000000:=by
 rw [← line_new]
 have h1:=mul_len (lineB N v row value k) x
 have h2:=add_len (lineA N v row value k) (lineB N v row value k * x)
 omega
theorem step_len {N:NetV} {v row value:Nat} {x:Rat} (hl:∀ k,k < nth N.Z v→ratLen (newQ N v row value x k)≤1000000000) (ht:∀ i j,i < N.tables.length→j < (nth N.tables i).length→ratLen (nth (nth N.tables i) j).q≤8388609) {k i j:Nat} (hk:k≤nth N.Z v) (hi:i < N.tables.length) (hj:j < (nth N.tables i).length) :
 ratLen (stepQ N v row value x k i j)≤1000000000:=by
 unfold stepQ
 split
 ·rename_i h
  exact hl _ (by omega)
 ·have:=ht i j hi hj
  omega
def m0:Key→Lst:=fun k=>if k.1=0 then ⟨9,1,none,0,0,[]⟩ else if k.1=1 then ⟨22,1,none,0,0,[]⟩ else if k.1=2 then ⟨53,1,none,0,0,[]⟩ else ⟨45,1,none,0,0,[]⟩
theorem m0_nil (k:Key):(m0 k).A=none∧(m0 k).n=0∧(m0 k).c=0∧(m0 k).cs=[]:=by
 unfold m0
 repeat (first | exact ⟨rfl,rfl,rfl,rfl⟩ | split)
theorem m0_fam (w:World) (lo:Nat):Fam w lo m0:=Fam.none w lo m0 m0_nil
theorem m0_link (T:Nat→Nat→Rat):Link m0 emptyN T 0 0 0:=
 ⟨⟨rfl,rfl,rfl,rfl⟩,⟨⟨rfl,rfl,rfl,rfl⟩,fun i hi=>absurd hi (Nat.not_lt_zero _)⟩,⟨⟨rfl,rfl,rfl,rfl⟩,fun i hi=>absurd hi (Nat.not_lt_zero _)⟩,⟨rfl,rfl,rfl,rfl⟩,fun i hi=>absurd hi (Nat.not_lt_zero _)⟩
theorem fam_start {w:World} {lo g:Nat} {C:Option Addr} {k:Nat} {N:NetV} {T:Nat→Nat→Rat} (ho:OwnR Value.string w lo 9 C N.names.length k N.names) (hbox:RowC w g 27 [.string N.name,.slice C N.names.length k,.slice none 0 0,.slice none 0 0,.slice none 0 0]) (hg:lo≤g) (hne:∀ b,(Value.slice C N.names.length k).ownBlock=some b→b ≠ g) :
 ∃ M,Fam w lo M∧Link M N T 0 0 0∧BoxM M g N.name:=by
 have h1:=(m0_fam w lo).set kN (L:=⟨9,1,C,N.names.length,k,N.names.map .string⟩) ho fun q b _ _ h2=>by
  unfold Lst.val at h2;rw [(m0_nil q).1] at h2;cases h2
 have hb:(⟨27,5,some ⟨g,0,none⟩,1,1,[.string N.name,.slice C N.names.length k,.slice none 0 0,.slice none 0 0,.slice none 0 0]⟩:Lst).own w lo:=
  ⟨rfl,.inr ⟨g,1,_,rfl,hg,hbox,Nat.le_refl _,by decide,rfl,rfl⟩⟩
 have h2:=h1.set kB hb fun q b hq h3 h4=>by
  have h3:g=b:=by injection h3
  subst h3
  by_cases e:q=kN
  ·subst e
   rw [upd_same] at h4
   exact hne _ h4 rfl
  ·rw [upd_ne _ _ e] at h4
   unfold Lst.val at h4;rw [(m0_nil q).1] at h4;cases h4
 refine ⟨_,h2,?_,?_⟩
 ·refine ⟨?_,⟨?_,fun i hi=>absurd hi (Nat.not_lt_zero _)⟩,⟨?_,fun i hi=>absurd hi (Nat.not_lt_zero _)⟩,?_,fun i hi=>absurd hi (Nat.not_lt_zero _)⟩
  ·rw [upd_ne _ _ (kne (by omega)),upd_same];exact ⟨rfl,rfl,rfl,rfl⟩
  ·rw [upd_ne _ _ (kne (by omega)),upd_ne _ _ (kne (by omega))];exact ⟨rfl,rfl,rfl,rfl⟩
  ·rw [upd_ne _ _ (kne (by omega)),upd_ne _ _ (kne (by omega))];exact ⟨rfl,rfl,rfl,rfl⟩
  ·rw [upd_ne _ _ (kne (by omega)),upd_ne _ _ (kne (by omega))];exact ⟨rfl,rfl,rfl,rfl⟩
 ·unfold BoxM boxCs
  rw [upd_same,upd_ne _ _ (kne (by omega)),upd_same,upd_ne _ _ (kne (by omega)),upd_ne _ _ (kne (by omega)),upd_ne _ _ (kne (by omega)),upd_ne _ _ (kne (by omega)),upd_ne _ _ (kne (by omega)),upd_ne _ _ (kne (by omega))]
  rfl
theorem ratAt_zero (w:World):RatAt w (.agg #[.bool false,.slice none 0 0,.slice none 0 0]) 0 0:=
 ⟨false,none,0,0,[],none,0,0,[],rfl,Sl.nil _ _ _,Nat.le_refl _,fun x hx=>(by cases hx),Sl.nil _ _ _,Nat.le_refl _,fun x hx=>(by cases hx),by decide,Nat.le_refl _⟩
theorem eiTxt:EI Tryz.prog 22 9 (.string ⟨#[]⟩) 16:=.mk' Tryz.underlying22 (by kernel_rfl) rfl (by omega)
theorem eiNum:EI Tryz.prog 53 3 (.int .i64 0) 8:=.mk' Tryz.underlying53 (by kernel_rfl) rfl (by omega)
def zeroC:List Value:=[.string ⟨#[]⟩,.slice none 0 0,.slice none 0 0,.slice none 0 0,.slice none 0 0]
theorem zero_box {w w2 w7:World} {g:Nat} (hR:RowC w2 g 27 zeroC) (hb:Below w.heap.size w w2) (hg:w.heap.size≤g) (h7:w7=w2.setCells g 0 zeroC) :
 w7.cell? ⟨g,0,none⟩=some (.string ⟨#[]⟩)∧w7.cell? ⟨g,1,none⟩=some (.slice none 0 0)∧w7.cell? ⟨g,2,none⟩=some (.slice none 0 0)∧w7.cell? ⟨g,3,none⟩=some (.slice none 0 0)∧w7.cell? ⟨g,4,none⟩=some (.slice none 0 0)∧Below w.heap.size w w7:=by
 subst h7
 have h:=hR.setL zeroC 0
 exact ⟨h.cell 0,h.cell 1,h.cell 2,h.cell 3,h.cell 4,belowS hb hg _ _⟩
end Go.Proofs.YtmncjibcoffmfaaGreat
/- For sense.Turn: what one round of each of its loops does to the family. Conditions: none. -/
namespace Go.Proofs.YtmncjibcoffmfaaGreat
open Go.RowKit

theorem wpL_atLoad {P:Program} {ops:Array Oper} {rest:List Oper} {op:Oper} {a:Act} {w:World} {Q:Exit→Act→World→Prop} {t:TypeId} {x:Operand} (_:op.op=.load t x) (h:wpList P ops Q (op :: rest) a w):wpList P ops Q (op :: rest) a w:=h
section
variable {w w1 w2 w3:World} {lo g:Nat} {M:Key→Lst} {N:NetV} {T T':Nat→Nat→Rat} {name:ByteArray} {n p m:Nat}
theorem BoxM.row' {M':Key→Lst} (h:BoxM M g name) (e:M' kB=M kB) (hF:Fam w lo M'):RowC w g 27 (boxCs M name):=by
 have ho:=hF.own kB
 unfold BoxM at h
 rw [e,h] at ho
 obtain ⟨cs,h1,h2,_,h4⟩:=ho.row (g:=g) rfl
 simp only at h1 h2 h4
 rw [List.take_of_length_le (by omega)] at h4
 rw [← h4]
 exact h1
theorem BoxM.A (h:BoxM M g name):(M kB).A=some ⟨g,0,none⟩:=by unfold BoxM at h;rw [h]
theorem roundV (hF:Fam w lo M) (hL:Link M N T n p m) (hM:BoxM M g name) (hl:lo≤w.heap.size) {C A':Option Addr} {k9 c' nl:Nat} (hnl:nl=(nth N.values n).length) (hb1:Below w.heap.size w w1) (ho:OwnR Value.string w1 w.heap.size 9 C nl k9 (nth N.values n)) (hb2:Below w1.heap.size w1 w2)
 (hg:w2.grownBy w3 (M kV).val.ownBlock) (ho2:(⟨(M kV).e,(M kV).s,A',(M kV).n + 1,c',(M kV).cs ++ [.slice C nl k9]⟩:Lst).own w3 lo) (hat:(Value.slice A' ((M kV).n + 1) c').ownBlock=(M kV).val.ownBlock ∨ (Value.slice A' ((M kV).n + 1) c').ownBlock=some w2.heap.size) :
 RowC w3 g 27 (boxCs M name)∧∀ w4,w4=w3.setCells g 2 [.slice A' ((M kV).n + 1) c']→∃ M',Fam w4 lo M'∧Link M' N T (n + 1) p m∧BoxM M' g name:=by
 have h3:=hF.pushRow hl (k1:=kv n) (k2:=kV) (kne (by omega)) (L:=⟨9,1,C,nl,k9,(nth N.values n).map .string⟩) (L2:=⟨(M kV).e,(M kV).s,A',(M kV).n + 1,c',(M kV).cs ++ [.slice C nl k9]⟩) hb1 ho hb2 hg ho2 hat
 have eB:upd (upd M (kv n) ⟨9,1,C,nl,k9,(nth N.values n).map .string⟩) kV ⟨(M kV).e,(M kV).s,A',(M kV).n + 1,c',(M kV).cs ++ [.slice C nl k9]⟩ kB=M kB:=by rw [upd_ne _ _ (kne (by omega)),upd_ne _ _ (kne (by omega))]
 refine ⟨hM.row' eB h3,fun w4 h4=>?_⟩
 have h5:=h3.put kB (g:=g) (by rw [eB];exact hM.A) 2 [.slice A' ((M kV).n + 1) c']
 rw [← h4,eB] at h5
 exact ⟨_,h5,(hL.pushV C k9 A' _ c' _ _ rfl rfl rfl nl hnl).updB _,hM.put1 (k1:=kv n) ⟨by simp,by simp⟩⟩
theorem roundP (hF:Fam w lo M) (hL:Link M N T n p m) (hM:BoxM M g name) (hl:lo≤w.heap.size) {C A':Option Addr} {k9 c' nl:Nat} (hnl:nl=(nth N.parents p).length) (hb1:Below w.heap.size w w1) (ho:OwnR (Value.int .i64) w1 w.heap.size 3 C nl k9 (nth N.parents p)) (hb2:Below w1.heap.size w1 w2)
 (hg:w2.grownBy w3 (M kP).val.ownBlock) (ho2:(⟨(M kP).e,(M kP).s,A',(M kP).n + 1,c',(M kP).cs ++ [.slice C nl k9]⟩:Lst).own w3 lo) (hat:(Value.slice A' ((M kP).n + 1) c').ownBlock=(M kP).val.ownBlock ∨ (Value.slice A' ((M kP).n + 1) c').ownBlock=some w2.heap.size) :
 RowC w3 g 27 (boxCs M name)∧∀ w4,w4=w3.setCells g 3 [.slice A' ((M kP).n + 1) c']→∃ M',Fam w4 lo M'∧Link M' N T n (p + 1) m∧BoxM M' g name:=by
 have h3:=hF.pushRow hl (k1:=kp p) (k2:=kP) (kne (by omega)) (L:=⟨3,1,C,nl,k9,(nth N.parents p).map (.int .i64)⟩) (L2:=⟨(M kP).e,(M kP).s,A',(M kP).n + 1,c',(M kP).cs ++ [.slice C nl k9]⟩) hb1 ho hb2 hg ho2 hat
 have eB:upd (upd M (kp p) ⟨3,1,C,nl,k9,(nth N.parents p).map (.int .i64)⟩) kP ⟨(M kP).e,(M kP).s,A',(M kP).n + 1,c',(M kP).cs ++ [.slice C nl k9]⟩ kB=M kB:=by rw [upd_ne _ _ (kne (by omega)),upd_ne _ _ (kne (by omega))]
 refine ⟨hM.row' eB h3,fun w4 h4=>?_⟩
 have h5:=h3.put kB (g:=g) (by rw [eB];exact hM.A) 3 [.slice A' ((M kP).n + 1) c']
 rw [← h4,eB] at h5
 exact ⟨_,h5,(hL.pushP C k9 A' _ c' _ _ rfl rfl rfl nl hnl).updB _,hM.put2 (k1:=kp p) ⟨by simp,by simp⟩⟩
theorem roundT (hF:Fam w lo M) (hL:Link M N T n p m) (hM:BoxM M g name) (ht:Tab M T m (nth N.tables m).length) {A':Option Addr} {c':Nat} (hb2:Below w.heap.size w w2)
 (hg:w2.grownBy w3 (M kT).val.ownBlock) (ho2:(⟨(M kT).e,(M kT).s,A',(M kT).n + 1,c',(M kT).cs ++ [(M (kt m)).val]⟩:Lst).own w3 lo) (hat:(Value.slice A' ((M kT).n + 1) c').ownBlock=(M kT).val.ownBlock ∨ (Value.slice A' ((M kT).n + 1) c').ownBlock=some w2.heap.size) :
 RowC w3 g 27 (boxCs M name)∧∀ w4,w4=w3.setCells g 4 [.slice A' ((M kT).n + 1) c']→∃ M',Fam w4 lo M'∧Link M' N T n p (m + 1)∧BoxM M' g name:=by
 have h3:=(hF.below hb2).app kT hg ho2 hat
 have eB:upd M kT ⟨(M kT).e,(M kT).s,A',(M kT).n + 1,c',(M kT).cs ++ [(M (kt m)).val]⟩ kB=M kB:=upd_ne _ _ (kne (by omega))
 refine ⟨hM.row' eB h3,fun w4 h4=>?_⟩
 have h5:=h3.put kB (g:=g) (by rw [eB];exact hM.A) 4 [.slice A' ((M kT).n + 1) c']
 rw [← h4,eB] at h5
 exact ⟨_,h5,(hL.pushT ht A' _ c' _ _ rfl rfl rfl).updB _,hM.put3⟩
theorem round0 (hF:Fam w lo M) (hL:Link M N T n p m) (hM:BoxM M g name):∃ M',Fam w lo M'∧Link M' N T n p m∧BoxM M' g name∧Tab M' T m 0∧(M' (kt m)).val=.slice none 0 0:=by
 refine ⟨_,hF.set (kt m) (L:=⟨36,3,none,0,0,[]⟩) ⟨rfl,.inl ⟨rfl,rfl⟩⟩ (fun q b _ h=>by cases h),hL.updT _ (by simp) (by simp),hM.upd _ ⟨by simp,by simp⟩,Tab.zero ?_,?_⟩
 ·rw [upd_same];exact ⟨rfl,rfl,rfl,rfl⟩
 ·rw [upd_same];rfl
theorem roundN {q:Nat} (hF:Fam w lo M) (hL:Link M N T n p m) (hM:BoxM M g name) (ht:Tab M T m q) (hl:lo≤w.heap.size) {R D A':Option Addr} {c d c':Nat} (hb1:Below w.heap.size w w1)
 (h1:OwnR eU w1 w.heap.size 54 R (limbs (T m q).num.natAbs).length c (limbs (T m q).num.natAbs)) (h2:OwnR eU w1 w.heap.size 54 D (limbs (T m q).den).length d (limbs (T m q).den)) (hs:∀ b,R=some ⟨b,0,none⟩→D ≠ some ⟨b,0,none⟩) (hb2:Below w1.heap.size w1 w2)
 (hg:w2.grownBy w3 (M (kt m)).val.ownBlock) (ho:(⟨(M (kt m)).e,(M (kt m)).s,A',(M (kt m)).n + 1,c',(M (kt m)).cs ++ (rhL R c D d (T m q)).cells⟩:Lst).own w3 lo) (hat:(Value.slice A' ((M (kt m)).n + 1) c').ownBlock=(M (kt m)).val.ownBlock ∨ (Value.slice A' ((M (kt m)).n + 1) c').ownBlock=some w2.heap.size) :
 ∃ M',Fam w3 lo M'∧Link M' N T n p m∧BoxM M' g name∧Tab M' T m (q + 1)∧(M' (kt m)).val=.slice A' ((M (kt m)).n + 1) c':=by
 have hs':∀ b,(numL' R c (T m q)).val.ownBlock=some b→(denL' D d (T m q)).val.ownBlock ≠ some b:=fun b e1 e2=>by
  have a1:=Lst.own.addr (l:=numL' R c (T m q)) h1
  have a2:=Lst.own.addr (l:=denL' D d (T m q)) h2
  rcases a1 with ⟨a1,_⟩ | ⟨g1,a1,a1',_⟩
  ·unfold Lst.val at e1;rw [a1] at e1;cases e1
  ·rcases a2 with ⟨a2,_⟩ | ⟨g2,a2,a2',_⟩
   ·unfold Lst.val at e2;rw [a2] at e2;cases e2
   ·rw [a1'] at e1
    rw [a2'] at e2
    injection e1 with e1
    injection e2 with e2
    subst e1 e2
    exact hs _ a1 a2
 have f1:=(hF.new2 hb1 (kn m q) (kd m q) (L:=numL' R c (T m q)) (L':=denL' D d (T m q)) h1 h2 hs' hl).below hb2
 have e0:upd (upd M (kn m q) (numL' R c (T m q))) (kd m q) (denL' D d (T m q)) (kt m)=M (kt m):=by rw [upd_ne _ _ (kne (by omega)),upd_ne _ _ (kne (by omega))]
 have f2:=f1.app (kt m) (by rw [e0];exact hg) ho (by rw [e0];exact hat)
 refine ⟨_,f2,((hL.updT _ (by simp) (by simp)).updT _ (by simp) (by simp)).updT _ (by simp) (by simp),((hM.upd _ ⟨by simp,by simp⟩).upd _ ⟨by simp,by simp⟩).upd _ ⟨by simp,by simp⟩,ht.push R c D d A' _ c' rfl _ rfl _ rfl,?_⟩
 rw [upd_same];rfl
theorem roundS {v at':Nat} {q:Rat} (hF:Fam w lo M) (hL:Link M N T n p m) (hM:BoxM M g name) (hv:v < m) (hat:at' < (nth N.tables v).length) (hl:lo≤w.heap.size) {R D:Option Addr} {c d:Nat} (hb1:Below w.heap.size w w1)
 (h1:OwnR eU w1 w.heap.size 54 R (limbs q.num.natAbs).length c (limbs q.num.natAbs)) (h2:OwnR eU w1 w.heap.size 54 D (limbs q.den).length d (limbs q.den)) (hs:∀ b,R=some ⟨b,0,none⟩→D ≠ some ⟨b,0,none⟩) (hq:T' v at'=q) (hT:∀ i j,(i ≠ v ∨ j ≠ at')→T' i j=T i j) :
 ∃ gt cs,(M (kt v)).A=some ⟨gt,0,none⟩∧lo≤gt∧RowC w1 gt 36 cs∧at' * 3 + 3≤cs.length∧∀ w2,w2=w1.setCells gt (at' * 3) (rhL R c D d q).cells→∃ M',Fam w2 lo M'∧Link M' N T' n p m∧BoxM M' g name∧(M' (kt v)).val=(M (kt v)).val:=by
 have hs':∀ b,(numL' R c q).val.ownBlock=some b→(denL' D d q).val.ownBlock ≠ some b:=fun b e1 e2=>by
  have a1:=Lst.own.addr (l:=numL' R c q) h1
  have a2:=Lst.own.addr (l:=denL' D d q) h2
  rcases a1 with ⟨a1,_⟩ | ⟨g1,a1,a1',_⟩
  ·unfold Lst.val at e1;rw [a1] at e1;cases e1
  ·rcases a2 with ⟨a2,_⟩ | ⟨g2,a2,a2',_⟩
   ·unfold Lst.val at e2;rw [a2] at e2;cases e2
   ·rw [a1'] at e1
    rw [a2'] at e2
    injection e1 with e1
    injection e2 with e2
    subst e1 e2
    exact hs _ a1 a2
 have f1:=hF.new2 hb1 (kn v at') (kd v at') (L:=numL' R c q) (L':=denL' D d q) h1 h2 hs' hl
 have e0:upd (upd M (kn v at') (numL' R c q)) (kd v at') (denL' D d q) (kt v)=M (kt v):=by rw [upd_ne _ _ (kne (by omega)),upd_ne _ _ (kne (by omega))]
 have hrow:=(hL.tab v hv).row
 have ho:=f1.own (kt v)
 rw [e0] at ho
 rcases ho.addr with ⟨_,a2,_⟩ | ⟨gt,a1,a2,a3,_⟩
 ·rw [hrow.n] at a2;omega
 ·obtain ⟨cs,b1,b2,b3,b4⟩:=ho.row a2
  rw [hrow.e] at b1
  rw [hrow.s] at b2
  rw [hrow.n] at b3
  refine ⟨gt,cs,a1,a3,b1,by rw [b2];omega,fun w2 hw2=>?_⟩
  have f2:=f1.put (kt v) (by rw [e0];exact a1) (at' * 3) (rhL R c D d q).cells
  rw [← hw2,e0] at f2
  have hp:=(hL.tab v hv).put (T':=T') at' hat R c D d q rfl hq (fun j _ hj=>hT v j (.inr hj))
  refine ⟨_,f2,?_,((hM.upd _ ⟨by simp,by simp⟩).upd _ ⟨by simp,by simp⟩).upd _ ⟨by simp,by simp⟩,by rw [upd_same];rfl⟩
  have eA:∀ (a:Nat) (z:Nat × Nat),a < 6→upd (upd (upd M (kn v at') (numL' R c q)) (kd v at') (denL' D d q)) (kt v) ((M (kt v)).over (at' * 3) (rhL R c D d q).cells) (a,z)=M (a,z):=fun a z ha=>by
   rw [upd_ne _ _ (kne (by omega)),upd_ne _ _ (kne (by omega)),upd_ne _ _ (kne (by omega))]
  have eO:∀ a i j,i ≠ v→upd (upd (upd M (kn v at') (numL' R c q)) (kd v at') (denL' D d q)) (kt v) ((M (kt v)).over (at' * 3) (rhL R c D d q).cells) (a,i,j)=M (a,i,j):=fun a i j hi=>by
   rw [upd_ne _ _ (kni hi),upd_ne _ _ (kni hi),upd_ne _ _ (kni hi)]
  have eH:∀ i,(upd (upd (upd M (kn v at') (numL' R c q)) (kd v at') (denL' D d q)) (kt v) ((M (kt v)).over (at' * 3) (rhL R c D d q).cells) (kt i)).val=(M (kt i)).val:=fun i=>by
   by_cases e:i=v
   ·subst e;rw [upd_same];rfl
   ·rw [eO _ _ _ e]
  generalize upd (upd (upd M (kn v at') (numL' R c q)) (kd v at') (denL' D d q)) (kt v) ((M (kt v)).over (at' * 3) (rhL R c D d q).cells)=M' at hp eA eO eH ⊢
  refine ⟨by rw [eA _ _ (by omega)];exact hL.names,⟨?_,fun i hi=>by rw [eA _ _ (by omega)];exact hL.vals.row i hi⟩,⟨?_,fun i hi=>by rw [eA _ _ (by omega)];exact hL.pars.row i hi⟩,?_,fun i hi=>?_⟩
  ·rw [eA _ _ (by omega),heads_congr fun i _=>eA _ _ (by omega)];exact hL.vals.out
  ·rw [eA _ _ (by omega),heads_congr fun i _=>eA _ _ (by omega)];exact hL.pars.out
  ·rw [eA _ _ (by omega)]
   have:heads M' kt m=heads M kt m:=by unfold heads;exact List.map_congr_left fun i _=>eH i
   rw [this];exact hL.tO
  ·by_cases e:i=v
   ·subst e;exact hp
   ·exact (hL.tab i hi).congr (eO _ _ _ e) (fun j _=>⟨eO _ _ _ e,eO _ _ _ e⟩) fun j _=>hT i j (.inl e)
theorem row_len {A:Option Addr} {l:List RawR} (h:RRow w A n l) (hb:totTo l l.length≤8388608):∀ j,j < l.length→ratLen (nth l j).q≤8388609:=fun j hj=>by
 obtain ⟨_,_,_,_,_,_,_,_,x⟩:=h.at (i:=j) (by rw [← h.len];exact hj)
 have h1:=(nth l j).lens x.nl x.dl
 have h2:=totTo_at l hj
 rw [ratLen_eq]
 omega
theorem LinesTo.farS {gl g:Nat} {cs:List Value} {v row value k:Nat} (h:LinesTo w gl cs N v row value k) (hg:g < gl) (o:Nat) (vs:List Value):LinesTo (w.setCells g o vs) gl cs N v row value k:=
 ⟨h.box.farS (by omega) o vs,h.len,fun i hi=>by obtain ⟨ha,hb,e1,e2,e3⟩:=h.at' i hi;exact ⟨ha,hb,e1,e2.farS (by omega) o vs,e3.farS (by omega) o vs⟩⟩
theorem end_box {w0 w7:World} {gr:Nat} {u:List Value} (hR:RowC w gr 27 u) (hu:u.length=5) (hb:Below w0.heap.size w0 w) (h0:w0.heap.size≤gr) (h1:gr < lo) (hF:Fam w lo M) (cs:List Value) (hcs:cs.length=5) (h7:w7=w.setCells gr 0 cs) :
 RowC w7 gr 27 (setL u 0 cs)∧Below w0.heap.size w0 w7∧Fam w7 lo M:=by
 subst h7
 exact ⟨hR.setL cs 0,belowS hb h0 _ _,hF.setLowS h1 _ _⟩
theorem tab_head (hF:Fam w lo M) (hL:Link M N T n p m) {v:Nat} (hv:v < m):∃ gT,(M kT).A=some ⟨gT,0,none⟩∧lo≤gT∧w.cell? ⟨gT,v,none⟩=some (M (kt v)).val:=by
 have ho:=hF.own kT
 rcases ho.addr with ⟨_,a2,_⟩ | ⟨gT,a1,a2,a3,_⟩
 ·rw [hL.tO.n] at a2;omega
 ·refine ⟨gT,a1,a3,?_⟩
  rw [ho.cell a1 (by rw [hL.tO.n,hL.tO.s];omega),hL.tO.cs]
  unfold heads
  rw [List.getElem?_map,List.getElem?_range hv]
  rfl
end
end Go.Proofs.YtmncjibcoffmfaaGreat
/- For credenceref29.With: what one round of each of its loops does to the family of the tables. Conditions: none. -/
namespace Go.Proofs.YtmncjibcoffmfaaGreat
open Go.RowKit

section
variable {w w1 w2 w3:World} {lo g:Nat} {M:Key→Lst} {N:NetV} {T T':Nat→Nat→Rat} {n p m:Nat}
theorem roundT0 (hF:Fam w lo M) (hL:Link M N T n p m) (ht:Tab M T m (nth N.tables m).length) {A':Option Addr} {c':Nat} (hb2:Below w.heap.size w w2)
 (hg:w2.grownBy w3 (M kT).val.ownBlock) (ho2:(⟨(M kT).e,(M kT).s,A',(M kT).n + 1,c',(M kT).cs ++ [(M (kt m)).val]⟩:Lst).own w3 lo) (hat:(Value.slice A' ((M kT).n + 1) c').ownBlock=(M kT).val.ownBlock ∨ (Value.slice A' ((M kT).n + 1) c').ownBlock=some w2.heap.size) :
 ∃ M',Fam w3 lo M'∧Link M' N T n p (m + 1)∧(M' kT).val=.slice A' ((M kT).n + 1) c':=
 ⟨_,(hF.below hb2).app kT hg ho2 hat,hL.pushT ht A' _ c' _ _ rfl rfl rfl,by rw [upd_same];rfl⟩
theorem round00 (hF:Fam w lo M) (hL:Link M N T n p m):∃ M',Fam w lo M'∧Link M' N T n p m∧Tab M' T m 0∧(M' (kt m)).val=.slice none 0 0∧(M' kT).val=(M kT).val:=by
 refine ⟨_,hF.set (kt m) (L:=⟨36,3,none,0,0,[]⟩) ⟨rfl,.inl ⟨rfl,rfl⟩⟩ (fun q b _ h=>by cases h),hL.updT _ (by simp) (by simp),Tab.zero ?_,?_,?_⟩
 ·rw [upd_same];exact ⟨rfl,rfl,rfl,rfl⟩
 ·rw [upd_same];rfl
 ·rw [upd_ne _ _ (kne (by omega))]
theorem roundN0 {q:Nat} (hF:Fam w lo M) (hL:Link M N T n p m) (ht:Tab M T m q) (hl:lo≤w.heap.size) {R D A':Option Addr} {c d c':Nat} (hb1:Below w.heap.size w w1)
 (h1:OwnR eU w1 w.heap.size 54 R (limbs (T m q).num.natAbs).length c (limbs (T m q).num.natAbs)) (h2:OwnR eU w1 w.heap.size 54 D (limbs (T m q).den).length d (limbs (T m q).den)) (hs:∀ b,R=some ⟨b,0,none⟩→D ≠ some ⟨b,0,none⟩) (hb2:Below w1.heap.size w1 w2)
 (hg:w2.grownBy w3 (M (kt m)).val.ownBlock) (ho:(⟨(M (kt m)).e,(M (kt m)).s,A',(M (kt m)).n + 1,c',(M (kt m)).cs ++ (rhL R c D d (T m q)).cells⟩:Lst).own w3 lo) (hat:(Value.slice A' ((M (kt m)).n + 1) c').ownBlock=(M (kt m)).val.ownBlock ∨ (Value.slice A' ((M (kt m)).n + 1) c').ownBlock=some w2.heap.size) :
 ∃ M',Fam w3 lo M'∧Link M' N T n p m∧Tab M' T m (q + 1)∧(M' (kt m)).val=.slice A' ((M (kt m)).n + 1) c'∧(M' kT).val=(M kT).val:=by
 have hs':∀ b,(numL' R c (T m q)).val.ownBlock=some b→(denL' D d (T m q)).val.ownBlock ≠ some b:=fun b e1 e2=>by
  have a1:=Lst.own.addr (l:=numL' R c (T m q)) h1
  have a2:=Lst.own.addr (l:=denL' D d (T m q)) h2
  rcases a1 with ⟨a1,_⟩ | ⟨g1,a1,a1',_⟩
  ·unfold Lst.val at e1;rw [a1] at e1;cases e1
  ·rcases a2 with ⟨a2,_⟩ | ⟨g2,a2,a2',_⟩
   ·unfold Lst.val at e2;rw [a2] at e2;cases e2
   ·rw [a1'] at e1
    rw [a2'] at e2
    injection e1 with e1
    injection e2 with e2
    subst e1 e2
    exact hs _ a1 a2
 have f1:=(hF.new2 hb1 (kn m q) (kd m q) (L:=numL' R c (T m q)) (L':=denL' D d (T m q)) h1 h2 hs' hl).below hb2
 have e0:upd (upd M (kn m q) (numL' R c (T m q))) (kd m q) (denL' D d (T m q)) (kt m)=M (kt m):=by rw [upd_ne _ _ (kne (by omega)),upd_ne _ _ (kne (by omega))]
 have f2:=f1.app (kt m) (by rw [e0];exact hg) ho (by rw [e0];exact hat)
 refine ⟨_,f2,((hL.updT _ (by simp) (by simp)).updT _ (by simp) (by simp)).updT _ (by simp) (by simp),ht.push R c D d A' _ c' rfl _ rfl _ rfl,by rw [upd_same];rfl,by rw [upd_ne _ _ (kne (by omega)),upd_ne _ _ (kne (by omega)),upd_ne _ _ (kne (by omega))]⟩
theorem roundS0 {v at':Nat} {q:Rat} (hF:Fam w lo M) (hL:Link M N T n p m) (hv:v < m) (hat:at' < (nth N.tables v).length) (hl:lo≤w.heap.size) {R D:Option Addr} {c d:Nat} (hb1:Below w.heap.size w w1)
 (h1:OwnR eU w1 w.heap.size 54 R (limbs q.num.natAbs).length c (limbs q.num.natAbs)) (h2:OwnR eU w1 w.heap.size 54 D (limbs q.den).length d (limbs q.den)) (hs:∀ b,R=some ⟨b,0,none⟩→D ≠ some ⟨b,0,none⟩) (hq:T' v at'=q) (hT:∀ i j,(i ≠ v ∨ j ≠ at')→T' i j=T i j) :
 ∃ gt cs,(M (kt v)).A=some ⟨gt,0,none⟩∧lo≤gt∧RowC w1 gt 36 cs∧at' * 3 + 3≤cs.length∧∀ w2,w2=w1.setCells gt (at' * 3) (rhL R c D d q).cells→∃ M',Fam w2 lo M'∧Link M' N T' n p m∧(M' (kt v)).val=(M (kt v)).val∧(M' kT).val=(M kT).val:=by
 have hs':∀ b,(numL' R c q).val.ownBlock=some b→(denL' D d q).val.ownBlock ≠ some b:=fun b e1 e2=>by
  have a1:=Lst.own.addr (l:=numL' R c q) h1
  have a2:=Lst.own.addr (l:=denL' D d q) h2
  rcases a1 with ⟨a1,_⟩ | ⟨g1,a1,a1',_⟩
  ·unfold Lst.val at e1;rw [a1] at e1;cases e1
  ·rcases a2 with ⟨a2,_⟩ | ⟨g2,a2,a2',_⟩
   ·unfold Lst.val at e2;rw [a2] at e2;cases e2
   ·rw [a1'] at e1
    rw [a2'] at e2
    injection e1 with e1
    injection e2 with e2
    subst e1 e2
    exact hs _ a1 a2
 have f1:=hF.new2 hb1 (kn v at') (kd v at') (L:=numL' R c q) (L':=denL' D d q) h1 h2 hs' hl
 have e0:upd (upd M (kn v at') (numL' R c q)) (kd v at') (denL' D d q) (kt v)=M (kt v):=by rw [upd_ne _ _ (kne (by omega)),upd_ne _ _ (kne (by omega))]
 have hrow:=(hL.tab v hv).row
 have ho:=f1.own (kt v)
 rw [e0] at ho
 rcases ho.addr with ⟨_,a2,_⟩ | ⟨gt,a1,a2,a3,_⟩
 ·rw [hrow.n] at a2;omega
 ·obtain ⟨cs,b1,b2,b3,b4⟩:=ho.row a2
  rw [hrow.e] at b1
  rw [hrow.s] at b2
  rw [hrow.n] at b3
  refine ⟨gt,cs,a1,a3,b1,by rw [b2];omega,fun w2 hw2=>?_⟩
  have f2:=f1.put (kt v) (by rw [e0];exact a1) (at' * 3) (rhL R c D d q).cells
  rw [← hw2,e0] at f2
  have hp:=(hL.tab v hv).put (T':=T') at' hat R c D d q rfl hq (fun j _ hj=>hT v j (.inr hj))
  refine ⟨_,f2,?_,by rw [upd_same];rfl,by rw [upd_ne _ _ (kne (by omega)),upd_ne _ _ (kne (by omega)),upd_ne _ _ (kne (by omega))]⟩
  have eA:∀ (a:Nat) (z:Nat × Nat),a < 6→upd (upd (upd M (kn v at') (numL' R c q)) (kd v at') (denL' D d q)) (kt v) ((M (kt v)).over (at' * 3) (rhL R c D d q).cells) (a,z)=M (a,z):=fun a z ha=>by
   rw [upd_ne _ _ (kne (by omega)),upd_ne _ _ (kne (by omega)),upd_ne _ _ (kne (by omega))]
  have eO:∀ a i j,i ≠ v→upd (upd (upd M (kn v at') (numL' R c q)) (kd v at') (denL' D d q)) (kt v) ((M (kt v)).over (at' * 3) (rhL R c D d q).cells) (a,i,j)=M (a,i,j):=fun a i j hi=>by
   rw [upd_ne _ _ (kni hi),upd_ne _ _ (kni hi),upd_ne _ _ (kni hi)]
  have eH:∀ i,(upd (upd (upd M (kn v at') (numL' R c q)) (kd v at') (denL' D d q)) (kt v) ((M (kt v)).over (at' * 3) (rhL R c D d q).cells) (kt i)).val=(M (kt i)).val:=fun i=>by
   by_cases e:i=v
   ·subst e;rw [upd_same];rfl
   ·rw [eO _ _ _ e]
  generalize upd (upd (upd M (kn v at') (numL' R c q)) (kd v at') (denL' D d q)) (kt v) ((M (kt v)).over (at' * 3) (rhL R c D d q).cells)=M' at hp eA eO eH ⊢
  refine ⟨by rw [eA _ _ (by omega)];exact hL.names,⟨?_,fun i hi=>by rw [eA _ _ (by omega)];exact hL.vals.row i hi⟩,⟨?_,fun i hi=>by rw [eA _ _ (by omega)];exact hL.pars.row i hi⟩,?_,fun i hi=>?_⟩
  ·rw [eA _ _ (by omega),heads_congr fun i _=>eA _ _ (by omega)];exact hL.vals.out
  ·rw [eA _ _ (by omega),heads_congr fun i _=>eA _ _ (by omega)];exact hL.pars.out
  ·rw [eA _ _ (by omega)]
   have:heads M' kt m=heads M kt m:=by unfold heads;exact List.map_congr_left fun i _=>eH i
   rw [this];exact hL.tO
  ·by_cases e:i=v
   ·subst e;exact hp
   ·exact (hL.tab i hi).congr (eO _ _ _ e) (fun j _=>⟨eO _ _ _ e,eO _ _ _ e⟩) fun j _=>hT i j (.inl e)

theorem QAt.turn {a b:World} {S:Nat→Prop} {base:Nat} {h:RH} {q:Rat} (x:QAt a base h q) (ht:Turn a b S) (hS:∀ k,base≤k→¬ S k):QAt b base h q:=by
 have key:∀ {A:Option Addr} {n c:Nat} {l:List Nat},OwnR eU a base 54 A n c l→OwnR eU b base 54 A n c l:=fun {A n c l} ho =>
  ho.turn ht fun g e=>by
   rcases ho.at_row with h1 | ⟨g',h1,h2,_⟩
   ·rw [h1] at e;cases e
   ·rw [h1] at e;injection e with e;injection e with e;exact hS g (by omega)
 exact ⟨x.neg,x.n,x.k,key x.num,key x.den⟩
theorem RatPost.hd {q:Rat} {w w':World} {e:Ending} (h:RatPost q w e w'):∃ ho:RH,e=.returned (.agg #[.bool ho.neg,.slice ho.A ho.n ho.c,.slice ho.D ho.k ho.e])∧QAt w' w.heap.size ho q∧Below w.heap.size w w':=by
 obtain ⟨R,c,D,d,rfl,h1,h2,_,h3⟩:=h
 exact ⟨⟨isNeg q.num,R,(limbs q.num.natAbs).length,c,D,(limbs q.den).length,d⟩,rfl,QAt.of h1 h2,h3⟩
instance {g:Nat} {e:TypeId} {cs:List Value}:Stable (fun w=>RowC w g e cs):=⟨fun hb h=>h.below' hb⟩
theorem turn_ge {a b:World} {B:Nat} (h:Below B a b):Turn a b (fun k=>B≤k):=⟨h.os,h.tape,h.output,h.size,fun k _ hn=>h.block k (by omega)⟩
theorem Turn.step {a b c:World} {S:Nat→Prop} (h:Turn a b S) {B:Nat} (hk:Below B b c) (hB:a.heap.size≤B):Turn a c S:=h.trans (turn_ge hk) fun x hx hge=>absurd hge (by omega)
theorem RatOkPost.hd {q:Rat} {w w':World} {e:Ending} (h:RatOkPost q w e w'):∃ ho:RH,e=.returned (.tuple #[.agg #[.bool ho.neg,.slice ho.A ho.n ho.c,.slice ho.D ho.k ho.e],.int .i64 0])∧QAt w' w.heap.size ho q∧Below w.heap.size w w':=by
 obtain ⟨R,c,D,d,rfl,h1,h2,_,h3⟩:=h
 exact ⟨⟨isNeg q.num,R,(limbs q.num.natAbs).length,c,D,(limbs q.den).length,d⟩,rfl,QAt.of h1 h2,h3⟩
theorem step_store_row {P:Program} {ops:Array Oper} {op:Oper} {a:Act} {w:World} {K:Act→World→Prop} {Q:Exit→Act→World→Prop} {F:Prop} (hgd:op.guard=none) (ty:TypeId) (x y:Operand) (ho:op.op=.store ty x y) (g o:Nat) (vs:List Value)
 (hx:a.eval x=.pointer (some ⟨g,o,none⟩)) (hy:a.eval y=.agg vs.toArray) {e:TypeId} {cs:List Value} (hr:RowC w g e cs) (hl:o + vs.length≤cs.length) (hi:(P.info? ty).map (·.size)=some vs.length) (h1:vs.toArray.all (·.oneCell')=true)
 (h:∀ w',w'=w.setCells g o vs→K (a.put op.dst undef) w'):if Region.wanted op (yielded ops a.tmps)=true then Oper.wp P op a w K Q else F:=by
 have hw:Region.wanted op (yielded ops a.tmps)=true:=by simp [Region.wanted,hgd]
 rw [if_pos hw]
 exact wp_store_row ty x y ho g o vs hx hy hr hl hi h1 h
def tabsN (N:NetV):NetV:=⟨N.name,[],[],[],N.tables⟩
theorem m0_tabs (N:NetV) (T:Nat→Nat→Rat):Link m0 (tabsN N) T 0 0 0:=
 ⟨⟨rfl,rfl,rfl,rfl⟩,⟨⟨rfl,rfl,rfl,rfl⟩,fun i hi=>absurd hi (Nat.not_lt_zero _)⟩,⟨⟨rfl,rfl,rfl,rfl⟩,fun i hi=>absurd hi (Nat.not_lt_zero _)⟩,⟨rfl,rfl,rfl,rfl⟩,fun i hi=>absurd hi (Nat.not_lt_zero _)⟩
theorem with_else {N:NetV} {v row value k:Nat} {x:Rat} (h:k ≠ value):newQ N v row value x k=shareQ N v row value k * (1 - x):=if_neg h
theorem with_zero {N:NetV} {v row value k:Nat} {x:Rat} (h:k ≠ value) (h0:leftQ N v (row * nth N.Z v + value)=0):(1 - x) * mkRat 1 (nth N.Z v - 1)=newQ N v row value x k:=by
 rw [with_else h,shareQ,if_pos h0,Rat.mul_comm]
theorem with_div {N:NetV} {v row value k:Nat} {x:Rat} (h:k ≠ value) (h0:leftQ N v (row * nth N.Z v + value) ≠ 0):(nth (nth N.tables v) (row * nth N.Z v + k)).q * (1 - x) / leftQ N v (row * nth N.Z v + value)=newQ N v row value x k:=by
 rw [with_else h,shareQ,if_neg h0,doc_line]
theorem turned_len {A1 A2 A3 A4:Option Addr} {c1 c2 c3 c4 v row value:Nat} {x:Rat} (h:NetAt w N A1 A2 A3 A4 c1 c2 c3 c4) (hB:NetB N) (hp:PlaceOk N v row value) (hx:ratLen x≤100000001):∀ i j,i < N.tables.length→j < (nth N.tables i).length→ratLen (turnQ N v row value x i j)≤1000000000:=fun i j hi hj=>by
 have hrow:∀ i j,i < N.tables.length→j < (nth N.tables i).length→ratLen (nth (nth N.tables i) j).q≤8388609:=fun i j hi hj=>by
  obtain ⟨b4,off4,B4,m4,d4,_,_,_,hr,_⟩:=h.n4.row hi
  exact row_len hr (hB.tab _ (nth_mem hi)).2 j hj
 have hv:v < N.tables.length:=by have:=hp.ht;have:=hp.lt;omega
 rw [← stepQ_all]
 exact step_len (fun k hk=>new_len (line_len hp (hrow v · hv) (hB.z v) hk) hx) hrow (Nat.le_refl _) hi hj
theorem with_net {A1 A2 A3 A4:Option Addr} {c1 c2 c3 c4 v row value:Nat} {x:Rat} (h:NetAt w N A1 A2 A3 A4 c1 c2 c3 c4) (hB:NetB N) (hp:PlaceOk N v row value) (hx:ratLen x≤100000001) (hb:Below w.heap.size w w1) (hF:Fam w1 lo M) (hL:Link M (tabsN N) (turnQ N v row value x) 0 0 N.tables.length) :
 NetAt w1 (turnN N v row value x) A1 A2 A3 (M kT).A c1 c2 c3 (M kT).c:=by
 have hlenT:=turned_len (x:=x) h hB hp hx
 have htl:=hB.tabs
 have hN7:=h.below (Nat.le_refl _) hb
 have hTB:=link_tabs hF hL.tO hL.tab rfl (by show N.tables.length≤_;omega) (fun i hi=>by have:=(hB.tab _ (nth_mem hi)).1;show (nth N.tables i).length≤_;omega) (fun i j hi hj=>by have:=hlenT i j hi hj;omega)
 have hcap:=(hF.own kT).cap
 rw [hL.tO.n] at hcap
 have htl2:(turnN N v row value x).tables.length=N.tables.length:=by simp [turnN]
 exact ⟨hN7.n1,hN7.n2,hN7.n3,by rw [htl2];exact hTB,hN7.k1,hN7.k2,hN7.k3,by rw [htl2];exact hcap⟩
end
end Go.Proofs.YtmncjibcoffmfaaGreat
