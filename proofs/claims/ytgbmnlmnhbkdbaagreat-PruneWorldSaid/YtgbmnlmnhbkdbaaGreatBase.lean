/- Base: small definitions and lemmas used by all walks of this seat: slices that read as lists, rows that the call owns. No condition. -/
import Derived.Test.YtgbmnlmnhbkdbaaGreatChecked
import Derived.WalkKit
import Derived.WalkSpells
import Derived.WalkLawsBesides
import Derived.Deep.QuietTactic
import Derived.Deep.Draws
import Derived.BigQuiet
import Derived.Lib.Hide
import Derived.Laws.OwnMore
import Derived.Maps.AppendAt
set_option linter.unusedVariables false
set_option linter.unusedSimpArgs false
namespace Go.Proofs.YtgbmnlmnhbkdbaaGreat
open Go.RowKit

theorem ret_bool {a b:Bool} (h:a=b):Ending.returned (.bool a)=.returned (.bool b):=by rw [h]
theorem ret_int {k:IntKind} {a b:Int} (h:a=b):Ending.returned (.int k a)=.returned (.int k b):=by rw [h]

def nth {α:Type} [Inhabited α] (xs:List α) (j:Nat):α:=xs.getD j default

section
variable {α:Type} [Inhabited α]
theorem nth_eq {xs:List α} {j:Nat} (h:j < xs.length):nth xs j=xs[j]:=by simp [nth,List.getD,h]
theorem nth_get? {xs:List α} {j:Nat} (h:j < xs.length):xs[j]?=some (nth xs j):=by simp [nth,List.getD,h]
theorem nth_ext {xs ys:List α} (h:xs.length=ys.length) (e:∀ j,j < xs.length→nth xs j=nth ys j):xs=ys:=by
 apply List.ext_getElem h
 intro i h1 h2
 have:=e i h1
 rwa [nth_eq h1,nth_eq h2] at this
theorem nth_append_left {xs ys:List α} {j:Nat} (h:j < xs.length):nth (xs ++ ys) j=nth xs j:=by
 rw [nth_eq (by simp;omega),nth_eq h,List.getElem_append_left h]
theorem nth_append_right {xs ys:List α} {j:Nat} (h:xs.length≤j):nth (xs ++ ys) j=nth ys (j - xs.length):=by
 simp only [nth,List.getD]
 rw [List.getElem?_append_right h]
theorem nth_set_same {xs:List α} {j:Nat} {v:α} (h:j < xs.length):nth (xs.set j v) j=v:=by
 rw [nth_eq (by simpa using h)];simp
theorem nth_set_other {xs:List α} {i j:Nat} {v:α} (h:i ≠ j):nth (xs.set i v) j=nth xs j:=by
 simp only [nth,List.getD,List.getElem?_set,if_neg h]
theorem nth_map {β:Type} [Inhabited β] (f:α→β) {xs:List α} {j:Nat} (h:j < xs.length):nth (xs.map f) j=f (nth xs j):=by
 rw [nth_eq (by simpa using h),nth_eq h];simp
theorem nth_take {xs:List α} {j k:Nat} (h:j < k):nth (xs.take k) j=nth xs j:=by
 simp only [nth,List.getD,List.getElem?_take,if_pos h]
theorem nth_drop {xs:List α} {j k:Nat}:nth (xs.drop k) j=nth xs (k + j):=by
 simp only [nth,List.getD,List.getElem?_drop]
theorem nth_mem {xs:List α} {j:Nat} (h:j < xs.length):nth xs j ∈ xs:=by rw [nth_eq h];exact List.getElem_mem h
theorem mem_nth {xs:List α} {x:α} (h:x ∈ xs):∃ j,j < xs.length∧nth xs j=x:=by
 obtain ⟨j,hj,e⟩:=List.mem_iff_getElem.1 h
 exact ⟨j,hj,by rw [nth_eq hj,e]⟩
theorem take_snoc {xs:List α} {k:Nat} (h:k < xs.length):xs.take (k + 1)=xs.take k ++ [nth xs k]:=by
 rw [List.take_succ_eq_append_getElem h,nth_eq h]
end

structure Sl {α:Type} [Inhabited α] (enc:α→Value) (w:World) (A:Option Addr) (n:Nat) (xs:List α):Prop where
 len:xs.length=n
 big:n≤140737488351232
 at':0 < n→∃ b off,A=some ⟨b,off,none⟩∧b < w.heap.size∧∀ j,j < n→w.cell? ⟨b,off + j,none⟩=some (enc (nth xs j))

theorem below_drewN {B:Nat} {a w:World} (h:Below B a w) (n:Nat):Below B a (w.drewN n):=⟨h.os,h.tape,h.output,h.size,h.block⟩
theorem below_refl_drewN (B:Nat) (w:World) (n:Nat):Below B w (w.drewN n):=below_drewN (Below.refl _ _) n

section
variable {α:Type} [Inhabited α] {enc:α→Value} {w w':World} {A:Option Addr} {n:Nat} {xs:List α}
theorem Sl.drewN (h:Sl enc w A n xs) (k:Nat):Sl enc (w.drewN k) A n xs:=⟨h.len,h.big,h.at'⟩
theorem Sl.nil (enc:α→Value) (w:World) (A:Option Addr):Sl enc w A 0 []:=⟨rfl,by omega,fun h=>absurd h (by omega)⟩
theorem Sl.below (h:Sl enc w A n xs) {B:Nat} (hB:w.heap.size≤B) (hb:Below B w w'):Sl enc w' A n xs:=
 ⟨h.len,h.big,fun hn=>by
   obtain ⟨b,off,e,hlt,hc⟩:=h.at' hn
   exact ⟨b,off,e,Nat.lt_of_lt_of_le hlt hb.size,fun j hj=>(hb.cell (p:=⟨b,off + j,none⟩) (Nat.lt_of_lt_of_le hlt hB)).trans (hc j hj)⟩⟩
theorem Sl.alloc (h:Sl enc w A n xs) (o:Obj):Sl enc (w.alloc o) A n xs:=h.below (Nat.le_refl _) ((Below.refl _ _).alloc (Nat.le_refl _) o)
theorem Sl.keep (h:Sl enc w A n xs) (hs:w.heap.size≤w'.heap.size) (hk:∀ p:Addr,(∀ b off,A=some ⟨b,off,none⟩→p.block=b)→w'.cell? p=w.cell? p):Sl enc w' A n xs:=
 ⟨h.len,h.big,fun hn=>by
   obtain ⟨b,off,e,hlt,hc⟩:=h.at' hn
   exact ⟨b,off,e,Nat.lt_of_lt_of_le hlt hs,fun j hj=>(hk _ (fun b' off' e'=>by rw [e] at e';injection e' with e';injection e')).trans (hc j hj)⟩⟩
end

def RowAt {α:Type} (enc:α→Value) (w:World) (g:Nat) (e:TypeId) (xs:List α) (rest:List Value):Prop:=
 w.heap[g]?=some (.cells (xs.map enc ++ rest).toArray e (0,0))

section
variable {α:Type} {enc:α→Value} {w w':World} {g:Nat} {e:TypeId} {xs:List α} {rest:List Value}
theorem RowAt.lt (h:RowAt enc w g e xs rest):g < w.heap.size:=(Array.getElem?_eq_some_iff.1 h).1
theorem RowAt.cell [Inhabited α] (h:RowAt enc w g e xs rest) {j:Nat} (hj:j < xs.length):w.cell? ⟨g,j,none⟩=some (enc (nth xs j)):=by
 rw [cell_of_row w g j _ e (0,0) h]
 simp only [List.getElem?_toArray]
 rw [List.getElem?_append_left (by simpa using hj),List.getElem?_map,nth_get? hj]
 rfl
theorem RowAt.frozen (h:RowAt enc w g e xs rest) (j:Nat):w.frozen? ⟨g,j,none⟩=false:=by
 unfold RowAt at h
 simp [World.frozen?,h]
theorem RowAt.drew (h:RowAt enc w g e xs rest):RowAt enc w.drew g e xs rest:=h
theorem RowAt.drewN (h:RowAt enc w g e xs rest) (k:Nat):RowAt enc (w.drewN k) g e xs rest:=h
theorem RowAt.alloc (h:RowAt enc w g e xs rest) (o:Obj):RowAt enc (w.alloc o) g e xs rest:=(Below.heap_alloc w o g h.lt).trans h
theorem RowAt.below (h:RowAt enc w g e xs rest) {B:Nat} (hb:Below B w w') (hg:g < B):RowAt enc w' g e xs rest:=(hb.block g hg).trans h
theorem RowAt.grown {row:Option Nat} (h:RowAt enc w g e xs rest) (hb:w.grownBy w' row) (hg:some g ≠ row):RowAt enc w' g e xs rest:=(hb.block g h.lt hg).trans h
theorem RowAt.far (h:RowAt enc w g e xs rest) {p:Addr} (hp:g ≠ p.block) (u:Value):RowAt enc (w.setCell p u) g e xs rest:=(Below.heap_setCell w p u g hp).trans h
theorem RowAt.set (h:RowAt enc w g e xs rest) {j:Nat} (hj:j < xs.length) (v:α):RowAt enc (w.setCell ⟨g,j,none⟩ (enc v)) g e (xs.set j v) rest:=by
 unfold RowAt at h ⊢
 simp only [World.setCell,Array.getElem?_modify,if_true,h,Option.map_some]
 congr 2
 rw [List.setIfInBounds_toArray,List.set_append_left _ _ (by simpa using hj),List.map_set]
 rfl
theorem RowAt.sl [Inhabited α] (h:RowAt enc w g e xs rest) (hbig:xs.length≤140737488351232):Sl enc w (some ⟨g,0,none⟩) xs.length xs:=
 ⟨rfl,hbig,fun _=>⟨g,0,rfl,h.lt,fun j hj=>by rw [Nat.zero_add];exact h.cell hj⟩⟩
end

section
variable {a b c w w':World} {row:Option Nat} {g:Nat}
theorem grown_trans (h:a.grownBy b row) (k:b.grownBy c row):a.grownBy c row:=
 ⟨k.os.trans h.os,k.tape.trans h.tape,k.output.trans h.output,Nat.le_trans h.size k.size,fun i hi hne=>(k.block i (Nat.lt_of_lt_of_le hi h.size) hne).trans (h.block i hi hne)⟩
theorem grown_refl (w:World) (row:Option Nat):w.grownBy w row:=⟨rfl,rfl,rfl,Nat.le_refl _,fun _ _ _=>rfl⟩
theorem grown_drewN (h:a.grownBy w row) (n:Nat):a.grownBy (w.drewN n) row:=⟨h.os,h.tape,h.output,h.size,h.block⟩
theorem grown_drew (h:a.grownBy w row):a.grownBy w.drew row:=⟨h.os,h.tape,h.output,h.size,h.block⟩
theorem grown_setCell (h:a.grownBy w (some g)) (j:Nat) (u:Value):a.grownBy (w.setCell ⟨g,j,none⟩ u) (some g):=
 grown_trans h ⟨rfl,rfl,rfl,by simp [World.setCell],fun k _ hne=>Below.heap_setCell _ _ _ _ (by rintro rfl;exact hne rfl)⟩
theorem grown_below (h:a.grownBy w (some g)) {B:Nat} (hB:B≤g) (hs:B≤a.heap.size):Below B a w:=
 ⟨h.os,h.tape,h.output,h.size,fun k hk=>h.block k (by omega) (by intro e;injection e;omega)⟩
theorem below_grown (h:Below a.heap.size a w) (row:Option Nat):a.grownBy w row:=⟨h.os,h.tape,h.output,h.size,fun k hk _=>h.block k hk⟩
end

def OwnR {α:Type} (enc:α→Value) (w:World) (base:Nat) (e:TypeId) (A:Option Addr) (n c:Nat) (xs:List α):Prop:=
 w.ownsRow base e 1 (.slice A n c) n (xs.map enc)

section
variable {α:Type} {enc:α→Value} {w w':World} {base:Nat} {e:TypeId} {A:Option Addr} {n c:Nat} {xs:List α}
theorem OwnR.length (h:OwnR enc w base e A n c xs):xs.length=n:=by simpa using h.1
theorem OwnR.cap (h:OwnR enc w base e A n c xs):n≤c:=by
 rcases h.2 with ⟨h1,h2⟩ | ⟨g,cap,cur,h1,_,_,h4,_⟩
 ·omega
 ·injection h1 with _ _ h3;omega
theorem OwnR.capmax (h:OwnR enc w base e A n c xs):c≤maxLen:=by
 rcases h.2 with ⟨h1,h2⟩ | ⟨g,cap,cur,h1,_,_,h4,h5,_⟩
 ·injection h1 with _ _ h3;subst h3;exact Nat.zero_le _
 ·injection h1 with _ _ h3;subst h3;exact h5
theorem OwnR.row (h:OwnR enc w base e A n c xs) (hn:0 < n):∃ g rest,A=some ⟨g,0,none⟩∧base≤g∧RowAt enc w g e xs rest∧n + rest.length=c:=by
 rcases h.2 with ⟨h1,h2⟩ | ⟨g,cap,cur,h1,hb,hg,h4,h5,h6,h7⟩
 ·omega
 ·injection h1 with e1 _ e3
  refine ⟨g,cur.toList.drop n,e1,hb,?_,?_⟩
  ·unfold RowAt
   rw [hg]
   congr 2
   have:cur.toList.take n=xs.map enc:=by simpa using h7
   rw [← this,List.take_append_drop]
  ·simp only [Nat.mul_one] at h6
   simp only [List.length_drop,Array.length_toList]
   omega
theorem OwnR.sl [Inhabited α] (h:OwnR enc w base e A n c xs) (hbig:n≤140737488351232):Sl enc w A n xs:=by
 refine ⟨h.length,hbig,fun hn=>?_⟩
 obtain ⟨g,rest,rfl,_,hr,_⟩:=h.row hn
 refine ⟨g,0,rfl,hr.lt,fun j hj=>?_⟩
 rw [Nat.zero_add]
 exact hr.cell (by rw [h.length];exact hj)
theorem OwnR.of_row {g:Nat} {rest:List Value} (h:RowAt enc w g e xs rest) (hb:base≤g) (hc:xs.length + rest.length≤maxLen) :
 OwnR enc w base e (some ⟨g,0,none⟩) xs.length (xs.length + rest.length) xs:=
 ⟨by simp,.inr ⟨g,xs.length + rest.length,_,rfl,hb,h,Nat.le_add_right _ _,hc,by simp,by simp⟩⟩
theorem OwnR.of_row' {g k:Nat} {rest:List Value} (h:RowAt enc w g e xs rest) (hb:base≤g) {cap:Nat} (hcap:xs.length + rest.length=cap) (hc:cap≤maxLen) (hk:xs.length=k) :
 OwnR enc w base e (some ⟨g,0,none⟩) k cap xs:=by
 subst hk;subst hcap;exact OwnR.of_row h hb hc
theorem OwnR.nil (enc:α→Value) (w:World) (base:Nat) (e:TypeId):OwnR enc w base e none 0 0 []:=World.ownsRow_nil _ _ _ _
theorem OwnR.mono (h:OwnR enc w base e A n c xs) {base':Nat} (hb:base'≤base):OwnR enc w base' e A n c xs:=by
 refine ⟨h.1,?_⟩
 rcases h.2 with h2 | ⟨g,cap,cur,h1,hg,r⟩
 ·exact .inl h2
 ·exact .inr ⟨g,cap,cur,h1,Nat.le_trans hb hg,r⟩
theorem OwnR.below (h:OwnR enc w base e A n c xs) {B:Nat} (hB:w.heap.size≤B) (hb:Below B w w'):OwnR enc w' base e A n c xs:=by
 refine ⟨h.1,?_⟩
 rcases h.2 with h2 | ⟨g,cap,cur,h1,hg,hh,r⟩
 ·exact .inl h2
 ·exact .inr ⟨g,cap,cur,h1,hg,(hb.block g (Nat.lt_of_lt_of_le (Array.getElem?_eq_some_iff.1 hh).1 hB)).trans hh,r⟩
theorem OwnR.grown (h:OwnR enc w base e A n c xs) {row:Option Nat} (hg:w.grownBy w' row) (hne:∀ g,A=some ⟨g,0,none⟩→row ≠ some g):OwnR enc w' base e A n c xs:=by
 refine ⟨h.1,?_⟩
 rcases h.2 with h2 | ⟨g,cap,cur,h1,hb,hh,r⟩
 ·exact .inl h2
 ·refine .inr ⟨g,cap,cur,h1,hb,(hg.block g (Array.getElem?_eq_some_iff.1 hh).1 (fun e=>?_)).trans hh,r⟩
  injection h1 with e1
  exact hne g e1 e.symm
theorem OwnR.alloc (h:OwnR enc w base e A n c xs) (o:Obj):OwnR enc (w.alloc o) base e A n c xs:=World.ownsRow.alloc h o
theorem OwnR.drewN (h:OwnR enc w base e A n c xs) (k:Nat):OwnR enc (w.drewN k) base e A n c xs:=h
end

theorem keeps {W w1:World} {B:Nat} (hb:Below B W w1):(∀ b o,b < B→w1.cell? ⟨b,o,none⟩=W.cell? ⟨b,o,none⟩)∧(∀ b o,b < B→w1.frozen? ⟨b,o,none⟩=W.frozen? ⟨b,o,none⟩):=
 ⟨fun b o h=>hb.cell (p:=⟨b,o,none⟩) h,fun b o h=>hb.frozen (p:=⟨b,o,none⟩) h⟩

def RowC (w:World) (g:Nat) (e:TypeId) (cs:List Value):Prop:=w.heap[g]?=some (.cells cs.toArray e (0,0))
section
variable {w w':World} {g:Nat} {e:TypeId} {cs:List Value}
theorem RowC.lt (h:RowC w g e cs):g < w.heap.size:=(Array.getElem?_eq_some_iff.1 h).1
theorem RowC.cell (h:RowC w g e cs) (i:Nat):w.cell? ⟨g,i,none⟩=cs[i]?:=by rw [cell_of_row w g i _ e (0,0) h];simp
theorem RowC.frozen (h:RowC w g e cs) (i:Nat):w.frozen? ⟨g,i,none⟩=false:=by
 unfold RowC at h
 simp [World.frozen?,h]
theorem RowC.new (w:World) (e:TypeId) (cs:List Value):RowC (w.alloc (.cells cs.toArray e)) w.heap.size e cs:=heap_alloc_new w _
theorem RowC.below (h:RowC w g e cs) {B:Nat} (hb:Below B w w') (hg:g < B):RowC w' g e cs:=(hb.block g hg).trans h
theorem RowC.below' (h:RowC w g e cs) (hb:Below w.heap.size w w'):RowC w' g e cs:=(hb.block g h.lt).trans h
theorem RowC.grown (h:RowC w g e cs) {row:Option Nat} (hb:w.grownBy w' row) (hg:some g ≠ row):RowC w' g e cs:=(hb.block g h.lt hg).trans h
theorem RowC.drewN (h:RowC w g e cs) (k:Nat):RowC (w.drewN k) g e cs:=h
theorem RowC.alloc (h:RowC w g e cs) (o:Obj):RowC (w.alloc o) g e cs:=(Below.heap_alloc w o g h.lt).trans h
theorem RowC.far (h:RowC w g e cs) {p:Addr} (hp:g ≠ p.block) (u:Value):RowC (w.setCell p u) g e cs:=(Below.heap_setCell w p u g hp).trans h
theorem RowC.put (h:RowC w g e cs) (i:Nat) (v:Value):RowC (w.setCell ⟨g,i,none⟩ v) g e (cs.set i v):=by
 unfold RowC at h ⊢
 simp only [World.setCell,Array.getElem?_modify,if_true,h,Option.map_some]
 congr 2
 rw [List.setIfInBounds_toArray]
 rfl
end
theorem bc {B:Nat} {w w':World} (h:Below B w w') {p:Addr} {o:Option Value} (e:w.cell? p=o) (hp:p.block < B):w'.cell? p=o:=(h.cell hp).trans e
end Go.Proofs.YtgbmnlmnhbkdbaaGreat
