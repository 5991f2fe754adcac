/- Joined by program out of: InsI, ISet, Concat. What each says stands at its own head. -/
import Derived.Test.YtgbmnlmnhbkdbaaGreatJ13
import Derived.Test.YtgbmnlmnhbkdbaaGreatJ10
import Derived.Test.YtgbmnlmnhbkdbaaGreatJ14
import Derived.Test.YtgbmnlmnhbkdbaaGreatJ5
import Derived.Lib.AppendZerosOnto
set_option linter.unusedVariables false
set_option linter.unusedSimpArgs false
/- slices.Insert of one element into a slice of the call's own; With at int, walked. Conditions: the list rises; its length is within Go's bound. -/
namespace Go.Proofs.YtgbmnlmnhbkdbaaGreat
open Go.RowKit
namespace SoI

end SoI
end Go.Proofs.YtgbmnlmnhbkdbaaGreat
/- Sets of ints told by the numbers in them, for callers. Conditions: lengths within Go's bound. -/
namespace Go.Proofs.YtgbmnlmnhbkdbaaGreat
open Go.RowKit

theorem mem_setOfI (z:Int) (xs:List Int):z ∈ setOf cmpI xs ↔ z ∈ xs:=by
 rw [mem_setOf cmpokI]
 constructor
 ·rintro ⟨i,_,e,_⟩;exact List.mem_of_getElem? e
 ·intro h
  obtain ⟨i0,hi0⟩:=List.getElem?_of_mem h
  obtain ⟨i,hi,hmin⟩:=least_bad (P:=fun i=>xs[i]?=some z) id i0 i0 (Nat.le_refl _) hi0
  refine ⟨i,(List.getElem?_eq_some_iff.1 hi).1,hi,fun j y hj hy h0=>?_⟩
  rw [cmpI_zero] at h0
  subst h0
  have:=hmin j hy
  simp only [id] at this
  omega
theorem isIn_I (x:Int) (l:List Int):isIn cmpI x l=decide (x ∈ l):=by
 rw [Bool.eq_iff_iff,isIn_iff,decide_eq_true_iff]
 constructor
 ·rintro ⟨y,hy,h0⟩;rw [cmpI_zero] at h0;rw [← h0];exact hy
 ·exact fun h=>⟨x,h,by rw [cmpI_zero]⟩
def ISet (w:World) (C:Option Addr) (k:Nat) (l:List Int):Prop:=∃ xs,Sl (Value.int .i64) w C k xs∧Asc cmpI xs∧∀ x,x ∈ xs ↔ x ∈ l
theorem ISet.below {w w':World} {C:Option Addr} {k:Nat} {l:List Int} (h:ISet w C k l) {B:Nat} (hB:w.heap.size≤B) (hb:Below B w w'):ISet w' C k l:=by
 obtain ⟨xs,h1,h2⟩:=h;exact ⟨xs,h1.below hB hb,h2⟩
instance {C:Option Addr} {k:Nat} {l:List Int}:Stable (fun w=>ISet w C k l):=⟨fun hb h=>h.below (Nat.le_refl _) hb⟩
theorem ISet.congr {w:World} {C:Option Addr} {k:Nat} {l m:List Int} (h:ISet w C k l) (he:∀ x,x ∈ l ↔ x ∈ m):ISet w C k m:=by
 obtain ⟨xs,h1,h2,h3⟩:=h;exact ⟨xs,h1,h2,fun x=>(h3 x).trans (he x)⟩
def ISetF (base:Nat) (w:World) (C:Option Addr) (k:Nat) (l:List Int):Prop:=ISet w C k l∧Fr base C
theorem ISetF.setLow {base:Nat} {w:World} {C:Option Addr} {k:Nat} {l:List Int} (h:ISetF base w C k l) {p:Addr} (hp:p.block < base) (v:Value):ISetF base (w.setCell p v) C k l:=by
 obtain ⟨⟨xs,h1,h2⟩,h3⟩:=h
 exact ⟨⟨xs,h1.setLow h3 hp v,h2⟩,h3⟩
theorem ISetF.mono {base base':Nat} {w:World} {C:Option Addr} {k:Nat} {l:List Int} (h:ISetF base w C k l) (hb:base'≤base):ISetF base' w C k l:=⟨h.1,h.2.mono hb⟩
instance {base:Nat} {C:Option Addr} {k:Nat} {l:List Int}:Stable (fun w=>ISetF base w C k l):=⟨fun hb h=>⟨h.1.below (Nat.le_refl _) hb,h.2⟩⟩
theorem of_I (A:Option Addr) (n c:Nat) (xs:List Int) (w:World) (hx:Sl (Value.int .i64) w A n xs) (hb:n * 8≤140737488355328) :
 Calls Tryz.prog 36 #[.slice A n c] w fun e w'=>∃ A' k c',e=.returned (.agg #[.slice A' k c'])∧ISetF w.heap.size w' A' k xs∧k≤n∧Below w.heap.size w w':=by
 have hl:=hx.len
 refine (SoI.of_any A n c xs w hx hb).mono ?_
 rintro e w' ⟨A',k,c',rfl,how,hbl⟩
 have hlen:=how.length
 have hle:=setOf_length_le (c:=cmpI) xs
 exact ⟨A',k,c',rfl,⟨⟨_,how.sl (by omega),asc_setOf cmpokI _,fun x=>mem_setOfI x xs⟩,how.fr.mono (Nat.le_succ _)⟩,by omega,hbl⟩
theorem has_I (A:Option Addr) (n c:Nat) (l:List Int) (x:Int) (w:World) (h:ISet w A n l) :
 Calls Tryz.prog 59 #[.agg #[.slice A n c],.int .i64 x] w fun e w'=>e=.returned (.bool (decide (x ∈ l)))∧Below w.heap.size w w':=by
 obtain ⟨xs,h1,h2,h3⟩:=h
 have:=SoI.has_any A n c xs x w h1 h2
 rw [isIn_I] at this
 have e:decide (x ∈ xs)=decide (x ∈ l):=by rw [Bool.eq_iff_iff,decide_eq_true_iff,decide_eq_true_iff];exact h3 x
 rw [e] at this
 exact this
theorem list_I (A:Option Addr) (n c:Nat) (l:List Int) (w:World) (h:ISet w A n l) (hb:n * 8≤140737488355328) :
 Calls Tryz.prog 60 #[.agg #[.slice A n c]] w fun e w'=>∃ A' c' xs,e=.returned (.slice A' n c')∧OwnR (Value.int .i64) w' (w.heap.size + 1) 3 A' n c' xs∧Asc cmpI xs∧(∀ x,x ∈ xs ↔ x ∈ l)∧Below w.heap.size w w':=by
 obtain ⟨xs,h1,h2,h3⟩:=h
 refine (SoI.list_any A n c xs w h1 hb).mono ?_
 rintro e w' ⟨A',c',rfl,how,hbl⟩
 exact ⟨A',c',xs,rfl,how,h2,h3,hbl⟩
theorem meet_I (A A':Option Addr) (n m c c':Nat) (s o:List Int) (w:World) (hs:ISet w A n s) (ho:ISet w A' m o) (hb:(n + m) * 8≤140737488355328) :
 Calls Tryz.prog 37 #[.agg #[.slice A n c],.agg #[.slice A' m c']] w fun e w'=>∃ B k d,e=.returned (.agg #[.slice B k d])∧ISet w' B k (s.filter fun x=>o.contains x)∧Below w.heap.size w w':=by
 obtain ⟨xs,h1,h2,h3⟩:=hs
 obtain ⟨ys,g1,g2,g3⟩:=ho
 refine (SoI.meet_any A A' n m c c' xs ys w h1 g1 h2 g2 hb).mono ?_
 rintro e w' ⟨B,k,d,out,rfl,hc,hsl,hbl⟩
 refine ⟨B,k,d,rfl,⟨out,hsl,hc.asc,fun x=>?_⟩,hbl⟩
 rw [hc.mem,List.mem_filter,← h3,List.contains_iff_mem,← g3]
 unfold want
 rw [isIn_I]
 by_cases hx:x ∈ ys <;> simp [hx]
theorem len_I (A:Option Addr) (n c:Nat) (w:World):Calls Tryz.prog 38 #[.agg #[.slice A n c]] w fun e w'=>e=.returned (.int .i64 n)∧Below w.heap.size w w':=SoI.len_any A n c w
end Go.Proofs.YtgbmnlmnhbkdbaaGreat
/- slices.Grow of the nil slice, slices.Concat, at ints, walked. Conditions: lengths within Go's bound. -/
namespace Go.Proofs.YtgbmnlmnhbkdbaaGreat
open Go.RowKit

theorem wpList_append_ran (w:World) {ops:Array Oper} {rest:List Oper} {o:Oper} {a:Act} {Q:Exit→Act→World→Prop} (hg:o.guard=none) (s x:Operand) (t1 t2:TypeId)
 (ho:o.op=.call { callee:=.builtin .append,args:=#[s,x],argTypes:=#[t1,t2] }) (u v r:Value) (w':World) (hs:a.eval s=u) (hx:a.eval x=v)
 (hrun:∀ ty,(Builtin.append_ #[t1,t2] ty #[u,v]).run Tryz.prog w=.ok r w') (h:wpList Tryz.prog ops Q rest (a.put o.dst r) w'):wpList Tryz.prog ops Q (o :: rest) a w:=by
 refine wpList_plain hg fun K hK=>?_
 unfold Oper.wp execOp
 simp only [ho,resolve,invoke,builtin,Sem.run_bind,Sem.run_pure,Result.andThen_ok,List.map_toArray,List.map_cons,List.map_nil,hs,hx,hrun]
 exact hK _ _ h
set_option maxRecDepth 100000 in
set_option maxHeartbeats 800000 in
theorem grow_nil (n:Nat) (w:World) (hn:n * 8≤140737488355328) :
 Calls Tryz.prog 57 #[.slice none 0 0,.int .i64 n] w fun e w'=>∃ A c,e=.returned (.slice A 0 c)∧OwnR (Value.int .i64) w' w.heap.size 3 A 0 c ([]:List Int)∧Below w.heap.size w w':=by
 obtain ⟨wa,hwa⟩:∃ wa:World,wa=w:=⟨_,rfl⟩
 subst hwa
 rcases Nat.eq_zero_or_pos n with rfl | h0
 ·go_enter Tryz.func57,Tryz.ntmps57
  go_wp2_with fail
  go_ret
  exact ⟨none,0,rfl,OwnR.nil _ _ _ _,Below.refl _ _⟩
 ·obtain ⟨⟨i,e1,e2,e3,e4,e5⟩,hz,hp⟩:=eiInt
  have hold:(Builtin.firstCells i.size 0 (.slice none 0 0)).run Tryz.prog wa.drew=.ok ([]:List Value).toArray wa.drew:=run_firstCells_none wa.drew i.size 0 0 0
  have hge:=grownCap_ge wa n 0 3
  have hle:=grownCap_le_maxLen wa n 0 3 (by unfold maxLen;omega)
  have hr:=fun ty=>Lib.run_append_grow_zeros (P:=Tryz.prog) wa 23 3 ty 3 i (.int .i64 0) .i64 .i64 e1 Tryz.underlying3 e2 e3 none 0 0 [] hold n h0 (by omega) (by omega) (by omega) (by rw [e5];omega)
   (by rw [Nat.zero_add,e5];exact growslice_fits (by omega) hn)
  simp only [Nat.zero_add] at hr
  have HR:=Lib.hid hr
  clear hr
  have hr:=HR.out
  clear HR
  generalize grownCap wa n 0 3=cap at *
  have hz8:∀ k,(Builtin.zeroCells (Value.int .i64 0).cells k).size=k:=fun k=>by simp [size_zeroCells,Value.cells]
  have hrow:RowAt (Value.int .i64) (wa.drew.alloc (.cells (([]:List Value).toArray ++ Builtin.zeroCells (Value.int .i64 0).cells n ++ Builtin.zeroCells (Value.int .i64 0).cells (cap - n)) 3)) wa.heap.size 3 ([]:List Int)
   (([]:List Value).toArray ++ Builtin.zeroCells (Value.int .i64 0).cells n ++ Builtin.zeroCells (Value.int .i64 0).cells (cap - n)).toList:=by
   have:=heap_alloc_new wa.drew (.cells (([]:List Value).toArray ++ Builtin.zeroCells (Value.int .i64 0).cells n ++ Builtin.zeroCells (Value.int .i64 0).cells (cap - n)) 3)
   unfold RowAt
   rw [List.map_nil,List.nil_append,Array.toArray_toList]
   exact this
  have hown:=OwnR.of_row' hrow (Nat.le_refl _) (k:=0) (cap:=cap) (by simp [hz8];omega) hle rfl
  have hbel:Below wa.heap.size wa (wa.drew.alloc (.cells (([]:List Value).toArray ++ Builtin.zeroCells (Value.int .i64 0).cells n ++ Builtin.zeroCells (Value.int .i64 0).cells (cap - n)) 3)):=
   (below_refl_drewN wa.heap.size wa 1).alloc (Nat.le_refl _) _
  have hcap:cap≤9223372036854775807:=by unfold maxLen at hle;omega
  have h5:¬ ((n:Int) < 0):=by omega
  have h6:(n:Int) > 0:=by omega
  generalize wa.drew.alloc (.cells (([]:List Value).toArray ++ Builtin.zeroCells (Value.int .i64 0).cells n ++ Builtin.zeroCells (Value.int .i64 0).cells (cap - n)) 3)=wb at *
  have HO:=Lib.hid (And.intro hown hbel)
  have HR:=Lib.hid hr
  clear hown hbel hrow hold hz8 hle hge hr
  go_enter Tryz.func57,Tryz.ntmps57
  go_wp2_with (first
   | (at_builtin;refine wpList_append_ran _ rfl _ _ 23 3 rfl _ _ _ _ rfl rfl HR.out ?_)
   | fail)
  go_ret
  exact ⟨_,cap,rfl,HO.out.1,HO.out.2⟩

def sumL (Ps:List (List Int)):Nat:=Ps.flatten.length
theorem sumL_succ {Ps:List (List Int)} {k:Nat} (h:k < Ps.length):(Ps.take (k + 1)).flatten=(Ps.take k).flatten ++ nth Ps k:=by
 rw [take_snoc h];simp
theorem sumL_le {Ps:List (List Int)} (k:Nat):(Ps.take k).flatten.length≤Ps.flatten.length:=by
 conv=>rhs;rw [← List.take_append_drop k Ps,List.flatten_append,List.length_append]
 omega

set_option maxRecDepth 100000 in
set_option maxHeartbeats 800000 in
theorem concat_any (A:Option Addr) (n c:Nat) (Ps:List (List Int)) (w:World) (h:Rows (Value.int .i64) w A n Ps) (hs:Ps.flatten.length * 8≤140737488355328) :
 Calls Tryz.prog 34 #[.slice A n c] w fun e w'=>∃ B k d,e=.returned (.slice B k d)∧OwnR (Value.int .i64) w' w.heap.size 3 B k d Ps.flatten∧Below w.heap.size w w':=by
 obtain ⟨wa,hwa⟩:∃ wa:World,wa=w:=⟨_,rfl⟩
 subst hwa
 have hbig:=h.big
 have hlen:=h.len
 have HL:=Lib.hid (And.intro h hs)
 clear h
 go_enter Tryz.func34,Tryz.ntmps34
 go_wp2_with fail
 go_loopw [3,11] (fun z i wr=>∃ k:Nat,i=.int .i64 (k:Nat)∧z=.int .i64 (((Ps.take k).flatten.length:Nat):Int)∧k≤n∧wr=wa) (fun _ i _=>n - (intOf i).toNat)
 case atStart=>exact ⟨0,rfl,rfl,Nat.zero_le _,rfl⟩
 case round =>
  obtain ⟨k,rfl,rfl,hk,hwr⟩:=hrel
  have hwr:=hwr.symm
  subst hwr
  by_cases hlt:k < n
  ·obtain ⟨b,off,B,m,d,rfl,_,g0,hrow⟩:=HL.out.1.row hlt
   have hsu:=sumL_succ (Ps:=Ps) (k:=k) (by omega)
   have hle:=sumL_le (Ps:=Ps) (k + 1)
   rw [hsu,List.length_append,hrow.len] at hle
   have hml:(Ps.take (k + 1)).flatten.length=(Ps.take k).flatten.length + m:=by rw [hsu,List.length_append,hrow.len]
   have HS:=Lib.hid hml
   clear hsu hrow hml
   generalize (Ps.take k).flatten.length=sz at *
   have q1:¬ ((sz:Int) + (m:Int) < 0):=by omega
   go_wp2_with fail
   exact ⟨⟨k + 1,by go_num,by rw [HS.out];go_num,by omega,trivial⟩,by simp [intOf];omega⟩
  ·obtain rfl:k=n:=by omega
   have e1:(Ps.take k).flatten.length=Ps.flatten.length:=by rw [← hlen,List.take_length]
   rw [e1]
   generalize hsz:Ps.flatten.length=sz at *
   have HZ:=Lib.hid hsz
   clear hsz e1
   go_wp2_with fail
   refine (grow_nil sz _ hs).mono ?_
   rintro e w1 ⟨X,cx,rfl,hX,hb1⟩
   have H1:=Lib.hid (And.intro hX hb1)
   clear hX hb1
   go_wp2_with fail
   go_loopw [6,27] (fun v i wr=>∃ (j q d:Nat) (B:Option Addr),i=.int .i64 (j:Nat)∧v=.slice B q d∧j≤k∧OwnR (Value.int .i64) wr wa.heap.size 3 B q d (Ps.take j).flatten∧Below wa.heap.size wa wr) (fun _ i _=>k - (intOf i).toNat)
   case atStart=>exact ⟨0,0,cx,X,rfl,rfl,Nat.zero_le _,H1.out.1,H1.out.2⟩
   case round =>
    obtain ⟨j,q,d,B,rfl,rfl,hj,ho,hb⟩:=hrel
    obtain ⟨wb,hwb⟩:∃ wb:World,wb=wr:=⟨_,rfl⟩
    subst hwb
    by_cases hlt:j < k
    ·obtain ⟨b,off,C,m,dc,rfl,_,g0,hrow⟩:=(HL.out.1.below (Nat.le_refl _) hb).row hlt
     have hsu:=sumL_succ (Ps:=Ps) (k:=j) (by omega)
     have hle:=sumL_le (Ps:=Ps) (j + 1)
     have hql:=ho.length
     rw [hsu,List.length_append,hrow.len,hql] at hle
     have hsz:=hb.size
     have hz:=HZ.out
     have HS:=Lib.hid (And.intro hsu hb)
     clear hsu hb
     have hqm:(q + m) * 8≤140737488355328:=by omega
     go_wp2_with (first
      | (at_builtin;refine wpList_app _ eiInt (Value.int .i64) (fun _=>rfl) rfl _ _ rfl wa.heap.size _ _ _ _ rfl ho _ _ _ _ rfl hrow hqm hsz ?_)
      | fail)
     intro A9 c9 w9 ho9 _ hb9 _
     have hbf:=HS.out.2.trans hb9
     rw [← HS.out.1] at ho9
     have H9:=Lib.hid (And.intro ho9 hbf)
     clear ho9 hb9 hbf ho hrow
     go_wp2_with fail
     exact ⟨⟨j + 1,q + m,c9,A9,by go_num,rfl,by omega,H9.out.1,H9.out.2⟩,by simp [intOf];omega⟩
    ·obtain rfl:j=k:=by omega
     have e1:(Ps.take j).flatten=Ps.flatten:=by rw [← hlen,List.take_length]
     rw [e1] at ho
     have H9:=Lib.hid (And.intro ho hb)
     clear ho hb e1
     go_wp2_with fail
     go_ret
     exact ⟨B,q,d,rfl,H9.out.1,H9.out.2⟩
end Go.Proofs.YtgbmnlmnhbkdbaaGreat
