/- Joined by program out of: Bulk, OpenNet. What each says stands at its own head. -/
import Derived.Test.YtmncjibcoffmfaaGreatOpen
import Derived.Test.YtmncjibcoffmfaaGreatRows
import Derived.Deep.CondSized
import Derived.Test.YtmncjibcoffmfaaGreatOwnNetM
set_option linter.unusedVariables false
set_option linter.unusedSimpArgs false
/- The bulk of what is read bounds the lengths of the slices in it. No condition. -/
namespace Go.Proofs.YtmncjibcoffmfaaGreat
open Go.ChangeShapes Go.WideShapes Go.ChangeAt Go.RowKit

theorem bulk_pos {H:Type}:∀ d:DataW H,1≤Rows.uptoBulk d
 | .lit l=>by cases l <;> simp [Rows.uptoBulk]
 | .nil=>by simp [Rows.uptoBulk]
 | .ptr d=>by simp [Rows.uptoBulk]
 | .slice a b=>by simp [Rows.uptoBulk]
 | .agg a=>by simp [Rows.uptoBulk]
 | .iface _ d=>by simp [Rows.uptoBulk]
 | .map e=>by simp [Rows.uptoBulk]
 | .held _=>by simp [Rows.uptoBulk]
theorem bulkAll_length {H:Type}:∀ l:List (DataW H),l.length≤Rows.uptoBulkAll l
 | []=>by simp [Rows.uptoBulkAll]
 | d :: r=>by
   have h1:=bulk_pos d
   have h2:=bulkAll_length r
   simp only [Rows.uptoBulkAll,List.length_cons]
   omega
end Go.Proofs.YtmncjibcoffmfaaGreat
/- A network and a fraction among the arguments, opened: what they read as; their bulk bounds their sizes. Conditions: the row's own reach. -/
namespace Go.Proofs.YtmncjibcoffmfaaGreat
open Go.ChangeShapes Go.WideShapes Go.ChangeAt Go.RowKit Go.Joins
section
variable {H:Type} {enc:TypeId × Value→H} {P:Program}
theorem bulkAll_mem {ds:List (DataW H)} {i:Nat} {z:DataW H} (h:ds[i]?=some z):Rows.uptoBulk z≤Rows.uptoBulkAll ds:=by
 induction ds generalizing i with
 | nil=>simp at h
 | cons d r ih =>
   cases i with
   | zero=>simp at h;subst h;simp only [Rows.uptoBulkAll];omega
   | succ i =>
     have:=ih (i:=i) (by simpa using h)
     simp only [Rows.uptoBulkAll];omega
theorem open_sliceM {α:Type} [Inhabited α] {k:Nat} (E:Enc α k) (Good:α→DataW H→Prop) {T e:TypeId} {W:World} {v:Value} {fuel:Nat} {y:DataW H × List MemPlace} (ht:P.underlying T=some (.slice e)) (hc:P.cellsOf e=k) (hk:0 < k) (hby:0 < P.bytesOf e)
 (hel:∀ (n:Nat) (cs:List Value) (z:DataW H × List MemPlace),cs.length=k→DataW.trod enc P W 0 (fun _=>true) true n e cs=some z→Wt P e z.1→∃ x,cs=E.cells x∧Good x z.1)
 (hf:DataW.trod enc P W 0 (fun _=>true) true fuel T [v]=some y) (hw:Wt P T y.1) :
 ∃ A n c xs zs,v=.slice A n c∧SlM E W A n xs∧n≤c∧zs.length=n∧Rows.uptoBulkAll zs + 1≤Rows.uptoBulk y.1∧∀ i,i < n→∃ z,zs[i]?=some z∧Good (nth xs i) z:=by
 rcases DataW.trod_slice ht hf with ⟨hcs,hx⟩ | ⟨a,len,cap,elems,rest,n,rfl,hcs,hx,hb,hl,hm,hlen,hget,hsp,hns⟩
 ·simp at hcs
  subst hcs
  rw [hx]
  exact ⟨none,0,0,[],[],rfl,SlM.nil _ _ _,Nat.le_refl _,rfl,by simp [Rows.uptoBulkAll,Rows.uptoBulk],fun i hi=>absurd hi (Nat.not_lt_zero _)⟩
 ·simp at hcs
  subst hcs
  rw [hx] at hw ⊢
  obtain ⟨hr,hall⟩:=Wt.slice ht hw
  simp only [List.length_map,reachBytes] at hr
  have hreach:len * P.bytesOf e≤140737488351232:=Nat.le_trans (Nat.mul_le_mul_right _ (by omega)) hr
  have hbig:len≤140737488351232:=Nat.le_trans (Nat.le_mul_of_pos_right _ hby) hreach
  have each:∀ i,i < len→∃ x,(∀ j,j < k→W.cell? (a.add (i * k + j))=(E.cells x)[j]?)∧∃ z,(elems.map (·.1))[i]?=some z∧Good x z:=by
   intro i hi
   have h1:=hget i hi
   rw [List.getElem?_eq_getElem (by omega),hc,Option.bind_eq_some_iff] at h1
   obtain ⟨cs',hcs,hy'⟩:=h1
   obtain ⟨_,hl1,hcell⟩:=World.cells?_some hcs
   obtain ⟨x,rfl,hg⟩:=hel n cs' _ hl1 hy' (hall _ (List.mem_map.2 ⟨_,List.getElem_mem (by omega),rfl⟩))
   refine ⟨x,fun j hj=>?_,_,by rw [List.getElem?_map,List.getElem?_eq_getElem (by omega)];rfl,hg⟩
   rw [← hcell j hj]
   congr 1
   obtain ⟨b,off,spot⟩:=a
   by_cases h1:j=0 <;> by_cases h2:i * k=0 <;> simp [Addr.add,h1,h2,Nat.add_assoc]
  obtain ⟨xs,hxl,hxs⟩:=list_of (fun i x=>(∀ j,j < k→W.cell? (a.add (i * k + j))=(E.cells x)[j]?)∧∃ z,(elems.map (·.1))[i]?=some z∧Good x z) len each
  refine ⟨some a,len,cap,xs,elems.map (·.1),rfl,⟨hxl,hbig,fun hn=>?_⟩,hl,by simp [hlen],by simp only [Rows.uptoBulk];omega,fun i hi=>(hxs i hi).2⟩
  obtain ⟨b,off,spot⟩:=a
  have h0:=(hxs 0 (by omega)).1 0 hk
  have hE:=E.len (nth xs 0)
  rw [List.getElem?_eq_getElem (by omega)] at h0
  have hspot:spot=none:=by simpa [Addr.add] using World.cell?_spot h0
  subst hspot
  have hb:b < W.heap.size:=by simpa [Addr.add] using World.block_lt_of_cell? _ _ h0
  refine ⟨b,off,rfl,hb,fun j i hj hi=>?_⟩
  have h1:=(hxs j hj).1 i hi
  rwa [show (⟨b,off,none⟩:Addr).add (j * k + i)=⟨b,off + j * k + i,none⟩ from by rw [Addr.add_lit,Nat.add_assoc]] at h1
def oneE {α:Type} (enc':α→Value) (h1:∀ x,(enc' x).oneCell'=true):Enc α 1:=⟨fun x=>[enc' x],fun _=>rfl,fun x u hu=>by
 simp only [List.mem_cons,List.not_mem_nil,or_false] at hu
 subst hu;exact h1 x⟩
theorem SlM.sl {α:Type} [Inhabited α] {enc':α→Value} {h1:∀ x,(enc' x).oneCell'=true} {W:World} {A:Option Addr} {n:Nat} {xs:List α} (h:SlM (oneE enc' h1) W A n xs):Sl enc' W A n xs:=
 ⟨h.len,h.big,fun hn=>by
   obtain ⟨b,off,e,hlt,hc⟩:=h.at' hn
   refine ⟨b,off,e,hlt,fun i hi=>?_⟩
   have h2:=hc i 0 hi (by omega)
   rw [Nat.mul_one,Nat.add_zero] at h2
   rw [h2];rfl⟩
theorem open_list {α:Type} [Inhabited α] (enc':α→Value) (h1:∀ x,(enc' x).oneCell'=true) (Good:α→Prop) {T e:TypeId} {W:World} {v:Value} {fuel:Nat} {y:DataW H × List MemPlace} (ht:P.underlying T=some (.slice e)) (hc:P.cellsOf e=1) (hby:0 < P.bytesOf e)
 (hel:∀ (n:Nat) (c:Value) (z:DataW H × List MemPlace),DataW.trod enc P W 0 (fun _=>true) true n e [c]=some z→∃ x,c=enc' x∧Good x)
 (hf:DataW.trod enc P W 0 (fun _=>true) true fuel T [v]=some y) (hw:Wt P T y.1) :
 ∃ A n c xs,v=.slice A n c∧Sl enc' W A n xs∧n≤c∧n + 1≤Rows.uptoBulk y.1∧∀ x,x ∈ xs→Good x:=by
 obtain ⟨A,n,c,xs,zs,rfl,hs,hnc,hzl,hbk,hg⟩:=open_sliceM (enc:=enc) (W:=W) (oneE enc' h1) (fun x _=>Good x) ht hc (by omega) hby (fun m cs z hl hz _=>by
  obtain ⟨c0,rfl⟩:∃ c0,cs=[c0]:=List.length_eq_one_iff.1 hl
  obtain ⟨x,rfl,hx⟩:=hel m c0 z hz
  exact ⟨x,rfl,hx⟩) hf hw
 have:=bulkAll_length zs
 refine ⟨A,n,c,xs,rfl,hs.sl,hnc,by omega,fun x hx=>?_⟩
 obtain ⟨j,hj,rfl⟩:=mem_nth hx
 obtain ⟨_,_,h2⟩:=hg j (by rw [← hs.len];exact hj)
 exact h2
theorem open_lists {α:Type} [Inhabited α] (enc':α→Value) (h1:∀ x,(enc' x).oneCell'=true) (Good:α→Prop) {T U e:TypeId} {W:World} {v:Value} {fuel:Nat} {y:DataW H × List MemPlace} (hT:P.underlying T=some (.slice U)) (hcU:P.cellsOf U=1) (hbU:0 < P.bytesOf U) (ht:P.underlying U=some (.slice e)) (hc:P.cellsOf e=1) (hby:0 < P.bytesOf e)
 (hel:∀ (n:Nat) (c:Value) (z:DataW H × List MemPlace),DataW.trod enc P W 0 (fun _=>true) true n e [c]=some z→∃ x,c=enc' x∧Good x)
 (hf:DataW.trod enc P W 0 (fun _=>true) true fuel T [v]=some y) (hw:Wt P T y.1) :
 ∃ A n c L,v=.slice A n c∧Rows enc' W A n L∧n≤c∧n + 1≤Rows.uptoBulk y.1∧∀ l,l ∈ L→l.length≤Rows.uptoBulk y.1∧∀ x,x ∈ l→Good x:=by
 obtain ⟨A,n,c,xs,zs,rfl,hs,hnc,hzl,hbk,hg⟩:=open_sliceM (enc:=enc) (W:=W) (oneE (fun x:(Option Addr × Nat × Nat) × List α=>eS x.1) (fun _=>rfl))
  (fun x z=>Sl enc' W x.1.1 x.1.2.1 x.2∧x.1.2.1≤x.1.2.2∧x.1.2.1 + 1≤Rows.uptoBulk z∧∀ u,u ∈ x.2→Good u) hT hcU (by omega) hbU (fun m cs z hl hz hwz=>by
  obtain ⟨c0,rfl⟩:∃ c0,cs=[c0]:=List.length_eq_one_iff.1 hl
  obtain ⟨A,n,c,xs,rfl,r1,r2,r3,r4⟩:=open_list enc' h1 Good ht hc hby hel hz hwz
  exact ⟨((A,n,c),xs),rfl,r1,r2,r3,r4⟩) hf hw
 have hsl:=hs.sl
 have hlen:=bulkAll_length zs
 have hl:=hsl.len
 refine ⟨A,n,c,xs.map (·.2),rfl,⟨⟨xs.map (·.1),⟨by simpa using hl,hsl.big,fun hp=>?_⟩,fun i hi=>?_⟩,by simpa using hl⟩,hnc,by omega,fun l hm=>?_⟩
 ·obtain ⟨b,off,e1,hlt,hcell⟩:=hsl.at' hp
  exact ⟨b,off,e1,hlt,fun j hj=>by rw [hcell j hj,nth_map _ (by omega)]⟩
 ·rw [nth_map _ (by omega),nth_map _ (by omega)]
  obtain ⟨z,_,r1,r2,_⟩:=hg i hi
  exact ⟨r1,r2⟩
 ·obtain ⟨u,hu,rfl⟩:=List.mem_map.1 hm
  obtain ⟨j,hj,rfl⟩:=mem_nth hu
  obtain ⟨z,hz,r1,r2,r3,r4⟩:=hg j (by rw [← hl];exact hj)
  have:=bulkAll_mem hz
  exact ⟨by rw [r1.len];omega,r4⟩
end
section
variable {H:Type} {enc:TypeId × Value→H}
theorem cell_limb {W:World} (n:Nat) (c:Value) (z:DataW H × List MemPlace) (h:DataW.trod enc Tryz.prog W 0 (fun _=>true) true n 54 [c]=some z):∃ x,c=eU x∧x < bB:=by
 obtain ⟨m,rfl,hm⟩:=cell_int (W:=W) Tryz.underlying54 n c z h
 have hm':(0:Int)≤m∧m≤4294967295:=by
  simp only [Lit.wf,Bool.and_eq_true,decide_eq_true_eq] at hm
  exact hm
 refine ⟨m.toNat,?_,by unfold bB;omega⟩
 unfold eU
 rw [Int.toNat_of_nonneg hm'.1]
theorem open_nat {W:World} {v:Value} {fuel:Nat} {y:DataW H × List MemPlace} (hf:DataW.trod enc Tryz.prog W 0 (fun _=>true) true fuel 32 [v]=some y) (hw:Wt Tryz.prog 32 y.1) :
 ∃ A n c xs,v=.slice A n c∧Sl eU W A n xs∧n≤c∧n + 1≤Rows.uptoBulk y.1∧L32 xs:=
 open_list eU (fun _=>rfl) (fun x=>x < bB) Tryz.underlying32 (by kernel_rfl) (of_decide_eq_true (by kernel_rfl)) (fun n c z h=>cell_limb n c z h) hf hw
theorem open_rat {W:World} {cs:List Value} {fuel:Nat} {y:DataW H × List MemPlace} (hl:cs.length=3) (hf:DataW.trod enc Tryz.prog W 0 (fun _=>true) true fuel 36 cs=some y) (hw:Wt Tryz.prog 36 y.1) :
 ∃ (h:RH) (r:RawR),cs=ratE.cells h∧RawAt W h r∧r.sz + 1≤Rows.uptoBulk y.1:=by
 obtain ⟨a,b,c,rfl⟩:∃ a b c,cs=[a,b,c]:=by
  match cs,hl with
  | [a,b,c],_=>exact ⟨a,b,c,rfl⟩
 obtain ⟨y0,y1,n,rfl,_,g0,g1⟩:=trod_struct2 Tryz.underlying36 hf
 have hw':=Wt.fields Tryz.underlying36 hw
 have w0:=Wt.each hw' 0 34 _ rfl rfl
 have w1:=Wt.each hw' 1 32 _ rfl rfl
 have g0':DataW.trod enc Tryz.prog W 0 (fun _=>true) true n 34 [a,b]=some y0:=by
  rw [show Tryz.prog.cellsOf 34=2 from by kernel_rfl] at g0;exact g0
 have g1':DataW.trod enc Tryz.prog W 0 (fun _=>true) true n 32 [c]=some y1:=by
  rw [show Tryz.prog.cellsOf 32=1 from by kernel_rfl] at g1;exact g1
 obtain ⟨u0,u1,m,rfl,_,k0,k1⟩:=trod_struct2 Tryz.underlying34 g0'
 have hw2:=Wt.fields Tryz.underlying34 w0
 have w3:=Wt.each hw2 1 32 _ rfl rfl
 have k0':DataW.trod enc Tryz.prog W 0 (fun _=>true) true m 4 [a]=some u0:=by
  rw [show Tryz.prog.cellsOf 4=1 from by kernel_rfl] at k0;exact k0
 have k1':DataW.trod enc Tryz.prog W 0 (fun _=>true) true m 32 [b]=some u1:=by
  rw [show Tryz.prog.cellsOf 32=1 from by kernel_rfl] at k1;exact k1
 obtain ⟨s,rfl⟩:∃ s,a=.bool s:=by
  obtain ⟨s,hs,_⟩:=DataW.trod_bool Tryz.underlying4 k0'
  simp at hs
  exact ⟨s,hs⟩
 obtain ⟨A,n1,c1,xs,rfl,r1,r2,r3,r4⟩:=open_nat k1' w3
 obtain ⟨D,n2,c2,ds,rfl,s1,s2,s3,s4⟩:=open_nat g1' w1
 refine ⟨⟨s,A,n1,c1,D,n2,c2⟩,⟨s,xs,ds⟩,rfl,⟨rfl,r1,r2,r4,s1,s2,s4⟩,?_⟩
 have e1:=r1.len
 have e2:=s1.len
 simp only [RawR.sz,Rows.uptoBulk,Rows.uptoBulkAll]
 omega
theorem totTo_bulk {l:List RawR} {zs:List (DataW H)} (h:∀ i,i < l.length→∃ z,zs[i]?=some z∧(nth l i).sz + 1≤Rows.uptoBulk z):∀ i,i≤l.length→totTo l i≤Rows.uptoBulkAll (zs.take i)
 | 0,_=>Nat.zero_le _
 | i + 1,hi=>by
   obtain ⟨z,hz,hb⟩:=h i (by omega)
   have h1:=totTo_bulk h i (by omega)
   have h2:zs.take (i + 1)=zs.take i ++ [z]:=by
    obtain ⟨hlt,e⟩:=List.getElem?_eq_some_iff.1 hz
    rw [List.take_succ_eq_append_getElem hlt,e]
   have h3:∀ (l l2:List (DataW H)),Rows.uptoBulkAll (l ++ l2)=Rows.uptoBulkAll l + Rows.uptoBulkAll l2:=fun l l2=>by
    induction l with
    | nil=>simp [Rows.uptoBulkAll]
    | cons d r ih=>simp only [List.cons_append,Rows.uptoBulkAll,ih];omega
   rw [h2,h3,totTo]
   simp only [Rows.uptoBulkAll]
   omega
theorem totL_bulk {lt:Nat→Nat} {n:Nat} {zs:List (DataW H)} (h:∀ i,i < n→∃ z,zs[i]?=some z∧lt i≤Rows.uptoBulk z):∀ i,i≤n→totL lt i≤Rows.uptoBulkAll (zs.take i)
 | 0,_=>Nat.zero_le _
 | i + 1,hi=>by
   obtain ⟨z,hz,hb⟩:=h i (by omega)
   have h1:=totL_bulk h i (by omega)
   have h2:zs.take (i + 1)=zs.take i ++ [z]:=by
    obtain ⟨hlt,e⟩:=List.getElem?_eq_some_iff.1 hz
    rw [List.take_succ_eq_append_getElem hlt,e]
   have h3:∀ (l l2:List (DataW H)),Rows.uptoBulkAll (l ++ l2)=Rows.uptoBulkAll l + Rows.uptoBulkAll l2:=fun l l2=>by
    induction l with
    | nil=>simp [Rows.uptoBulkAll]
    | cons d r ih=>simp only [List.cons_append,Rows.uptoBulkAll,ih];omega
   rw [h2,h3,totL]
   simp only [Rows.uptoBulkAll]
   omega
theorem bulk_take (zs:List (DataW H)) (i:Nat):Rows.uptoBulkAll (zs.take i)≤Rows.uptoBulkAll zs:=by
 induction zs generalizing i with
 | nil=>simp
 | cons d r ih =>
   cases i with
   | zero=>simp [Rows.uptoBulkAll]
   | succ i=>simp only [List.take_succ_cons,Rows.uptoBulkAll];have:=ih i;omega
theorem open_table {W:World} {v:Value} {fuel:Nat} {y:DataW H × List MemPlace} (hf:DataW.trod enc Tryz.prog W 0 (fun _=>true) true fuel 45 [v]=some y) (hw:Wt Tryz.prog 45 y.1) :
 ∃ A n c l,v=.slice A n c∧RRow W A n l∧n≤c∧n + 1≤Rows.uptoBulk y.1∧totTo l l.length≤Rows.uptoBulk y.1:=by
 obtain ⟨A,n,c,xs,zs,rfl,hs,hnc,hzl,hbk,hg⟩:=open_sliceM (enc:=enc) (W:=W) ratE (fun (x:RH) z=>∃ r,RawAt W x r∧r.sz + 1≤Rows.uptoBulk z) Tryz.underlying45 (by kernel_rfl) (by omega) (of_decide_eq_true (by kernel_rfl)) (fun m cs z hl hz hwz=>by
  obtain ⟨h,r,rfl,h1,h2⟩:=open_rat hl hz hwz
  exact ⟨h,rfl,r,h1,h2⟩) hf hw
 obtain ⟨l,hll,hl⟩:=list_of (fun i (r:RawR)=>RawAt W (nth xs i) r∧∃ z,zs[i]?=some z∧r.sz + 1≤Rows.uptoBulk z) n (fun i hi=>by
  obtain ⟨z,hz,r,h1,h2⟩:=hg i hi
  exact ⟨r,h1,z,hz,h2⟩)
 have hlen:=bulkAll_length zs
 have h1:=totTo_bulk (l:=l) (zs:=zs) (fun i hi=>(hl i (by omega)).2) l.length (Nat.le_refl _)
 have h2:=bulk_take zs l.length
 exact ⟨A,n,c,l,rfl,⟨⟨xs,hs,fun i hi=>(hl i hi).1⟩,hll⟩,hnc,by omega,by omega⟩
theorem open_tables {W:World} {v:Value} {fuel:Nat} {y:DataW H × List MemPlace} (hf:DataW.trod enc Tryz.prog W 0 (fun _=>true) true fuel 25 [v]=some y) (hw:Wt Tryz.prog 25 y.1) :
 ∃ A n c L,v=.slice A n c∧Tabs W A n L∧n≤c∧n + 1≤Rows.uptoBulk y.1∧(∀ l,l ∈ L→l.length≤Rows.uptoBulk y.1∧totTo l l.length≤Rows.uptoBulk y.1)∧totL (fun i=>(nth L i).length) n≤Rows.uptoBulk y.1:=by
 obtain ⟨A,n,c,xs,zs,rfl,hs,hnc,hzl,hbk,hg⟩:=open_sliceM (enc:=enc) (W:=W) (oneE (fun x:(Option Addr × Nat × Nat) × List RawR=>eS x.1) (fun _=>rfl))
  (fun x z=>RRow W x.1.1 x.1.2.1 x.2∧x.1.2.1≤x.1.2.2∧x.1.2.1 + 1≤Rows.uptoBulk z∧totTo x.2 x.2.length≤Rows.uptoBulk z) Tryz.underlying25 (by kernel_rfl) (by omega) (of_decide_eq_true (by kernel_rfl)) (fun m cs z hl hz hwz=>by
  obtain ⟨c0,rfl⟩:∃ c0,cs=[c0]:=List.length_eq_one_iff.1 hl
  obtain ⟨A,n,c,l,rfl,r1,r2,r3,r4⟩:=open_table hz hwz
  exact ⟨((A,n,c),l),rfl,r1,r2,r3,r4⟩) hf hw
 have hsl:=hs.sl
 have hlen:=bulkAll_length zs
 have hl:=hsl.len
 refine ⟨A,n,c,xs.map (·.2),rfl,⟨⟨xs.map (·.1),⟨by simpa using hl,hsl.big,fun hp=>?_⟩,fun i hi=>?_⟩,by simpa using hl⟩,hnc,by omega,fun l hm=>?_,?_⟩
 ·obtain ⟨b,off,e1,hlt,hcell⟩:=hsl.at' hp
  exact ⟨b,off,e1,hlt,fun j hj=>by rw [hcell j hj,nth_map _ (by omega)]⟩
 ·rw [nth_map _ (by omega),nth_map _ (by omega)]
  obtain ⟨z,_,r1,r2,_⟩:=hg i hi
  exact ⟨r1,r2⟩
 ·obtain ⟨u,hu,rfl⟩:=List.mem_map.1 hm
  obtain ⟨j,hj,rfl⟩:=mem_nth hu
  obtain ⟨z,hz,r1,r2,r3,r4⟩:=hg j (by rw [← hl];exact hj)
  have:=bulkAll_mem hz
  exact ⟨by rw [r1.len];omega,by omega⟩
 ·have h1:=totL_bulk (lt:=fun i=>(nth (xs.map fun x:(Option Addr × Nat × Nat) × List RawR=>x.2) i).length) (zs:=zs) (fun i hi=>by
   obtain ⟨z,hz,r1,r2,r3,r4⟩:=hg i hi
   refine ⟨z,hz,?_⟩
   rw [nth_map _ (by omega),r1.len]
   omega) n (Nat.le_refl _)
  have h2:=bulk_take zs n
  omega
theorem list5 {α:Type} {l:List α} (h:l.length=5):∃ a b c d e,l=[a,b,c,d,e]:=by
 match l,h with
 | [a,b,c,d,e],_=>exact ⟨a,b,c,d,e,rfl⟩
theorem open_net {W:World} {cs:List Value} {fuel:Nat} {y:DataW H × List MemPlace} (hl:cs.length=5) (hf:DataW.trod enc Tryz.prog W 0 (fun _=>true) true fuel 27 cs=some y) (hw:Wt Tryz.prog 27 y.1) (hk:Rows.uptoBulk y.1≤1048576) :
 ∃ (N:NetV) (A1 A2 A3 A4:Option Addr) (c1 c2 c3 c4:Nat),cs=netC N A1 A2 A3 A4 c1 c2 c3 c4∧NetAt W N A1 A2 A3 A4 c1 c2 c3 c4∧NetB N∧totL (fun i=>(nth N.tables i).length) N.tables.length≤1000000000:=by
 obtain ⟨v0,v1,v2,v3,v4,rfl⟩:=list5 hl
 obtain ⟨xs,n,_,rfl,_,hlen,hfs⟩:=DataW.trod_struct Tryz.underlying27 hf
 obtain ⟨y0,y1,y2,y3,y4,rfl⟩:=list5 (show xs.length=5 from hlen)
 have hw':=Wt.fields Tryz.underlying27 hw
 have w1:=Wt.each hw' 1 22 _ rfl rfl
 have w2:=Wt.each hw' 2 23 _ rfl rfl
 have w3:=Wt.each hw' 3 24 _ rfl rfl
 have w4:=Wt.each hw' 4 25 _ rfl rfl
 have g0:DataW.trod enc Tryz.prog W 0 (fun _=>true) true n 9 [v0]=some y0:=by
  have h:DataW.trod enc Tryz.prog W 0 (fun _=>true) true n 9 (([v0,v1,v2,v3,v4].drop 0).take (Tryz.prog.cellsOf 9))=some y0:=hfs 0 _ rfl
  rw [show Tryz.prog.cellsOf 9=1 from by kernel_rfl] at h;exact h
 have g1:DataW.trod enc Tryz.prog W 0 (fun _=>true) true n 22 [v1]=some y1:=by
  have h:DataW.trod enc Tryz.prog W 0 (fun _=>true) true n 22 (([v0,v1,v2,v3,v4].drop 1).take (Tryz.prog.cellsOf 22))=some y1:=hfs 1 _ rfl
  rw [show Tryz.prog.cellsOf 22=1 from by kernel_rfl] at h;exact h
 have g2:DataW.trod enc Tryz.prog W 0 (fun _=>true) true n 23 [v2]=some y2:=by
  have h:DataW.trod enc Tryz.prog W 0 (fun _=>true) true n 23 (([v0,v1,v2,v3,v4].drop 2).take (Tryz.prog.cellsOf 23))=some y2:=hfs 2 _ rfl
  rw [show Tryz.prog.cellsOf 23=1 from by kernel_rfl] at h;exact h
 have g3:DataW.trod enc Tryz.prog W 0 (fun _=>true) true n 24 [v3]=some y3:=by
  have h:DataW.trod enc Tryz.prog W 0 (fun _=>true) true n 24 (([v0,v1,v2,v3,v4].drop 3).take (Tryz.prog.cellsOf 24))=some y3:=hfs 3 _ rfl
  rw [show Tryz.prog.cellsOf 24=1 from by kernel_rfl] at h;exact h
 have g4:DataW.trod enc Tryz.prog W 0 (fun _=>true) true n 25 [v4]=some y4:=by
  have h:DataW.trod enc Tryz.prog W 0 (fun _=>true) true n 25 (([v0,v1,v2,v3,v4].drop 4).take (Tryz.prog.cellsOf 25))=some y4:=hfs 4 _ rfl
  rw [show Tryz.prog.cellsOf 25=1 from by kernel_rfl] at h;exact h
 clear hfs hf hw hw'
 simp only [List.map_cons,List.map_nil,Rows.uptoBulk,Rows.uptoBulkAll] at hk
 obtain ⟨nm,rfl,_⟩:=cell_string (W:=W) Tryz.underlying9 n v0 y0 g0
 obtain ⟨A1,n1,c1,l1,rfl,a1,a2,a3,a4⟩:=open_list Value.string (fun _=>rfl) (fun s=>s.size≤maxLen) Tryz.underlying22 (by kernel_rfl) (of_decide_eq_true (by kernel_rfl)) (fun n c z h=>cell_string Tryz.underlying9 n c z h) g1 w1
 obtain ⟨A2,n2,c2,l2,rfl,b1,b2,b3,b4⟩:=open_lists Value.string (fun _=>rfl) (fun s=>s.size≤maxLen) Tryz.underlying23 (by kernel_rfl) (of_decide_eq_true (by kernel_rfl)) Tryz.underlying22 (by kernel_rfl) (of_decide_eq_true (by kernel_rfl)) (fun n c z h=>cell_string Tryz.underlying9 n c z h) g2 w2
 obtain ⟨A3,n3,c3,l3,rfl,d1,d2,d3,d4⟩:=open_lists (Value.int .i64) (fun _=>rfl) (fun _=>True) Tryz.underlying24 (by kernel_rfl) (of_decide_eq_true (by kernel_rfl)) Tryz.underlying53 (by kernel_rfl) (of_decide_eq_true (by kernel_rfl)) (fun n c z h=>by
  obtain ⟨x,hx,_⟩:=cell_int (W:=W) Tryz.underlying3 n c z h
  exact ⟨x,hx,trivial⟩) g3 w3
 obtain ⟨A4,n4,c4,l4,rfl,e1,e2,e3,e4,e5⟩:=open_tables g4 w4
 have k1:=a1.len
 have k2:=b1.len
 have k3:=d1.len
 have k4:=e1.len
 subst k1 k2 k3 k4
 refine ⟨⟨nm,l1,l2,l3,l4⟩,A1,A2,A3,A4,c1,c2,c3,c4,rfl,⟨a1,b1,d1,e1,a2,b2,d2,e2⟩,⟨?_,a4,?_,fun l hl=>⟨?_,(b4 l hl).2⟩,?_,fun l hl=>?_,?_,fun l hl=>⟨?_,?_⟩⟩,?_⟩
 ·show l1.length≤_;omega
 ·show l2.length≤_;omega
 ·have:=(b4 l hl).1;omega
 ·show l3.length≤_;omega
 ·have:=(d4 l hl).1;omega
 ·show l4.length≤_;omega
 ·have:=(e4 l hl).1;omega
 ·have:=(e4 l hl).2;omega
 ·show totL (fun i=>(nth l4 i).length) l4.length≤_;omega
end
end Go.Proofs.YtmncjibcoffmfaaGreat
