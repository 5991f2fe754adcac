/- Arguments opened: ints, slices of ints, strings, structs of slices, as the walks' contracts ask. Conditions: the row's own reach. -/
import Derived.Test.YtgbmnlmnhbkdbaaGreatRow
import Derived.Lib.SmallJoins
set_option linter.unusedVariables false
set_option linter.unusedSimpArgs false
namespace Go.Proofs.YtgbmnlmnhbkdbaaGreat
open Go.ChangeShapes Go.WideShapes Go.ChangeAt Go.RowKit Go.Joins
section
variable {H:Type} {enc:TypeId × Value→H} {P:Program}
def Wt (P:Program) (t:TypeId) (d:DataW H):Prop:=(d.weights P t).all (·≤reachBytes)=true
theorem Wt.each:∀ {ts:List TypeId} {ds:List (DataW H)},(DataW.weightsEach P ts ds).all (·≤reachBytes)=true→∀ (j:Nat) (t:TypeId) (d:DataW H),ts[j]?=some t→ds[j]?=some d→Wt P t d
 | [],_,_,_,_,_,h,_=>by cases h
 | _ :: _,[],_,_,_,_,_,h=>by cases h
 | t :: ts,d :: ds,h,j,t',d',ht,hd=>by
   have h':(d.weights P t ++ DataW.weightsEach P ts ds).all (·≤reachBytes)=true:=h
   rw [List.all_append,Bool.and_eq_true] at h'
   rcases j with _ | j
   ·simp at ht hd;subst ht hd;exact h'.1
   ·exact Wt.each h'.2 j t' d' (by simpa using ht) (by simpa using hd)
theorem Wt.fields {t:TypeId} {fs:Array Field} {parts:List (DataW H)} (ht:P.underlying t=some (.struct fs)) (h:Wt P t (.agg parts)):(DataW.weightsEach P (fs.toList.map (·.type)) parts).all (·≤reachBytes)=true:=by
 unfold Wt at h
 simpa [DataW.weights,ht] using h
theorem Wt.all {e:TypeId}:∀ {ds:List (DataW H)},(DataW.weightsAll P e ds).all (·≤reachBytes)=true→∀ d ∈ ds,Wt P e d
 | [],_,_,h=>by cases h
 | d :: ds,h,d',hd=>by
   have h':(d.weights P e ++ DataW.weightsAll P e ds).all (·≤reachBytes)=true:=h
   rw [List.all_append,Bool.and_eq_true] at h'
   rcases List.mem_cons.1 hd with rfl | hd
   ·exact h'.1
   ·exact Wt.all h'.2 d' hd
theorem Wt.slice {t e:TypeId} {es rs:List (DataW H)} (ht:P.underlying t=some (.slice e)) (h:Wt P t (.slice es rs)):(es.length + rs.length) * P.bytesOf e≤reachBytes∧∀ d ∈ es,Wt P e d:=by
 unfold Wt at h
 have h':((es.length + rs.length) * P.bytesOf e :: (DataW.weightsAll P e es ++ DataW.weightsAll P e rs)).all (·≤reachBytes)=true:=by simpa [DataW.weights,ht] using h
 rw [List.all_cons,List.all_append,Bool.and_eq_true,Bool.and_eq_true] at h'
 exact ⟨by simpa using h'.1,Wt.all h'.2.1⟩
theorem list_of {α:Type} [Inhabited α] (Q:Nat→α→Prop):∀ n:Nat,(∀ i,i < n→∃ x,Q i x)→∃ xs:List α,xs.length=n∧∀ i,i < n→Q i (nth xs i)
 | 0,_=>⟨[],rfl,fun i hi=>by omega⟩
 | n + 1,h=>by
   obtain ⟨xs,hl,hx⟩:=list_of Q n (fun i hi=>h i (by omega))
   obtain ⟨x,hq⟩:=h n (by omega)
   refine ⟨xs ++ [x],by simp [hl],fun i hi=>?_⟩
   by_cases hin:i < n
   ·rw [nth_append_left (by omega)];exact hx i hin
   ·obtain rfl:i=n:=by omega
    rw [nth_append_right (by omega),hl,Nat.sub_self];exact hq
theorem cell_slice {α:Type} [Inhabited α] (enc':α→Value) (Good:α→Prop) {T e:TypeId} {W:World} {v:Value} {fuel:Nat} {y:DataW H × List MemPlace} (ht:P.underlying T=some (.slice e)) (hc:P.cellsOf e=1) (hby:0 < P.bytesOf e)
 (hel:∀ (n:Nat) (c:Value) (z:DataW H × List MemPlace),DataW.trod enc P W 0 (fun _=>true) true n e [c]=some z→Wt P e z.1→∃ x,c=enc' x∧Good x)
 (hf:DataW.trod enc P W 0 (fun _=>true) true fuel T [v]=some y) (hw:Wt P T y.1) :
 ∃ A n c xs,v=.slice A n c∧Sl enc' W A n xs∧n * P.bytesOf e≤140737488351232∧n≤c∧∀ x ∈ xs,Good x:=by
 rcases DataW.trod_slice ht hf with ⟨hcs,hx⟩ | ⟨a,len,cap,elems,rest,n,rfl,hcs,hx,hb,hl,hm,hlen,hget,hsp,hns⟩
 ·simp at hcs
  subst hcs
  exact ⟨none,0,0,[],rfl,Sl.nil _ _ _,by omega,Nat.le_refl _,by simp⟩
 ·simp at hcs
  subst hcs
  rw [hx] at hw
  obtain ⟨hr,hall⟩:=Wt.slice ht hw
  simp only [List.length_map,reachBytes] at hr
  have hreach:len * P.bytesOf e≤140737488351232:=Nat.le_trans (Nat.mul_le_mul_right _ (by omega)) hr
  have hbig:len≤140737488351232:=Nat.le_trans (Nat.le_mul_of_pos_right _ hby) hreach
  have each:∀ i,i < len→∃ x,W.cell? (a.add i)=some (enc' x)∧Good x:=by
   intro i hi
   have h1:=hget i hi
   rw [List.getElem?_eq_getElem (by omega),hc,Nat.mul_one,Option.bind_eq_some_iff] at h1
   obtain ⟨cs',hcs,hy'⟩:=h1
   have hl1:cs'.length=1:=(World.cells?_some hcs).2.1
   obtain ⟨c0,rfl⟩:∃ c0,cs'=[c0]:=List.length_eq_one_iff.1 hl1
   obtain ⟨x,rfl,hg⟩:=hel n c0 _ hy' (hall _ (List.mem_map.2 ⟨_,List.getElem_mem (by omega),rfl⟩))
   exact ⟨x,cell_of_cells?_one hcs,hg⟩
  obtain ⟨xs,hxl,hxs⟩:=list_of (fun i x=>W.cell? (a.add i)=some (enc' x)∧Good x) len each
  refine ⟨some a,len,cap,xs,rfl,⟨hxl,hbig,fun hn=>?_⟩,hreach,hl,fun x hx=>?_⟩
  ·obtain ⟨b,off,spot⟩:=a
   have h0:=(hxs 0 (by omega)).1
   have hspot:spot=none:=by simpa [Addr.add] using World.cell?_spot h0
   subst hspot
   have hb:b < W.heap.size:=by simpa [Addr.add] using World.block_lt_of_cell? _ _ h0
   refine ⟨b,off,rfl,hb,fun i hi=>?_⟩
   have h1:=(hxs i hi).1
   rwa [show (⟨b,off,none⟩:Addr).add i=⟨b,off + i,none⟩ from Addr.add_lit _ _ _] at h1
  ·obtain ⟨j,hj,rfl⟩:=mem_nth hx
   exact (hxs j (by omega)).2
theorem cell_int {e:TypeId} {k:IntKind} {W:World} (he:P.underlying e=some (.int k)) (n:Nat) (c:Value) (z:DataW H × List MemPlace) (h:DataW.trod enc P W 0 (fun _=>true) true n e [c]=some z):∃ x,c=.int k x∧(Lit.int k x).wf=true:=by
 obtain ⟨m,hm,_,hw⟩:=DataW.trod_int he h
 simp at hm
 exact ⟨m,hm,hw⟩
theorem cell_ints {T e:TypeId} {W:World} {v:Value} {fuel:Nat} {y:DataW H × List MemPlace} (ht:P.underlying T=some (.slice e)) (he:P.underlying e=some (.int .i64)) (hc:P.cellsOf e=1) (hby:P.bytesOf e=8)
 (hf:DataW.trod enc P W 0 (fun _=>true) true fuel T [v]=some y) (hw:Wt P T y.1) :
 ∃ A n c xs,v=.slice A n c∧Sl (Value.int .i64) W A n xs∧n * 8≤140737488351232∧n≤c∧∀ x ∈ xs,(Lit.int .i64 x).wf=true:=by
 rcases open_ints ht he hc hf with ⟨hcs,hx⟩ | ⟨a,len,cap,zs,hcs,_,hl,hm,hz,hx,hcell,hwz⟩
 ·simp at hcs
  subst hcs
  exact ⟨none,0,0,[],rfl,Sl.nil _ _ _,by omega,Nat.le_refl _,by simp⟩
 ·simp at hcs
  subst hcs
  simp only [if_true] at hz
  have hreach:len * 8≤140737488351232:=by
   subst hx
   have:=List.all_eq_true.1 hw (((lits .i64 (zs.take len):List (DataW H)).length + (lits .i64 (zs.drop len):List (DataW H)).length) * P.bytesOf e) (by simp [DataW.weights,ht])
   rw [hby] at this
   simp only [lits,List.length_map,List.length_take,List.length_drop,reachBytes,decide_eq_true_eq] at this
   omega
  refine ⟨some a,len,cap,zs.take len,rfl,⟨by simp;omega,by omega,fun hn=>?_⟩,hreach,hl,fun x hx=>hwz x (List.mem_of_mem_take hx)⟩
  obtain ⟨b,off,spot⟩:=a
  have hspot:spot=none:=by simpa [Addr.add] using World.cell?_spot (hcell 0 (by omega))
  subst hspot
  have hb:b < W.heap.size:=by simpa [Addr.add] using World.block_lt_of_cell? _ _ (hcell 0 (by omega))
  refine ⟨b,off,rfl,hb,fun i hi=>?_⟩
  have h1:=hcell i (by omega)
  rw [show (⟨b,off,none⟩:Addr).add i=⟨b,off + i,none⟩ from Addr.add_lit _ _ _] at h1
  rw [h1,nth_take hi]
  rfl
end
end Go.Proofs.YtgbmnlmnhbkdbaaGreat
