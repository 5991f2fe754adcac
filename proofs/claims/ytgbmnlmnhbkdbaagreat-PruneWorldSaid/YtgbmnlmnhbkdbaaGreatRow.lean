/- From a contract 'the call returns true and changes nothing that was there' to the row's own closing condition; arguments that are slices, opened. Conditions: none beyond the row's own reach. -/
import Derived.Test.YtgbmnlmnhbkdbaaGreatBase
import Derived.Test.YtgbmnlmnhbkdbaaGreatRows
import Derived.ProofKit
import Derived.SizedLaws
import Derived.OpenShut
set_option linter.unusedVariables false
set_option linter.unusedSimpArgs false
namespace Go.Proofs.YtgbmnlmnhbkdbaaGreat
open Go.ChangeShapes Go.WideShapes Go.ChangeAt Go.RowKit

theorem own:ownKnob Tryz.prog.godebug=none:=by kernel_rfl
theorem laidOut:laidOutB Tryz.prog=true:=by kernel_rfl

section
variable {H:Type} {enc:TypeId × Value→H} {P:Program}
theorem trodAll_below (hl:laidOutB P=true) {W W':World} (hb:Below W.heap.size W W'):∀ {ts:List TypeId} {vs:List Value} {ds:List (DataW H)} {ps:List MemPlace},
 (∀ t,t ∈ ts→P.readableRec t=true∧t < P.types.size)→DataW.TrodAll enc P W 0 (fun _=>true) true ts vs ds ps→(∀ x ∈ ps,x.block < W.heap.size) →
 DataW.TrodAll enc P W' 0 (fun b=>decide (b < W.heap.size)) true ts vs ds ps
 | [],vs,ds,ps,_,h,_=>by
   obtain ⟨rfl,rfl,rfl⟩:=trodAll_nil h
   exact trodAll_mk0
 | t :: ts,vs,ds,ps,hr,h,hlt=>by
   obtain ⟨v,vs',d,ds',p,q,rfl,rfl,rfl,h0,h1⟩:=trodAll_cons h
   obtain ⟨r1,r2⟩:=hr t (by simp)
   exact trodAll_cons_mk (Below.trod hl r1 r2 h0 hb (fun x hx=>hlt x (List.mem_append_left _ hx))) (trodAll_below hl hb (fun t' ht=>hr t' (by simp [ht])) h1 (fun x hx=>hlt x (List.mem_append_right _ hx)))

theorem post_true {f:Func} {s:ChangeSpec} {W W':World} {args:Array Value} {ds:List (DataW H)} {before:List MemPlace} {tb:TypeId}
 (hl:laidOutB P=true) (hW:DataW.Whole enc P f.params.toList s.vars false W args.toList ds [] before) (hvars:s.vars=[]) (hres:f.resultTypes=#[tb]) (htb:P.underlying tb=some .bool)
 (hr:∀ t,t ∈ f.params.toList→P.readableRec t=true∧t < P.types.size)
 (h1:(s.fn H (ds ++ [])).results=[.lit (.bool true)]) (h2:(s.fn H (ds ++ [])).args=ds) (h3:(s.fn H (ds ++ [])).vars=[]) (hb:Below W.heap.size W W') :
 s.post enc P f false true false false W args (.bool true) W':=by
 have hW':=hW
 obtain ⟨p,q,hA,hV,hbef,_,_⟩:=hW
 have hlt:=hW'.lt
 refine ⟨ds,[],before,[],p,[],hW',?_,?_,?_,hb.frame _,fun h=>by cases h⟩
 ·rw [h1,hres]
  exact trodAll_mk1 (shut_bool htb true)
 ·rw [h2]
  refine trodAll_below hl hb hr hA fun x hx=>?_
  rw [hbef] at hlt
  exact hlt x (List.mem_append_left _ hx)
 ·rw [h3,hvars]
  rfl

theorem slice_ints {T e:TypeId} {W:World} {base:Nat} {v:Value} {d:DataW H} {p:List MemPlace} (ht:P.underlying T=some (.slice e)) (he:P.underlying e=some (.int .i64)) (hc:P.cellsOf e=1) (hby:P.bytesOf e=8)
 (hok:Value.okWide P W .any base T v) (h:DataW.Trod enc P W 0 (fun _=>true) true T v d p) {ts:List TypeId} {ds:List (DataW H)} (hsz:(DataW.weightsEach P ts ds).all (·≤reachBytes)=true) {j:Nat}
 (hj:ts[j]?=some T) (hd:ds[j]?=some d):∃ A n c xs,v=.slice A n c∧Sl (Value.int .i64) W A n xs∧n * 8≤140737488351232∧n≤c∧∀ x ∈ xs,(Lit.int .i64 x).wf=true:=by
 obtain ⟨a0,len,cap,rfl⟩:=okWide_slice ht hok
 obtain ⟨fuel,hf⟩:=h
 rcases open_ints ht he hc hf with ⟨hcs,hx⟩ | ⟨a,len',cap',zs,hcs,_,hl,hm,hz,hx,hcell,hwz⟩
 ·simp [Value.cells] at hcs
  obtain ⟨rfl,rfl,rfl⟩:=hcs
  exact ⟨none,0,0,[],rfl,Sl.nil _ _ _,by omega,Nat.le_refl _,by simp⟩
 ·simp [Value.cells] at hcs
  obtain ⟨rfl,rfl,rfl⟩:=hcs
  simp only [Prod.mk.injEq] at hx
  obtain ⟨rfl,rfl⟩:=hx
  simp only [if_true] at hz
  have hreach:len * 8≤140737488351232:=by
   have:=sized_slice hsz hj hd ht
   rw [hby] at this
   simp only [lits,List.length_map,List.length_take,List.length_drop,reachBytes] at this
   omega
  refine ⟨some a,len,cap,zs.take len,rfl,⟨by simp;omega,by omega,fun hn=>?_⟩,hreach,hl,fun x hx=>hwz x (List.mem_of_mem_take hx)⟩
  obtain ⟨b,off,spot⟩:=a
  have hspot:spot=none:=by simpa [Addr.add] using World.cell?_spot (hcell 0 (by omega))
  subst hspot
  have hb:b < W.heap.size:=by simpa [Addr.add] using World.block_lt_of_cell? _ _ (hcell 0 (by omega))
  refine ⟨b,off,rfl,hb,fun i hi=>?_⟩
  have h1:=hcell i (by omega)
  rw [show (⟨b,off,none⟩:Addr).add i=⟨b,off + i,none⟩ from Addr.add_lit _ _ _] at h1
  rw [h1,nth_take hi]
  rfl
end
end Go.Proofs.YtgbmnlmnhbkdbaaGreat
