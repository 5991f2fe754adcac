/- Arguments opened: ints, slices of ints, strings, structs of slices, as the walks' contracts ask. Conditions: the row's own reach. -/
import Derived.Test.YtmncjibcoffmfaaGreatRow
import Derived.Lib.SmallJoins
set_option linter.unusedVariables false
set_option linter.unusedSimpArgs false
namespace Go.Proofs.YtmncjibcoffmfaaGreat
open Go.ChangeShapes Go.WideShapes Go.ChangeAt Go.RowKit Go.Joins
section
variable {H:Type} {enc:TypeId × Value→H} {P:Program}
def Wt (P:Program) (t:TypeId) (d:DataW H):Prop:=(d.weights P t).all (·≤reachBytes)=true
theorem Wt.each:∀ {ts:List TypeId} {ds:List (DataW H)},(DataW.weightsEach P ts ds).all (·≤reachBytes)=true→∀ (j:Nat) (t:TypeId) (d:DataW H),ts[j]?=some t→ds[j]?=some d→Wt P t d
 | [],_,_,_,_,_,h,_=>by cases h
 | _ :: _,[],_,_,_,_,_,h=>by cases h
 | t :: ts,d :: ds,h,j,t',d',ht,hd=>by
   have h':(d.weights P t ++ DataW.weightsEach P ts ds).all (·≤reachBytes)=true:=h
   rw [List.all_append,Bool.and_eq_true] at h'
   rcases j with _ | j
   ·simp at ht hd;subst ht hd;exact h'.1
   ·exact Wt.each h'.2 j t' d' (by simpa using ht) (by simpa using hd)
theorem Wt.fields {t:TypeId} {fs:Array Field} {parts:List (DataW H)} (ht:P.underlying t=some (.struct fs)) (h:Wt P t (.agg parts)):(DataW.weightsEach P (fs.toList.map (·.type)) parts).all (·≤reachBytes)=true:=by
 unfold Wt at h
 simpa [DataW.weights,ht] using h
theorem Wt.all {e:TypeId}:∀ {ds:List (DataW H)},(DataW.weightsAll P e ds).all (·≤reachBytes)=true→∀ d ∈ ds,Wt P e d
 | [],_,_,h=>by cases h
 | d :: ds,h,d',hd=>by
   have h':(d.weights P e ++ DataW.weightsAll P e ds).all (·≤reachBytes)=true:=h
   rw [List.all_append,Bool.and_eq_true] at h'
   rcases List.mem_cons.1 hd with rfl | hd
   ·exact h'.1
   ·exact Wt.all h'.2 d' hd
theorem Wt.slice {t e:TypeId} {es rs:List (DataW H)} (ht:P.underlying t=some (.slice e)) (h:Wt P t (.slice es rs)):(es.length + rs.length) * P.bytesOf e≤reachBytes∧∀ d ∈ es,Wt P e d:=by
 unfold Wt at h
 have h':((es.length + rs.length) * P.bytesOf e :: (DataW.weightsAll P e es ++ DataW.weightsAll P e rs)).all (·≤reachBytes)=true:=by simpa [DataW.weights,ht] using h
 rw [List.all_cons,List.all_append,Bool.and_eq_true,Bool.and_eq_true] at h'
 exact ⟨by simpa using h'.1,Wt.all h'.2.1⟩
theorem list_of {α:Type} [Inhabited α] (Q:Nat→α→Prop):∀ n:Nat,(∀ i,i < n→∃ x,Q i x)→∃ xs:List α,xs.length=n∧∀ i,i < n→Q i (nth xs i)
 | 0,_=>⟨[],rfl,fun i hi=>by omega⟩
 | n + 1,h=>by
   obtain ⟨xs,hl,hx⟩:=list_of Q n (fun i hi=>h i (by omega))
   obtain ⟨x,hq⟩:=h n (by omega)
   refine ⟨xs ++ [x],by simp [hl],fun i hi=>?_⟩
   by_cases hin:i < n
   ·rw [nth_append_left (by omega)];exact hx i hin
   ·obtain rfl:i=n:=by omega
    rw [nth_append_right (by omega),hl,Nat.sub_self];exact hq
theorem cell_int {e:TypeId} {k:IntKind} {W:World} (he:P.underlying e=some (.int k)) (n:Nat) (c:Value) (z:DataW H × List MemPlace) (h:DataW.trod enc P W 0 (fun _=>true) true n e [c]=some z):∃ x,c=.int k x∧(Lit.int k x).wf=true:=by
 obtain ⟨m,hm,_,hw⟩:=DataW.trod_int he h
 simp at hm
 exact ⟨m,hm,hw⟩
theorem cell_string {e:TypeId} {W:World} (he:P.underlying e=some .string) (n:Nat) (c:Value) (z:DataW H × List MemPlace) (h:DataW.trod enc P W 0 (fun _=>true) true n e [c]=some z):∃ x,c=.string x∧x.size≤maxLen:=by
 obtain ⟨m,hm,_,hw⟩:=DataW.trod_string he h
 simp at hm
 exact ⟨m,hm,hw⟩
end
end Go.Proofs.YtmncjibcoffmfaaGreat
