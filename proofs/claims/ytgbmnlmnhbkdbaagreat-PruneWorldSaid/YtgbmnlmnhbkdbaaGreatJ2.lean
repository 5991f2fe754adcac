/- Joined by program out of: Map, Last. What each says stands at its own head. -/
import Derived.Test.YtgbmnlmnhbkdbaaGreatJ1
import Derived.Maps.Own
import Derived.Maps.OwnOps
import Derived.Maps.OwnSet
import Derived.Maps.Views
import Derived.Deep.RegionHeld3
set_option linter.unusedVariables false
set_option linter.unusedSimpArgs false
/- A map with integer elements, read as a function of its keys: look-ups and stores at the operation. No condition. -/
namespace Go.Proofs.YtgbmnlmnhbkdbaaGreat
open Go.RowKit Go.Maps

theorem run_makeMap_some {P:Program} {t k e:TypeId} (ht:P.underlying t=some (.map k e)) (n:Int) (w:World):(Instr.makeMap t (some (.int .i64 n))).run P w=.ok (.map (some w.heap.size)) (w.alloc (.map #[] 0)):=by
 simp [Instr.makeMap,run_underlying ht,asInt]
 rfl
def MapF (P:Program) (k e:TypeId) (w:World) (b n:Nat) (f:Lit→Option Int):Prop:=
 ∃ D:DataW Unit,w.ownsMap P k (plainElem P e) b n D∧∀ kl,Maps.has D kl=(f kl).isSome∧D.atKey kl (.lit (.int .i64 0))=.lit (.int .i64 ((f kl).getD 0))
open Classical in
noncomputable def putF (f:Lit→Option Int) (kl:Lit) (v:Int):Lit→Option Int:=fun x=>if x=kl then some v else f x

section
variable {P:Program} {k e:TypeId} {w w':World} {b n:Nat} {f:Lit→Option Int}
theorem MapF.made (w:World) (P:Program) (k e:TypeId):MapF P k e (w.alloc (.map #[] 0)) w.heap.size 0 (fun _=>none):=⟨.map [],World.ownsMap_made _ _ _ _,fun _=>⟨rfl,rfl⟩⟩
theorem MapF.lt (h:MapF P k e w b n f):b < w.heap.size:=by obtain ⟨D,h,_⟩:=h;exact h.lt
theorem MapF.mono (h:MapF P k e w b n f) {m:Nat} (hn:n≤m):MapF P k e w b m f:=by obtain ⟨D,h,q⟩:=h;exact ⟨D,h.mono hn,q⟩
theorem MapF.grown {row:Option Nat} (h:MapF P k e w b n f) (hg:w.grownBy w' row) (hne:some b ≠ row):MapF P k e w' b n f:=by obtain ⟨D,h,q⟩:=h;exact ⟨D,h.kept hg hne,q⟩
theorem MapF.below (h:MapF P k e w b n f) (hb:Below w.heap.size w w'):MapF P k e w' b n f:=h.grown (below_grown hb none) (by simp)
theorem MapF.alloc (h:MapF P k e w b n f) (o:Obj):MapF P k e (w.alloc o) b n f:=h.grown (World.grownBy_alloc w o none) (by simp)
theorem MapF.setCell (h:MapF P k e w b n f) {a:Addr} (ha:b ≠ a.block) (u:Value):MapF P k e (w.setCell a u) b n f:=by obtain ⟨D,h,q⟩:=h;exact ⟨D,h.setCell ha u,q⟩
instance:Stable (fun w=>MapF P k e w b n f):=⟨fun hb h=>h.below hb⟩
theorem MapF.congr (h:MapF P k e w b n f) {g:Lit→Option Int} (hg:∀ x,f x=g x):MapF P k e w b n g:=by
 obtain ⟨D,h,q⟩:=h;exact ⟨D,h,fun kl=>by rw [← hg];exact q kl⟩
end

section
variable {P:Program} (w:World) {ops:Array Oper} {rest:List Oper} {o:Oper} {a:Act} {Q:Exit→Act→World→Prop}
theorem wpList_look_F (hg:o.guard=none) (m x:Operand) (t:TypeId) (hop:o.op=Op.lookup t m x false)
 (k e:TypeId) (K:Keyed P k) (ht:P.underlying t=some (.map k e)) (he:P.underlying e=some (.int .i64)) (hz:(zeroValue e).run P w=.ok (.int .i64 0) w) (b n:Nat) (f:Lit→Option Int)
 (hm:a.eval m=.map (some b)) (hown:MapF P k e w b n f) (key:Value) (kl:Lit) (hx:a.eval x=key) (hkey:keyOf P k key=some kl)
 (hK:wpList P ops Q rest (a.put o.dst (.int .i64 ((f kl).getD 0))) w):wpList P ops Q (o :: rest) a w:=by
 obtain ⟨D,hD,q⟩:=hown
 refine wpList_lookup_own_int w hg m x t hop k e .i64 K ht he hz b n D hm hD key kl hx hkey fun c hat _=>?_
 rw [(q kl).2] at hat
 injection hat with h1;injection h1 with _ h2
 rw [← h2];exact hK
theorem wpList_store_F (hg:o.guard=none) (m x v:Operand) (t:TypeId) (hop:o.op=Op.mapUpdate t m x v)
 (k e:TypeId) (K:Keyed P k) (ht:P.underlying t=some (.map k e)) (he:P.underlying e=some (.int .i64)) (b n:Nat) (f:Lit→Option Int)
 (hm:a.eval m=.map (some b)) (hown:MapF P k e w b n f) (hn:n < maxLen) (key:Value) (kl:Lit) (hx:a.eval x=key) (c:Int) (hv:a.eval v=.int .i64 c) (hkey:keyOf P k key=some kl) (hwf:(Lit.int .i64 c).wf=true)
 (hK:∀ w',MapF P k e w' b (n + 1) (putF f kl c)→w.grownBy w' (some b)→wpList P ops Q rest (a.put o.dst undef) w'):wpList P ops Q (o :: rest) a w:=by
 obtain ⟨D,hD,q⟩:=hown
 refine wpList_mapUpdate_own w hg m x v t hop k e K ht (plainElem P e) b n D hm hD hn key _ kl hx hv hkey _ [] (plainElem_int he hwf) fun w' h1 h2=>hK w' ⟨_,h1,fun y=>?_⟩ h2
 unfold putF
 by_cases hy:y=kl
 ·subst hy
  rw [if_pos rfl,has_put_same hD.isMap (K.key hkey),atKey_put_same hD.isMap (K.key hkey)]
  exact ⟨rfl,rfl⟩
 ·rw [if_neg hy,has_put_other hy,atKey_put_other hy]
  exact q y
end

def liftI (g:Int→Option Int):Lit→Option Int
 | .int .i64 x=>g x
 | _=>none
def putI (g:Int→Option Int) (x v:Int):Int→Option Int:=fun y=>if y=x then some v else g y
theorem putF_lift (g:Int→Option Int) (x v:Int) (y:Lit):putF (liftI g) (.int .i64 x) v y=liftI (putI g x v) y:=by
 unfold putF
 by_cases h:y=.int .i64 x
 ·subst h;rw [if_pos rfl];show some v=putI g x v x;unfold putI;rw [if_pos rfl]
 ·rw [if_neg h]
  unfold liftI
  split
  ·rename_i z
   unfold putI
   rw [if_neg (fun e=>h (by rw [e]))]
  ·rfl
def MapI (P:Program) (k e:TypeId) (w:World) (b n:Nat) (g:Int→Option Int):Prop:=MapF P k e w b n (liftI g)
section
variable {P:Program} {k e:TypeId} {w w':World} {b n:Nat} {g:Int→Option Int}
theorem MapI.made (w:World) (P:Program) (k e:TypeId):MapI P k e (w.alloc (.map #[] 0)) w.heap.size 0 (fun _=>none):=(MapF.made w P k e).congr fun x=>by unfold liftI;split <;> rfl
theorem MapI.lt (h:MapI P k e w b n g):b < w.heap.size:=MapF.lt h
theorem MapI.mono (h:MapI P k e w b n g) {m:Nat} (hn:n≤m):MapI P k e w b m g:=MapF.mono h hn
theorem MapI.grown {row:Option Nat} (h:MapI P k e w b n g) (hg:w.grownBy w' row) (hne:some b ≠ row):MapI P k e w' b n g:=MapF.grown h hg hne
theorem MapI.below (h:MapI P k e w b n g) (hb:Below w.heap.size w w'):MapI P k e w' b n g:=MapF.below h hb
theorem MapI.alloc (h:MapI P k e w b n g) (o:Obj):MapI P k e (w.alloc o) b n g:=MapF.alloc h o
theorem MapI.setCell (h:MapI P k e w b n g) {a:Addr} (ha:b ≠ a.block) (u:Value):MapI P k e (w.setCell a u) b n g:=MapF.setCell h ha u
theorem MapI.congr (h:MapI P k e w b n g) {f:Int→Option Int} (hg:∀ x,g x=f x):MapI P k e w b n f:=MapF.congr h fun x=>by unfold liftI;split <;> simp [hg]
instance:Stable (fun w=>MapI P k e w b n g):=⟨fun hb h=>MapI.below h hb⟩
end
section
variable {P:Program} (w:World) {ops:Array Oper} {rest:List Oper} {o:Oper} {a:Act} {Q:Exit→Act→World→Prop}
theorem wpList_look_I (hg:o.guard=none) (m x:Operand) (t:TypeId) (hop:o.op=Op.lookup t m x false)
 (k e:TypeId) (hk:P.underlying k=some (.int .i64)) (ht:P.underlying t=some (.map k e)) (he:P.underlying e=some (.int .i64)) (hz:(zeroValue e).run P w=.ok (.int .i64 0) w) (b n:Nat) (g:Int→Option Int)
 (hm:a.eval m=.map (some b)) (hown:MapI P k e w b n g) (key:Int) (hx:a.eval x=.int .i64 key) (hwf:(Lit.int .i64 key).wf=true)
 (hK:wpList P ops Q rest (a.put o.dst (.int .i64 ((g key).getD 0))) w):wpList P ops Q (o :: rest) a w:=
 wpList_look_F w hg m x t hop k e (int_keyed hk) ht he hz b n _ hm hown _ (.int .i64 key) hx (keyOf_int_mk hk hwf) hK
theorem wpList_store_I (hg:o.guard=none) (m x v:Operand) (t:TypeId) (hop:o.op=Op.mapUpdate t m x v)
 (k e:TypeId) (hk:P.underlying k=some (.int .i64)) (ht:P.underlying t=some (.map k e)) (he:P.underlying e=some (.int .i64)) (b n:Nat) (g:Int→Option Int)
 (hm:a.eval m=.map (some b)) (hown:MapI P k e w b n g) (hn:n < maxLen) (key:Int) (hx:a.eval x=.int .i64 key) (hwf:(Lit.int .i64 key).wf=true) (c:Int) (hv:a.eval v=.int .i64 c) (hwc:(Lit.int .i64 c).wf=true)
 (hK:∀ w',MapI P k e w' b (n + 1) (putI g key c)→w.grownBy w' (some b)→wpList P ops Q rest (a.put o.dst undef) w'):wpList P ops Q (o :: rest) a w:=
 wpList_store_F w hg m x v t hop k e (int_keyed hk) ht he b n _ hm hown hn _ (.int .i64 key) hx c hv (keyOf_int_mk hk hwf) hwc fun w' h1 h2=>hK w' (h1.congr (putF_lift g key c)) h2
end
end Go.Proofs.YtgbmnlmnhbkdbaaGreat
/- A region that draws its order and ends in one operation that waits for all others: that one is walked behind the region. No condition. -/
namespace Go.Proofs.YtgbmnlmnhbkdbaaGreat
open Go.RowKit

def AheadOf (P:Program) (o:Oper) (Q:Exit→Act→World→Prop):Exit→Act→World→Prop
 | .normal,a,w=>o.wp P a w (fun a w=>Q .normal a w) Q
 | e,a,w=>Q e a w
def lastOk (ops:Array Oper) (L:Nat):Bool:=(List.range ops.size).all fun j=>match ops[j]? with
 | none=>true
 | some o=>o.after.all (fun e=>decide (e.on < j) && e.on != L) && (if j=L then (List.range ops.size).all (fun k=>k == L || o.after.any (fun e=>Region.binds .any e && e.on == k)) else true)
section
variable {P:Program} {ops:Array Oper} {Q:Exit→Act→World→Prop} {S:World→Prop} {L:Nat} {o:Oper}
theorem wpOp_ahead {i:Nat} {K:Act→World→Prop} {a:Act} {w:World} (h:wpOp P ops (AheadOf P o Q) i K a w):wpOp P ops Q i K a w:=by
 have hw:∀ {x:Oper} {r:Result Next},x.upon P a K (AheadOf P o Q) r→x.upon P a K Q r:=by
  intro x r hr
  rcases r with ⟨n,w'⟩ | ⟨y,w'⟩
  ·cases n <;> first
    | exact hr
    | (refine Calls.mono hr fun e w2 he=>?_
       cases e <;> exact he)
  ·cases y <;> exact hr
 unfold wpOp at *
 rcases ho:ops[i]? with _ | x
 ·rw [ho] at h;exact h
 ·rw [ho] at h
  simp only at h ⊢
  split at h
  ·rename_i hq
   rw [if_pos hq]
   rcases h with h | h
   ·exact .inl (hw h)
   ·exact .inr ⟨h.1,h.2⟩
  ·rename_i hq
   rw [if_neg hq]
   exact h
theorem ahead_sound (ho:ops[L]?=some o) (hg:o.guard=none) (hok:lastOk ops L=true):∀ (fuel:Nat) (listed:Array Bool) (a:Act) (w:World),listed.size=ops.size→listed.getD L true=false →
 wpAnyH P .any ops (AheadOf P o Q) S fuel (listed.setIfInBounds L true) a w→wpAny P .any ops Q (fuel + 1) listed a w:=by
 have hL:L < ops.size:=(Array.getElem?_eq_some_iff.1 ho).1
 have h1:∀ k,k < ops.size→k ≠ L→∃ e ∈ o.after,Region.binds .any e=true∧e.on=k:=by
  intro k hk hne
  unfold lastOk at hok
  have:=List.all_eq_true.1 hok L (List.mem_range.2 hL)
  rw [ho] at this
  simp only [if_true,Bool.and_eq_true] at this
  have:=List.all_eq_true.1 this.2 k (List.mem_range.2 hk)
  simp only [Bool.or_eq_true,beq_iff_eq,Array.any_eq_true] at this
  rcases this with h | ⟨i,hi,h⟩
  ·exact absurd h hne
  ·simp only [Bool.and_eq_true,beq_iff_eq] at h
   exact ⟨_,Array.getElem_mem hi,h.1,h.2⟩
 have h2:∀ (j:Nat) (x:Oper),ops[j]?=some x→∀ e ∈ x.after,e.on < j∧e.on ≠ L:=by
  intro j x hx e he
  have hj:j < ops.size:=(Array.getElem?_eq_some_iff.1 hx).1
  unfold lastOk at hok
  have:=List.all_eq_true.1 hok j (List.mem_range.2 hj)
  rw [hx] at this
  simp only [Bool.and_eq_true] at this
  have:=Array.all_eq_true_iff_forall_mem.1 this.1 e he
  simpa using this
 have key:∀ (listed:Array Bool),listed.size=ops.size→listed.getD L true=false →
  (L ∈ Region.ready .any ops listed∧Region.ready .any ops (listed.setIfInBounds L true)=[]∧∀ i ∈ Region.ready .any ops listed,i=L) ∨
  ((∃ j,j ∈ Region.ready .any ops listed)∧∀ i ∈ Region.ready .any ops listed,i ≠ L∧i ∈ Region.ready .any ops (listed.setIfInBounds L true)):=by
  intro listed hs hLf
  by_cases hall:∀ j,j < ops.size→j ≠ L→listed.getD j true=true
  ·left
   have hd:∀ j,j < ops.size→j ≠ L→listed.getD j false=true:=fun j hj hne=>by
    have:=hall j hj hne
    have hj':j < listed.size:=by omega
    simpa [Array.getD,hj'] using this
   have hin:∀ i,i ∈ Region.ready .any ops listed→i=L:=fun i hi=>by
    obtain ⟨h0,x,hx,_⟩:=mem_ready.1 hi
    have hi':i < ops.size:=(Array.getElem?_eq_some_iff.1 hx).1
    by_cases hne:i=L
    ·exact hne
    ·rw [hall i hi' hne] at h0;cases h0
   refine ⟨mem_ready.2 ⟨hLf,o,ho,fun e he hb=>?_⟩,?_,hin⟩
   ·obtain ⟨h3,h4⟩:=h2 L o ho e he
    exact hd e.on (by omega) h4
   ·refine List.eq_nil_iff_forall_not_mem.2 fun i hi=>?_
    obtain ⟨h0,x,hx,_⟩:=mem_ready.1 hi
    have hi':i < ops.size:=(Array.getElem?_eq_some_iff.1 hx).1
    by_cases hne:i=L
    ·subst hne
     simp [Array.getD,hs,hi'] at h0
    ·rw [getD_set_ne true (Ne.symm hne),hall i hi' hne] at h0;cases h0
  ·right
   have hex:∃ j,j < ops.size∧j ≠ L∧listed.getD j true=false:=by
    refine Classical.byContradiction fun hno=>hall fun j hj hne=>?_
    rcases hq:listed.getD j true with _ | _
    ·exact absurd ⟨j,hj,hne,hq⟩ hno
    ·rfl
   have hmin:∃ j,(j < ops.size∧j ≠ L∧listed.getD j true=false)∧∀ k,k < j→k ≠ L→listed.getD k true=true:=by
    obtain ⟨j,hj⟩:=hex
    have hrec:∀ n j,j < n→(j < ops.size∧j ≠ L∧listed.getD j true=false)→∃ j,(j < ops.size∧j ≠ L∧listed.getD j true=false)∧∀ k,k < j→k ≠ L→listed.getD k true=true:=by
     intro n
     induction n with
     | zero=>intro j h;omega
     | succ n ihn =>
       intro j hjn hj
       by_cases hk:∀ k,k < j→k ≠ L→listed.getD k true=true
       ·exact ⟨j,hj,hk⟩
       ·obtain ⟨k,hk⟩:=Classical.not_forall.1 hk
        have hkj:k < j:=Classical.byContradiction fun h=>hk fun h'=>absurd h' h
        have hkL:k ≠ L:=Classical.byContradiction fun h=>hk fun _ h'=>absurd h' h
        have hkf:listed.getD k true=false:=by
         rcases hq:listed.getD k true with _ | _
         ·rfl
         ·exact absurd (fun _ _=>hq) hk
        exact ihn k (by omega) ⟨by omega,hkL,hkf⟩
    exact hrec (j + 1) j (Nat.lt_succ_self j) hj
   obtain ⟨j,⟨hj,hjL,hjf⟩,hlow⟩:=hmin
   refine ⟨⟨j,?_⟩,fun i hi=>?_⟩
   ·refine mem_ready.2 ⟨hjf,ops[j],Array.getElem?_eq_getElem hj,fun e he hb=>?_⟩
    obtain ⟨h3,h4⟩:=h2 j _ (Array.getElem?_eq_getElem hj) e he
    have:=hlow e.on h3 h4
    have hj':e.on < listed.size:=by omega
    simpa [Array.getD,hj'] using this
   ·have hne:i ≠ L:=by
     rintro rfl
     obtain ⟨_,x,hx,hedge⟩:=mem_ready.1 hi
     rw [ho] at hx
     injection hx with hx
     subst hx
     obtain ⟨e,he,hb,hon⟩:=h1 j hj hjL
     have:=hedge e he hb
     rw [hon] at this
     have hj':j < listed.size:=by omega
     simp [Array.getD,hj'] at this hjf
     rw [hjf] at this
     cases this
    exact ⟨hne,ready_mono hi hne⟩
 have hdone:∀ (fuel:Nat) (listed:Array Bool) (a:Act) (w:World),Region.ready .any ops listed=[]→Q .normal a w→wpAny P .any ops Q fuel listed a w:=by
  intro fuel listed a w h0 hq
  cases fuel with
  | zero=>exact ⟨h0,hq⟩
  | succ f=>exact ⟨fun _=>hq,fun i hi=>by rw [h0] at hi;cases hi⟩
 have hlast:∀ (fuel:Nat) (listed:Array Bool) (a:Act) (w:World),L ∈ Region.ready .any ops listed→Region.ready .any ops (listed.setIfInBounds L true)=[]→(∀ i ∈ Region.ready .any ops listed,i=L)→AheadOf P o Q .normal a w →
  wpAny P .any ops Q (fuel + 1) listed a w:=by
  intro fuel listed a w hm hnil honly hq
  refine ⟨(fun h0=>by rw [h0] at hm;cases hm),fun i hi=>?_⟩
  obtain rfl:=honly i hi
  unfold wpOp
  rw [ho]
  simp only
  rw [if_pos (by simp [Region.wanted,hg])]
  exact .inl (Oper.wp_mono (fun a w h=>hdone fuel _ a w hnil h) hq)
 intro fuel
 induction fuel with
 | zero =>
   intro listed a w hs hLf h
   rcases key listed hs hLf with ⟨hm,hnil,honly⟩ | ⟨⟨j,hj⟩,hin⟩
   ·exact hlast 0 listed a w hm hnil honly h.2
   ·have:=(hin j hj).2
    rw [h.1] at this
    cases this
 | succ fuel ih =>
   intro listed a w hs hLf h
   rcases key listed hs hLf with ⟨hm,hnil,honly⟩ | ⟨⟨j,hj⟩,hin⟩
   ·exact hlast (fuel + 1) listed a w hm hnil honly (h.1 hnil)
   ·refine ⟨(fun h0=>by rw [h0] at hj;cases hj),fun i hi=>?_⟩
    obtain ⟨hne,hi1⟩:=hin i hi
    refine wpOp_ahead (wpOp_mono (fun a' w' h'=>?_) (h.2 i hi1))
    refine ih (listed.setIfInBounds i true) a' w' (by simpa using hs) (by rw [getD_set_ne true hne];exact hLf) ?_
    rw [Array.setIfInBounds_comm _ _ hne]
    exact h'.2
theorem wp_region_last {id:Nat} {a:Act} {w:World} (L n:Nat) (hm:P.follows .mixedOrders=true) (hn:ops.size=n + 1) (ho:ops[L]?=some o) (hg:o.guard=none) (hok:lastOk ops L=true) (hS:S w.drew)
 (h:S w.drew→wpAnyH P .any ops (AheadOf P o Q) S n ((Array.replicate ops.size false).setIfInBounds L true) a w.drew):(Code.region id ops true).wp P Q a w:=by
 refine wp_region_any hm ?_
 have hL:L < ops.size:=(Array.getElem?_eq_some_iff.1 ho).1
 have:=ahead_sound ho hg hok n (Array.replicate ops.size false) a w.drew (by simp) (by simp [Array.getD,hL]) (h hS)
 rw [← hn] at this
 exact this
theorem wp_region_lastL {l:List Oper} {id:Nat} {a:Act} {w:World} (L n:Nat) (hm:P.follows .mixedOrders=true) (hn:l.length=n + 1) (ho:l[L]?=some o) (hg:o.guard=none) (hok:lastOk l.toArray L=true) (hS:S w.drew)
 (h:S w.drew→wpAnyH P .any l.toArray (AheadOf P o Q) S n ((Array.replicate (n + 1) false).setIfInBounds L true) a w.drew):(Code.region id l.toArray true).wp P Q a w:=
 wp_region_last L n hm (by simpa using hn) (by simpa using ho) hg hok hS (by
  have e:l.toArray.size=n + 1:=by simpa using hn
  rw [e];exact h)
theorem wpAnyH_takeL {md:Region.Mode} {l:List Oper} {i:Nat} {oi:Oper} {v:Value} {fuel:Nat} {listed:Array Bool} {a:Act} {w:World} (hi:l[i]?=some oi)
 (hs:Region.noSelect l.toArray=true) (hf:Region.free md l.toArray listed i=true) (hr:(Region.ready md l.toArray listed).contains i=true)
 (hQ:∀ c a w,Q (.panic c) (a.put oi.dst v) w→Q (.panic c) a w) (hw:Region.wanted oi (yielded l.toArray a.tmps)=true) (hy:∀ w,S w→(execOp a.eval oi).run P w=.ok (.value v) w) (hS:S w)
 (h:wpAnyH P md l.toArray Q S fuel (listed.setIfInBounds i true) (a.put oi.dst v) w):wpAnyH P md l.toArray Q S (fuel + 1) listed a w:=
 wpAnyH_take (by simpa using hi) hs hf hr hQ (.inl ⟨hw,hy⟩) hS h
theorem consL {md:Region.Mode} {l:List Oper} {i:Nat} {oi:Oper} {fuel:Nat} {listed:Array Bool} {a:Act} {w:World} (hi:l[i]?=some oi)
 (h:∀ K':Act→World→Prop,Shut (∀ a w,S w→(S w→wpAnyH P md l.toArray Q S fuel (listed.setIfInBounds i true) a w)→K' a w)→if Region.wanted oi (yielded l.toArray a.tmps)=true then Oper.wp P oi a w K' Q else K' (a.put oi.dst undef) w) :
 AllReadyH P md l.toArray Q S fuel listed a w [i]:=AllReadyH.cons (by simpa using hi) h AllReadyH.nil
end
section
variable {P:Program} {Q:Exit→Act→World→Prop} {S:World→Prop}
theorem wpAnyH_skipL {md:Region.Mode} {l:List Oper} {i:Nat} {oi:Oper} {fuel:Nat} {listed:Array Bool} {a:Act} {w:World} (hi:l[i]?=some oi)
 (hs:Region.noSelect l.toArray=true) (hf:Region.free md l.toArray listed i=true) (hr:(Region.ready md l.toArray listed).contains i=true)
 (hQ:∀ c a w,Q (.panic c) (a.put oi.dst undef) w→Q (.panic c) a w) (hw:Region.wanted oi (yielded l.toArray a.tmps)=false) (hS:S w)
 (h:wpAnyH P md l.toArray Q S fuel (listed.setIfInBounds i true) (a.put oi.dst undef) w):wpAnyH P md l.toArray Q S (fuel + 1) listed a w:=
 wpAnyH_take (by simpa using hi) hs hf hr hQ (.inr ⟨hw,rfl⟩) hS h
end
theorem sp:(∀ {α:Type} (xs:List α) (i:Nat) (a:α),xs.toArray.setIfInBounds i a=(xs.set i a).toArray)∧(∀ {α:Type} (x:α) (xs:List α) (a:α),(x :: xs).set 0 a=a :: xs)∧(∀ {α:Type} (x:α) (xs:List α) (n:Nat) (a:α),(x :: xs).set (n + 1) a=x :: xs.set n a):=⟨fun _ _ _=>List.setIfInBounds_toArray _ _ _,fun _ _ _=>rfl,fun _ _ _ _=>rfl⟩
theorem tk {P:Program} {Q:Exit→Act→World→Prop} {S:World→Prop} {md:Region.Mode} {l:List Oper} (i:Nat) {oi:Oper} {v:Value} {fuel:Nat} {listed:Array Bool} {a:Act} {w:World} (hi:l[i]?=some oi)
 (h:wpAnyH P md l.toArray Q S fuel (listed.setIfInBounds i true) (a.put oi.dst v) w) (hs:Region.noSelect l.toArray=true:=by kernel_rfl) (hf:Region.free md l.toArray listed i=true:=by kernel_rfl) (hr:(Region.ready md l.toArray listed).contains i=true:=by kernel_rfl)
 (hw:Region.wanted oi (yielded l.toArray a.tmps)=true:=by rfl) (hy:∀ w,S w→(execOp a.eval oi).run P w=.ok (.value v) w:=by (intro w hSw;(try dsimp only at hSw);go_simp;try with_reducible rfl)) (hQ:∀ c a w,Q (.panic c) (a.put oi.dst v) w→Q (.panic c) a w:=by exact fun _ _ _ h=>h) (hS:S w:=by assumption) :
 wpAnyH P md l.toArray Q S (fuel + 1) listed a w:=wpAnyH_takeL hi hs hf hr hQ hw hy hS h
theorem sk {P:Program} {Q:Exit→Act→World→Prop} {S:World→Prop} {md:Region.Mode} {l:List Oper} (i:Nat) {oi:Oper} {fuel:Nat} {listed:Array Bool} {a:Act} {w:World} (hi:l[i]?=some oi)
 (h:wpAnyH P md l.toArray Q S fuel (listed.setIfInBounds i true) (a.put oi.dst undef) w) (hs:Region.noSelect l.toArray=true:=by kernel_rfl) (hf:Region.free md l.toArray listed i=true:=by kernel_rfl) (hr:(Region.ready md l.toArray listed).contains i=true:=by kernel_rfl)
 (hw:Region.wanted oi (yielded l.toArray a.tmps)=false:=by rfl) (hQ:∀ c a w,Q (.panic c) (a.put oi.dst undef) w→Q (.panic c) a w:=by exact fun _ _ _ h=>h) (hS:S w:=by assumption) :
 wpAnyH P md l.toArray Q S (fuel + 1) listed a w:=wpAnyH_skipL hi hs hf hr hQ hw hS h
end Go.Proofs.YtgbmnlmnhbkdbaaGreat
