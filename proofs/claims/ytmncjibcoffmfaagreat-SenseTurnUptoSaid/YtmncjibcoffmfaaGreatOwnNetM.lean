/- A network's lists as a family whose heads stay: its box, its outer lists, its rows; what is written into them. No condition. -/
import Derived.Laws.IdiomStrings
import Derived.Test.YtmncjibcoffmfaaGreatFresh
import Derived.Test.YtmncjibcoffmfaaGreatSameNet
set_option linter.unusedVariables false
set_option linter.unusedSimpArgs false
namespace Go.Proofs.YtmncjibcoffmfaaGreat
open Go.RowKit

theorem upd_twice (M:Key→Lst) (k:Key) (L L2:Lst):upd (upd M k L) k L2=upd M k L2:=by
 funext q
 by_cases e:q=k
 ·rw [e,upd_same,upd_same]
 ·rw [upd_ne _ _ e,upd_ne _ _ e,upd_ne _ _ e]
def prs (lt:Nat→Nat) (n:Nat):List (Nat × Nat):=(List.range n).flatMap fun i=>(List.range (lt i)).map fun j=>(i,j)
def totL (lt:Nat→Nat):Nat→Nat
 | 0=>0
 | n + 1=>totL lt n + lt n
theorem prs_succ (lt:Nat→Nat) (n:Nat):prs lt (n + 1)=prs lt n ++ (List.range (lt n)).map fun j=>(n,j):=by
 unfold prs
 rw [List.range_succ,List.flatMap_append]
 simp
theorem prs_len (lt:Nat→Nat):∀ n,(prs lt n).length=totL lt n
 | 0=>rfl
 | n + 1=>by rw [prs_succ,List.length_append,prs_len lt n];simp [totL]
theorem mem_prs {lt:Nat→Nat} {n:Nat} {q:Nat × Nat}:q ∈ prs lt n ↔ q.1 < n∧q.2 < lt q.1:=by
 unfold prs
 simp only [List.mem_flatMap,List.mem_range,List.mem_map]
 constructor
 ·rintro ⟨a,ha,b,hb,rfl⟩;exact ⟨ha,hb⟩
 ·rintro ⟨h1,h2⟩;exact ⟨q.1,h1,q.2,h2,rfl⟩
theorem prs_nodup (lt:Nat→Nat):∀ n,(prs lt n).Nodup
 | 0=>by simp [prs]
 | n + 1=>by
   rw [prs_succ,List.nodup_append]
   refine ⟨prs_nodup lt n,?_,fun a ha b hb e=>?_⟩
   ·rw [List.nodup_iff_pairwise_ne,List.pairwise_map]
    exact (List.nodup_iff_pairwise_ne.1 List.nodup_range).imp fun h e=>h (congrArg Prod.snd e)
   ·subst e
    have h1:=(mem_prs.1 ha).1
    obtain ⟨j,_,rfl⟩:=List.mem_map.1 hb
    simp at h1
theorem totL_le {lt:Nat→Nat} {i n:Nat} (h:i≤n):totL lt i≤totL lt n:=by
 induction n with
 | zero =>
  have:i=0:=by omega
  subst this
  exact Nat.le_refl _
 | succ n ih =>
   by_cases e:i=n + 1
   ·subst e;exact Nat.le_refl _
   ·exact Nat.le_trans (ih (by omega)) (Nat.le_add_right _ _)
structure Std (M:Key→Lst) (C:Key→List Value) (nm:ByteArray) (gB nN nV nP nT:Nat) (lv lp lt:Nat→Nat) (AN AV AP AT:Option Addr) (cN cV cP cT:Nat):Prop where
 b:(M kB).A=some ⟨gB,0,none⟩∧(M kB).n=1∧(M kB).s=5
 bC:C kB=[.string nm,.slice AN nN cN,.slice AV nV cV,.slice AP nP cP,.slice AT nT cT]
 N:(M kN).e=9∧(M kN).s=1∧(M kN).A=AN∧(M kN).n=nN∧(M kN).c=cN
 V:(M kV).s=1∧(M kV).A=AV∧(M kV).n=nV∧(M kV).c=cV
 vC:C kV=heads M kv nV
 v:∀ i,i < nV→(M (kv i)).e=9∧(M (kv i)).s=1∧(M (kv i)).n=lv i
 P:(M kP).s=1∧(M kP).A=AP∧(M kP).n=nP∧(M kP).c=cP
 pC:C kP=heads M kp nP
 p:∀ i,i < nP→(M (kp i)).e=3∧(M (kp i)).s=1∧(M (kp i)).n=lp i
 T:(M kT).s=1∧(M kT).A=AT∧(M kT).n=nT∧(M kT).c=cT
 tC:C kT=heads M kt nT
 t:∀ i,i < nT→(M (kt i)).e=36∧(M (kt i)).s=3∧(M (kt i)).n=lt i
 bN:nN≤1048576
 bV:nV≤1048576∧∀ i,i < nV→lv i≤1048576
 bP:nP≤1048576∧∀ i,i < nP→lp i≤1048576
 bT:nT≤1048576∧∀ i,i < nT→lt i≤1048576
section
variable {w0 w w':World} {S:Nat→Prop} {lo:Nat} {M M':Key→Lst} {C C':Key→List Value} {nm:ByteArray} {gB nN nV nP nT:Nat} {lv lp lt:Nat→Nat} {AN AV AP AT:Option Addr} {cN cV cP cT:Nat}
theorem heads_at (h:OwnS w0 S lo M C w) {k:Key} {f:Nat→Key} {n i:Nat} (hs:(M k).s=1) (hn:(M k).n=n) (hC:C k=heads M f n) (hi:i < n) :
 ∃ g,(M k).A=some ⟨g,0,none⟩∧g < w.heap.size∧w.cell? ⟨g,i,none⟩=some (.slice (M (f i)).A (M (f i)).n (M (f i)).c):=by
 obtain ⟨g,e,_,hg,_,hc⟩:=h.at k (by omega)
 refine ⟨g,e,hg,?_⟩
 rw [hc i (by rw [hs,hn];omega),hC]
 unfold heads
 rw [List.getElem?_map,List.getElem?_range hi]
 rfl
theorem Std.cells (x:Std M C nm gB nN nV nP nT lv lp lt AN AV AP AT cN cV cP cT) (h:OwnS w0 S lo M C' w) (hb:C' kB=C kB) :
 gB < w.heap.size∧w.cell? ⟨gB,1,none⟩=some (.slice AN nN cN)∧w.cell? ⟨gB,2,none⟩=some (.slice AV nV cV)∧w.cell? ⟨gB,3,none⟩=some (.slice AP nP cP)∧w.cell? ⟨gB,4,none⟩=some (.slice AT nT cT):=by
 obtain ⟨e1,e2,e3⟩:=x.b
 obtain ⟨g,e,_,hg,_,hc⟩:=h.at kB (by omega)
 rw [e1] at e
 injection e with e
 injection e with e
 subst e
 rw [e2,e3,hb,x.bC] at hc
 exact ⟨hg,hc 1 (by omega),hc 2 (by omega),hc 3 (by omega),hc 4 (by omega)⟩
theorem Std.rowV (x:Std M C nm gB nN nV nP nT lv lp lt AN AV AP AT cN cV cP cT) (h:OwnS w0 S lo M C' w) (hb:C' kV=C kV) {i:Nat} (hi:i < nV) :
 ∃ g,AV=some ⟨g,0,none⟩∧g < w.heap.size∧w.cell? ⟨g,i,none⟩=some (.slice (M (kv i)).A (lv i) (M (kv i)).c):=by
 obtain ⟨g,e,hg,hc⟩:=heads_at h x.V.1 x.V.2.2.1 (hb.trans x.vC) hi
 rw [x.V.2.1] at e
 rw [(x.v i hi).2.2] at hc
 exact ⟨g,e,hg,hc⟩
theorem Std.rowP (x:Std M C nm gB nN nV nP nT lv lp lt AN AV AP AT cN cV cP cT) (h:OwnS w0 S lo M C' w) (hb:C' kP=C kP) {i:Nat} (hi:i < nP) :
 ∃ g,AP=some ⟨g,0,none⟩∧g < w.heap.size∧w.cell? ⟨g,i,none⟩=some (.slice (M (kp i)).A (lp i) (M (kp i)).c):=by
 obtain ⟨g,e,hg,hc⟩:=heads_at h x.P.1 x.P.2.2.1 (hb.trans x.pC) hi
 rw [x.P.2.1] at e
 rw [(x.p i hi).2.2] at hc
 exact ⟨g,e,hg,hc⟩
theorem Std.rowT (x:Std M C nm gB nN nV nP nT lv lp lt AN AV AP AT cN cV cP cT) (h:OwnS w0 S lo M C' w) (hb:C' kT=C kT) {i:Nat} (hi:i < nT) :
 ∃ g,AT=some ⟨g,0,none⟩∧g < w.heap.size∧w.cell? ⟨g,i,none⟩=some (.slice (M (kt i)).A (lt i) (M (kt i)).c):=by
 obtain ⟨g,e,hg,hc⟩:=heads_at h x.T.1 x.T.2.2.1 (hb.trans x.tC) hi
 rw [x.T.2.1] at e
 rw [(x.t i hi).2.2] at hc
 exact ⟨g,e,hg,hc⟩
theorem heads_heads (hM:∀ k:Key,k.1≤8→M' k=M k) (f:Nat→Key) (hf:∀ i,(f i).1≤8) (n:Nat):heads M' f n=heads M f n:=heads_congr fun i _=>hM _ (hf i)
theorem Std.turn (x:Std M C nm gB nN nV nP nT lv lp lt AN AV AP AT cN cV cP cT) (hM:∀ k:Key,k.1 ≠ 12→M' k=M k) (hC:C' kB=C kB∧C' kV=C kV∧C' kP=C kP∧C' kT=C kT):Std M' C' nm gB nN nV nP nT lv lp lt AN AV AP AT cN cV cP cT:=by
 have hh:=fun f hf n=>heads_heads (M:=M) (M':=M') (fun k hk=>hM k (by omega)) f hf n
 refine ⟨by rw [hM kB (by decide)];exact x.b,hC.1.trans x.bC,by rw [hM kN (by decide)];exact x.N,by rw [hM kV (by decide)];exact x.V,?_,fun i hi=>by rw [hM _ (by simp)];exact x.v i hi,by rw [hM kP (by decide)];exact x.P,?_,fun i hi=>by rw [hM _ (by simp)];exact x.p i hi,
  by rw [hM kT (by decide)];exact x.T,?_,fun i hi=>by rw [hM _ (by simp)];exact x.t i hi,x.bN,x.bV,x.bP,x.bT⟩
 ·rw [hC.2.1,x.vC,hh kv (fun _=>by simp)]
 ·rw [hC.2.2.1,x.pC,hh kp (fun _=>by simp)]
 ·rw [hC.2.2.2,x.tC,hh kt (fun _=>by simp)]
end
def Outer (C C':Key→List Value):Prop:=C' kB=C kB∧C' kV=C kV∧C' kP=C kP∧C' kT=C kT
theorem Outer.trans {C C' C2:Key→List Value} (h:Outer C C') (k:Outer C' C2):Outer C C2:=⟨k.1.trans h.1,k.2.1.trans h.2.1,k.2.2.1.trans h.2.2.1,k.2.2.2.trans h.2.2.2⟩
theorem Outer.of {C C':Key→List Value} (h:∀ k:Key,k.1=9 ∨ k.1=1 ∨ k.1=2 ∨ k.1=3→C' k=C k):Outer C C':=⟨h _ (by simp),h _ (by simp),h _ (by simp),h _ (by simp)⟩
theorem own_new (w:World) (e:TypeId) (s n:Nat) (cs:List Value) (hl:cs.length=n * s) (hn:n≤maxLen):(⟨e,s,some ⟨w.heap.size,0,none⟩,n,n,cs⟩:Lst).own (w.alloc (.cells cs.toArray e)) w.heap.size:=by
 refine ⟨hl,.inr ⟨w.heap.size,n,cs.toArray,rfl,Nat.le_refl _,heap_alloc_new w _,Nat.le_refl _,hn,by simpa using hl,?_⟩⟩
 simp only
 rw [← hl,List.take_of_length_le (by simp)]
theorem addr_cells {w:World} {g m:Nat} {news:List Value} (hl:news.length=m) (h:∀ j,j < m→w.cell? ⟨g,j,none⟩=news[j]?):∀ j u,news[j]?=some u→w.cell? ((⟨g,0,none⟩:Addr).add j)=some u:=fun j u hu=>by
 rw [show (⟨g,0,none⟩:Addr).add j=⟨g,0 + j,none⟩ from Addr.add_lit _ _ _,Nat.zero_add,h j (by rw [← hl];exact (List.getElem?_eq_some_iff.1 hu).1),hu]
def AllS (w0:World) (S:Nat→Prop) (lo:Nat) (M MB:Key→Lst) (CB:Key→List Value) (neg:Nat × Nat→Bool) (lt:Nat→Nat) (p:Nat) (A:Option Addr) (c:Nat) (w:World):Prop:=
 OwnS w0 S lo (upd MB kA ⟨36,3,A,totL lt p,c,(prs lt p).flatMap (hdE M neg).cells⟩) (updC CB kA ((prs lt p).flatMap (hdE M neg).cells)) w
theorem AllS.next {w0 w w':World} {S:Nat→Prop} {lo:Nat} {M MB:Key→Lst} {CB:Key→List Value} {neg:Nat × Nat→Bool} {lt:Nat→Nat} {p c c':Nat} {A A':Option Addr} (h:AllS w0 S lo M MB CB neg lt p A c w)
 (ho:(⟨36,3,A',totL lt p + lt p,c',(prs lt p).flatMap (hdE M neg).cells ++ ((List.range (lt p)).map fun j=>(p,j)).flatMap (hdE M neg).cells⟩:Lst).own w' lo) (hg:w.grownBy w' (Value.slice A (totL lt p) c).ownBlock)
 (hat:(Value.slice A' (totL lt p + lt p) c').ownBlock=(Value.slice A (totL lt p) c).ownBlock ∨ (Value.slice A' (totL lt p + lt p) c').ownBlock=some w.heap.size):AllS w0 S lo M MB CB neg lt (p + 1) A' c' w':=by
 unfold AllS at h ⊢
 have h1:=h.app kA (L:=⟨36,3,A',totL lt p + lt p,c',(prs lt p).flatMap (hdE M neg).cells ++ ((List.range (lt p)).map fun j=>(p,j)).flatMap (hdE M neg).cells⟩) (by rw [upd_same];exact hg) ho (by rw [upd_same];exact hat)
 rw [upd_twice,updC_twice] at h1
 rw [prs_succ,List.flatMap_append]
 exact h1
theorem std_start {M M2:Key→Lst} {C2:Key→List Value} {N:NetV} {T:Nat→Nat→Rat} {gB:Nat} (hL:Link M N T N.values.length N.parents.length N.tables.length) (hq:NetQ N) (hM2:∀ k:Key,k.1≤8→M2 k=M k) (hC2:∀ k:Key,k.1≤8→C2 k=(M k).cs)
 (hb:(M2 kB).A=some ⟨gB,0,none⟩∧(M2 kB).n=1∧(M2 kB).s=5) (hCb:C2 kB=boxCs M N.name) :
 Std M2 C2 N.name gB N.names.length N.values.length N.parents.length N.tables.length (fun i=>(nth N.values i).length) (fun i=>(nth N.parents i).length) (fun i=>(nth N.tables i).length) (M kN).A (M kV).A (M kP).A (M kT).A (M kN).c (M kV).c (M kP).c (M kT).c:=by
 have hh:=fun f hf n=>heads_heads (M:=M) (M':=M2) hM2 f hf n
 refine ⟨hb,?_,?_,?_,?_,fun i hi=>?_,?_,?_,fun i hi=>?_,?_,?_,fun i hi=>?_,hq.names,⟨hq.vals,fun i hi=>hq.val _ (nth_mem hi)⟩,⟨hq.pars,fun i hi=>hq.par _ (nth_mem hi)⟩,⟨hq.tabs,fun i hi=>hq.tab _ (nth_mem hi)⟩⟩
 ·rw [hCb];unfold boxCs;rw [hL.names.n,hL.vals.out.n,hL.pars.out.n,hL.tO.n]
 ·rw [hM2 kN (by simp)];exact ⟨hL.names.e,hL.names.s,rfl,hL.names.n,rfl⟩
 ·rw [hM2 kV (by simp)];exact ⟨hL.vals.out.s,rfl,hL.vals.out.n,rfl⟩
 ·rw [hC2 kV (by simp),hh kv (fun _=>by simp)];exact hL.vals.out.cs
 ·rw [hM2 _ (by simp)]
  have h1:=hL.vals.row i hi
  exact ⟨h1.e,h1.s,by rw [h1.n];simp⟩
 ·rw [hM2 kP (by simp)];exact ⟨hL.pars.out.s,rfl,hL.pars.out.n,rfl⟩
 ·rw [hC2 kP (by simp),hh kp (fun _=>by simp)];exact hL.pars.out.cs
 ·rw [hM2 _ (by simp)]
  have h1:=hL.pars.row i hi
  exact ⟨h1.e,h1.s,by rw [h1.n];simp⟩
 ·rw [hM2 kT (by simp)];exact ⟨hL.tO.s,rfl,hL.tO.n,rfl⟩
 ·rw [hC2 kT (by simp),hh kt (fun _=>by simp)];exact hL.tO.cs
 ·rw [hM2 _ (by simp)]
  have h1:=(hL.tab i hi).row
  exact ⟨h1.e,h1.s,h1.n⟩
theorem hdE_congr {M M2:Key→Lst} (hM2:∀ k:Key,k.1≤8→M2 k=M k) (neg:Nat × Nat→Bool):(hdE M2 neg).cells=(hdE M neg).cells:=by
 funext q
 show hdC M2 neg q=hdC M neg q
 unfold hdC
 rw [hM2 _ (by simp),hM2 _ (by simp)]
theorem tab_hd {M:Key→Lst} {T:Nat→Nat→Rat} {i m:Nat} (h:Tab M T i m):(M (kt i)).cs=((List.range m).map fun j=>(i,j)).flatMap (hdE M fun q=>isNeg (T q.1 q.2).num).cells:=by
 rw [h.row.cs,List.flatMap_map]
 unfold hdrs
 rw [List.flatMap_map]
 rfl
theorem all_at {M M2:Key→Lst} {C2:Key→List Value} {N:NetV} {T:Nat→Nat→Rat} (hL:Link M N T N.values.length N.parents.length N.tables.length) (hM2:∀ k:Key,k.1≤8→M2 k=M k) (neg:Nat × Nat→Bool)
 (h1:(M2 kA).s=3) (h2:(M2 kA).n=totL (fun i=>(nth N.tables i).length) N.tables.length) (h3:C2 kA=(prs (fun i=>(nth N.tables i).length) N.tables.length).flatMap (hdE M neg).cells) (ht:totL (fun i=>(nth N.tables i).length) N.tables.length≤1000000000)
 (hT:∀ i j,i < N.tables.length→j < (nth N.tables i).length→ratLen (T i j)≤1000000000000):AllAt M2 C2 (prs (fun i=>(nth N.tables i).length) N.tables.length) neg:=by
 refine ⟨h1,by rw [h2,prs_len],by rw [h3,hdE_congr hM2],fun q hq=>?_,fun q hq=>?_,prs_nodup _ _,by rw [prs_len];exact ht⟩
 ·obtain ⟨a,b⟩:=mem_prs.1 hq
  have e1:=(hL.tab _ a).num _ b
  have e2:=hT _ _ a b
  rw [hM2 _ (by simp)]
  unfold ratLen at e2
  exact ⟨e1.e,e1.s,by rw [e1.n];omega⟩
 ·obtain ⟨a,b⟩:=mem_prs.1 hq
  have e1:=(hL.tab _ a).den _ b
  have e2:=hT _ _ a b
  rw [hM2 _ (by simp)]
  unfold ratLen at e2
  exact ⟨e1.e,e1.s,by rw [e1.n];omega⟩
def tagS (p:Nat):ByteArray:={ data:=#[126,126] } ++ { data:=#[UInt8.ofNat p] }
theorem conv_tag (w:World) (g p:Nat) (h:w.cell? ⟨g,0,none⟩=some (.int .u8 (IntKind.u8.wrap (p:Nat)))):(convert 67 9 (.slice (some ⟨g,0,none⟩) 1 1)).run Tryz.prog w=.ok (.string { data:=#[UInt8.ofNat p] }) w:=by
 have h1:=run_convert_bytes_back (P:=Tryz.prog) w 67 9 5 ⟨g,0,none⟩ 1 [UInt8.ofNat p] Tryz.underlying67 Tryz.underlying5 Tryz.underlying9 (fun j hj=>by
  have:j=0:=by simpa using hj
  subst this
  rw [show (⟨g,0,none⟩:Addr).add 0=⟨g,0,none⟩ from rfl,h]
  congr 2)
 exact h1
structure FillC (c:Nat) (f:Nat→Key) (len:Nat→Nat) (val:Nat→Value) (C C':Key→List Value) (p:Nat):Prop where
 far:∀ k:Key,k.1 ≠ c→C' k=C k
 row:∀ r,r < p→C' (f r)=List.replicate (len r) (val r)
theorem FillC.zero (c:Nat) (f:Nat→Key) (len:Nat→Nat) (val:Nat→Value) (C:Key→List Value):FillC c f len val C C 0:=⟨fun _ _=>rfl,fun r hr=>absurd hr (Nat.not_lt_zero r)⟩
theorem FillC.next {c:Nat} {f:Nat→Key} {len:Nat→Nat} {val:Nat→Value} {C C':Key→List Value} {p:Nat} (h:FillC c f len val C C' p) (hc:(f p).1=c) (hf:∀ r,r < p→f r ≠ f p):FillC c f len val C (updC C' (f p) (List.replicate (len p) (val p))) (p + 1):=by
 refine ⟨fun k hk=>?_,fun r hr=>?_⟩
 ·rw [updC_ne _ _ (fun e=>hk (by rw [e];exact hc))];exact h.far k hk
 ·by_cases e:r=p
  ·subst e;rw [updC_same]
  ·rw [updC_ne _ _ (hf r (by omega))];exact h.row r (by omega)
abbrev ks (i j:Nat):Key:=(12,i,j)
structure TabTo (M:Key→Lst) (C:Key→List Value) (i t:Nat):Prop where
 hd:∀ j,j < t→(C (kt i))[j * 3]?=some (.bool false)∧(C (kt i))[j * 3 + 1]?=some (.slice (M (ks i j)).A 1 (M (ks i j)).c)∧(C (kt i))[j * 3 + 2]?=some (.slice none 0 0)
 one:∀ j,j < t→(M (ks i j)).n=1∧(M (ks i j)).s=1∧C (ks i j)=[.int .u32 ((i + 1:Nat):Int)]
theorem TabTo.congr {M M':Key→Lst} {C C':Key→List Value} {i t:Nat} (h:TabTo M C i t) (h0:C' (kt i)=C (kt i)) (h1:∀ j,j < t→M' (ks i j)=M (ks i j)∧C' (ks i j)=C (ks i j)):TabTo M' C' i t:=
 ⟨fun j hj=>by rw [h0,(h1 j hj).1];exact h.hd j hj,fun j hj=>by rw [(h1 j hj).1,(h1 j hj).2];exact h.one j hj⟩
structure TabsTo (M M':Key→Lst) (C C':Key→List Value) (lt:Nat→Nat) (p t:Nat):Prop where
 m:∀ k:Key,k.1 ≠ 12→M' k=M k
 far:∀ k:Key,k.1 ≠ 6→k.1 ≠ 12→C' k=C k
 row:∀ r,r < p→TabTo M' C' r (lt r)
 cur:TabTo M' C' p t
theorem TabsTo.zero (M:Key→Lst) (C:Key→List Value) (lt:Nat→Nat):TabsTo M M C C lt 0 0:=⟨fun _ _=>rfl,fun _ _ _=>rfl,fun r hr=>absurd hr (Nat.not_lt_zero r),⟨fun r hr=>absurd hr (Nat.not_lt_zero r),fun r hr=>absurd hr (Nat.not_lt_zero r)⟩⟩
theorem TabsTo.down {M M':Key→Lst} {C C':Key→List Value} {lt:Nat→Nat} {p:Nat} (h:TabsTo M M' C C' lt p (lt p)):TabsTo M M' C C' lt (p + 1) 0:=
 ⟨h.m,h.far,fun r hr=>by
   by_cases e:r=p
   ·subst e;exact h.cur
   ·exact h.row r (by omega),⟨fun r hr=>absurd hr (Nat.not_lt_zero r),fun r hr=>absurd hr (Nat.not_lt_zero r)⟩⟩
theorem TabsTo.next {M M':Key→Lst} {C C':Key→List Value} {lt:Nat→Nat} {p t:Nat} (h:TabsTo M M' C C' lt p t) (ht:t * 3 + 3≤(C' (kt p)).length) (A:Option Addr) (c:Nat) {M2:Key→Lst} (hM2:M2=upd M' (ks p t) ⟨54,1,A,1,c,[.int .u32 ((p + 1:Nat):Int)]⟩)
 {C2:Key→List Value} (hC2:C2=updC (updC C' (ks p t) [.int .u32 ((p + 1:Nat):Int)]) (kt p) (setL (C' (kt p)) (t * 3) [.bool false,.slice A 1 c,.slice none 0 0])):TabsTo M M2 C C2 lt p (t + 1):=by
 have hk:∀ i j,kt p ≠ ks i j:=fun i j=>kne (by omega)
 have e1:C2 (kt p)=setL (C' (kt p)) (t * 3) [.bool false,.slice A 1 c,.slice none 0 0]:=by rw [hC2,updC_same]
 have e2:∀ r,r ≠ p→C2 (kt r)=C' (kt r):=fun r hr=>by rw [hC2,updC_ne _ _ (kni hr),updC_ne _ _ (kne (by omega))]
 have e3:∀ r j,(r ≠ p ∨ j ≠ t)→M2 (ks r j)=M' (ks r j)∧C2 (ks r j)=C' (ks r j):=fun r j hr=>by
  have hne:ks r j ≠ ks p t:=by
   rcases hr with hr | hr
   ·exact kni hr
   ·exact knj hr
  rw [hM2,hC2,upd_ne _ _ hne,updC_ne _ _ (hk r j).symm,updC_ne _ _ hne]
  exact ⟨rfl,rfl⟩
 have e4:M2 (ks p t)=⟨54,1,A,1,c,[.int .u32 ((p + 1:Nat):Int)]⟩:=by rw [hM2,upd_same]
 have e5:C2 (ks p t)=[.int .u32 ((p + 1:Nat):Int)]:=by rw [hC2,updC_ne _ _ (hk p t).symm,updC_same]
 have hl:([.bool false,.slice A 1 c,.slice none 0 0]:List Value).length=3:=rfl
 refine ⟨fun k hk=>?_,fun k h6 h12=>?_,fun r hr=>?_,⟨fun j hj=>?_,fun j hj=>?_⟩⟩
 ·rw [hM2,upd_ne _ _ (fun e=>hk (by rw [e]))];exact h.m k hk
 ·rw [hC2,updC_ne _ _ (fun e=>h6 (by rw [e])),updC_ne _ _ (fun e=>h12 (by rw [e]))];exact h.far k h6 h12
 ·exact (h.row r hr).congr (e2 r (by omega)) fun j _=>e3 r j (.inl (by omega))
 ·rw [e1]
  by_cases e:j=t
  ·subst e
   rw [e4]
   refine ⟨?_,?_,?_⟩
   ·exact setL_in [.bool false,.slice A 1 c,.slice none 0 0] (C' (kt p)) (j * 3) 0 (by rw [hl];omega) (by rw [hl];omega)
   ·rw [setL_in _ _ _ _ (by rw [hl];omega) (by rw [hl];omega)];rfl
   ·rw [setL_in _ _ _ _ (by rw [hl];omega) (by rw [hl];omega)];rfl
  ·have h1:=h.cur.hd j (by omega)
   rw [(e3 p j (.inr e)).1,setL_out _ _ _ _ (by omega),setL_out _ _ _ _ (by omega),setL_out _ _ _ _ (by omega)]
   exact h1
 ·by_cases e:j=t
  ·subst e;rw [e4,e5];exact ⟨rfl,rfl,rfl⟩
  ·rw [(e3 p j (.inr e)).1,(e3 p j (.inr e)).2];exact h.cur.one j (by omega)
end Go.Proofs.YtmncjibcoffmfaaGreat
