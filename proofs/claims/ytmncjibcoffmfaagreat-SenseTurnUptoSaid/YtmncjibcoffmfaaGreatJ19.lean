/- Joined by program out of: NetWhole, NetNamed, NetCheckM. What each says stands at its own head. -/
import Derived.Test.YtmncjibcoffmfaaGreatJ18
import Derived.Test.YtmncjibcoffmfaaGreatNetRows
import Derived.Test.YtmncjibcoffmfaaGreatJ5
set_option linter.unusedVariables false
set_option linter.unusedSimpArgs false
/- model.whole and credenceref19.Whole (does each row add up to 1), slices.ContainsFunc over model.outside, walked. Conditions: the row reads, is a whole number of rows; within Go's bound. -/
namespace Go.Proofs.YtmncjibcoffmfaaGreat
open Go.RowKit Go.Shelf
attribute [local go_sem] Oper.semAt_some

def chunkL (l:List RawR) (v j:Nat):List RawR:=(l.drop (j * v)).take v
theorem nth_piece {l:List RawR} {m v i:Nat} (hi:i < v):nth ((l.drop m).take v) i=nth l (m + i):=by
 unfold nth List.getD
 rw [List.getElem?_take,if_pos hi,List.getElem?_drop]
theorem totTo_piece (l:List RawR) (m v:Nat):∀ i,i≤v→totTo l (m + i)=totTo l m + totTo ((l.drop m).take v) i
 | 0,_=>by rw [totTo];rfl
 | i + 1,h=>by
   have ih:=totTo_piece l m v i (by omega)
   rw [totTo,nth_piece (by omega),show m + (i + 1)=(m + i) + 1 by omega,totTo,ih]
   omega
theorem SlM.piece {α:Type} [Inhabited α] {k:Nat} {E:Enc α k} {w:World} {b off n:Nat} {xs:List α} (h:SlM E w (some ⟨b,off,none⟩) n xs) {m v:Nat} (hm:m + v≤n):SlM E w (some ⟨b,off + m * k,none⟩) v ((xs.drop m).take v):=by
 refine ⟨by rw [List.length_take,List.length_drop,h.len];omega,by have:=h.big;omega,fun hv=>?_⟩
 obtain ⟨b',off',e,hlt,hc⟩:=h.at' (by omega)
 injection e with e
 injection e with e1 e2
 subst e1 e2
 refine ⟨b,off + m * k,rfl,hlt,fun j i hj hi=>?_⟩
 have h2:=hc (m + j) i (by omega) hi
 rw [show off + m * k + j * k + i=off + (m + j) * k + i by rw [Nat.add_mul];omega,h2]
 congr 2
 unfold nth List.getD
 rw [List.getElem?_take,if_pos hj,List.getElem?_drop]
theorem RRow.piece {w:World} {b off n:Nat} {l:List RawR} (h:RRow w (some ⟨b,off,none⟩) n l) {m v:Nat} (hm:m + v≤n):RRow w (some ⟨b,off + m * 3,none⟩) v ((l.drop m).take v):=by
 obtain ⟨⟨hs,h1,h2⟩,h3⟩:=h
 refine ⟨⟨(hs.drop m).take v,h1.piece hm,fun i hi=>?_⟩,by rw [List.length_take,List.length_drop,h3];omega⟩
 rw [nth_piece hi,show nth ((hs.drop m).take v) i=nth hs (m + i) by unfold nth List.getD;rw [List.getElem?_take,if_pos hi,List.getElem?_drop]]
 exact h2 (m + i) (by omega)
theorem RRow.l32 {w:World} {A:Option Addr} {n:Nat} {l:List RawR} (h:RRow w A n l):∀ j,j < n→L32 (nth l j).num∧L32 (nth l j).den:=fun j hj=>by
 obtain ⟨_,_,_,_,_,_,_,_,x⟩:=h.at hj
 exact ⟨x.nl,x.dl⟩
def wholeB (l:List RawR) (v N:Nat):Bool:=(List.range N).all fun j=>decide (sumQ (chunkL l v j)=1)
theorem wholeB_true {l:List RawR} {v N:Nat} (h:∀ j,j < N→sumQ (chunkL l v j)=1):wholeB l v N=true:=by
 unfold wholeB
 rw [List.all_eq_true]
 intro j hj
 exact decide_eq_true (h j (List.mem_range.1 hj))
theorem wholeB_false {l:List RawR} {v N j:Nat} (hj:j < N) (h:¬ sumQ (chunkL l v j)=1):wholeB l v N=false:=by
 unfold wholeB
 rw [List.all_eq_false]
 exact ⟨j,List.mem_range.2 hj,by simpa using h⟩
theorem KeepsOthers.of_below {W W':World} (h:Below W.heap.size W W'):KeepsOthers W W':=
 ⟨h.size,fun k o hk _=>(h.block k (Array.getElem?_eq_some_iff.1 hk).1).trans hk⟩
set_option maxRecDepth 100000 in
set_option maxHeartbeats 4000000 in
theorem whole_any (b off c n:Nat) (l:List RawR) (v N:Nat) (w:World) (h:RRow w (some ⟨b,off,none⟩) n l) (hc:n≤c) (hn:n=N * v) (hv:1≤v) (hb:n≤1048576) (ht:totTo l n≤100000000) :
 Calls Tryz.prog 78 #[.slice (some ⟨b,off,none⟩) n c,.int .i64 (v:Nat)] w fun e w'=>e=.returned (.bool (wholeB l v N))∧Below w.heap.size w w':=by
 have H0:=(Held.init w).new 4 [.bool false]
 have H1:=H0.new 45 [.slice (some ⟨b,off,none⟩) n c]
 rw [show (w.alloc (.cells [.bool false].toArray 4)).heap.size=w.heap.size + 1 from by simp] at H1
 have H2:=H1.new 3 [.int .i64 (v:Nat)]
 rw [show ((w.alloc (.cells [.bool false].toArray 4)).alloc (.cells [.slice (some ⟨b,off,none⟩) n c].toArray 45)).heap.size=w.heap.size + 1 + 1 from by simp] at H2
 have hsz2:(((w.alloc (.cells #[.bool false] 4)).alloc (.cells #[.slice (some ⟨b,off,none⟩) n c] 45)).alloc (.cells #[.int .i64 (v:Nat)] 3)).heap.size=w.heap.size + 3:=by simp
 have HI:=Lib.hid (And.intro h (And.intro hn ht))
 clear hn h ht
 refine (callsIn_wide (n:=3)).1 ?_
 refine callsIn_of_wp_marks Tryz.func78 rfl trivial ?_ rfl
 simp only [Tryz.ntmps78,List.size_toArray,List.length_cons,List.length_nil,Nat.reduceAdd,Nat.reduceSub,Array.replicate_succ,Array.replicate_zero,List.push_toArray,List.append_toArray,List.nil_append,List.cons_append]
 refine wpIn_wide.2 ?_
 go_wp2_with fail
 refine (chunk_any (some ⟨b,off,none⟩) n c v hv _).mono ?_
 rintro e w1 ⟨rfl,rfl⟩
 go_wp2_with fail
 refine (wpIn_wide (n:=3)).1 ?_
 refine wpIn_rangeFunc_ownF (F:=Fence.wide) rfl (by omega) (gf:=133) (lb:=#[.pointer (some ⟨w.heap.size + 1,0,none⟩),.pointer (some ⟨w.heap.size + 1 + 1,0,none⟩)]) rfl trivial (enters_of Tryz.func133 (by kernel_rfl) rfl)
  (chunk_stops _ (by omega) (w.heap.size + 1) (w.heap.size + 1 + 1) w.heap.size b off c v N n HI.out.2.1 hv hb hc _ H2.has.2.1 H2.has.1) keepC_t (keepC_b (by rw [hsz2];omega) (by rw [hsz2];omega) (by rw [hsz2];omega)) (Below.refl _ _) (fun _=>rfl)
  (fun pre W=>Below w.heap.size w W∧RowC W w.heap.size 4 [.bool false]∧(Came N pre.length pre→∀ j,j < pre.length→sumQ (chunkL l v j)=1))
  (fun cd pre W=>cd=.ret∧Below w.heap.size w W∧RowC W w.heap.size 4 [.bool false]∧(Came N pre.length pre→wholeB l v N=false)) ?hI ?hIx ⟨H2.bel,H2.has.2.2.1,fun _ j hj=>absurd hj (by simp)⟩
  (fun x=>{ tmps:=#[.slice (some ⟨b,off,none⟩) n c,.int .i64 (v:Nat),undef,undef,.pointer (some ⟨w.heap.size,0,none⟩),.slice (some ⟨b,off + x.1 * v * 3,none⟩) v v,.slice (some ⟨b,off,none⟩) n c,.int .i64 (v:Nat),.func (.func 133) #[] #[.pointer (some ⟨w.heap.size + 1,0,none⟩),.pointer (some ⟨w.heap.size + 1 + 1,0,none⟩)],.slice (some ⟨b,off + x.1 * v * 3,none⟩) v v,undef,undef,undef,undef,undef],defers:=[] }) ?assign ?body ?done ?stop
 case hI =>
  rintro s W W' row ⟨hbel,hbox,hv⟩ hg hr
  exact ⟨hbel.grown hg hbel.size (fun g e=>by have:=(hr g e).1;rw [hsz2] at this;omega),hbox.grown hg (fun e=>by have:=(hr _ e.symm).1;rw [hsz2] at this;omega),hv⟩
 case hIx =>
  rintro cd s W W' row ⟨rfl,hbel,hbox,hv⟩ hg hr
  exact ⟨rfl,hbel.grown hg hbel.size (fun g e=>by have:=(hr g e).1;rw [hsz2] at this;omega),hbox.grown hg (fun e=>by have:=(hr _ e.symm).1;rw [hsz2] at this;omega),hv⟩
 case assign =>
  intro r x W K hK
  dsimp only [chunkE]
  gi_wp2
  exact hK
 case body =>
  rintro r pre x W ⟨hbel,hbox,hok⟩ hpl
  have hxN:=x.2
  have hmv:x.1 * v + v≤n:=by rw [HI.out.2.1];have:=Nat.mul_le_mul_right v (show x.1 + 1≤N from hxN);rw [Nat.add_mul,Nat.one_mul] at this;exact this
  have hrow:=(HI.out.1.below (Nat.le_refl _) hbel).piece hmv
  have htot:totTo (chunkL l v x.1) v≤100000000:=by
   have h1:=totTo_piece l (x.1 * v) v v (Nat.le_refl _)
   have h2:=totTo_le l hmv
   have h3:=HI.out.2.2
   unfold chunkL
   omega
  have hslen:ratLen (sumQ (chunkL l v x.1))≤300000002:=by
   have h1:=sumTo_len (chunkL l v x.1) v hrow.l32
   have h2:(chunkL l v x.1).length=v:=hrow.len
   unfold sumQ
   rw [h2]
   omega
  have HH:=Lib.hid (And.intro hbel (And.intro hbox hok))
  have hsz:=hbel.size
  have u0:=hbox.cell 0
  clear hbel hbox hok
  refine wpIn_block ?_
  refine wpIn_seq ?_
  refine wpIn_region_lit ?_
  refine listIn_of (by rintro ⟨_,_,h⟩;exact h) _ _ _ (by intro o ho c;simp at ho;rcases ho with rfl | rfl | rfl | rfl | rfl <;> simp) ?_
  go_wp2_with fail
  refine (frac_sum _ v v (chunkL l v x.1) _ hrow (by omega)).mono ?_
  intro e w2 hp
  obtain ⟨u1,rfl,hu1,hb2⟩:=hp.at (by omega)
  go_wp2_with fail
  refine (one_model _).mono ?_
  intro e w3 hp3
  obtain ⟨u2,rfl,hu2,hb3⟩:=hp3.at (by rw [ratLen_one];decide)
  have hu1:=hu1.below (Nat.le_refl _) hb3
  go_wp2_with fail
  refine (frac_cmp _ _ _ _ _ _ _ hu1 hu2 (by rw [ratLen_one];omega)).mono ?_
  rintro e w4 ⟨rfl,hb4⟩
  have hB:Below W.heap.size W w4:=(hb2.trans (hb3.mono hb2.size)).trans (hb4.mono (hb2.trans (hb3.mono hb2.size)).size)
  have hbox4:=HH.out.2.1.below' hB
  have HG:=Lib.hid (And.intro hB hbox4)
  have u0:=hbox4.cell 0
  have f0:=hbox4.frozen 0
  have hpost:=HH.out.2.2
  clear hp hp3 hu1 hu2 hb2 hb3 hb4 hB hbox4 hrow
  by_cases hs:sumQ (chunkL l v x.1)=1
  ·have hz:cmpQ (sumQ (chunkL l v x.1)) 1=0:=cmpQ_zero.2 hs
   rw [hz]
   go_wp2_with fail
   gi_wp2
   refine ⟨KeepsOthers.of_below HG.out.1,KeepC.below HG.out.1 hsz,HH.out.1.trans (HG.out.1.mono hsz),HG.out.2,fun hc j hj=>?_⟩
   obtain ⟨_,hc1,hx1⟩:=hc.back
   rw [List.length_append,List.length_singleton] at hj
   by_cases hjp:j < pre.length
   ·exact hpost hc1 j hjp
   ·obtain rfl:j=x.1:=by omega
    exact hs
  ·have hz:¬ cmpQ (sumQ (chunkL l v x.1)) 1=0:=fun h=>hs (cmpQ_zero.1 h)
   have HW:=Lib.hid (wholeB_false hxN hs)
   have hz2:(cmpQ (sumQ (chunkL l v x.1)) 1 == 0)=false:=beq_eq_false_iff_ne.2 hz
   generalize cmpQ (sumQ (chunkL l v x.1)) 1=cq at *
   go_wp2_with fail
   gi_wp2
   exact ⟨(KeepsOthers.of_below HG.out.1).trans (KeepsOthers.setCell _ _ _),rfl,(HH.out.1.trans (HG.out.1.mono hsz)).setCell (p:=⟨w.heap.size,0,none⟩) (Nat.le_refl _) (.bool false),HG.out.2.put 0 (.bool false),fun _=>HW.out⟩
 case done =>
  rintro D ys W hD hS ⟨hbel,hbox,hok⟩ hK
  have hl:=hS.length
  rw [hsz2] at hD
  have HT:=Lib.hid (wholeB_true (fun j hj=>hok (by rw [hl];exact hS) j (by rw [hl];exact hj)))
  have u0:=hbox.cell 0
  have f0:=hbox.frozen 0
  have hK2:(W.setCell ⟨w.heap.size,0,none⟩ (.bool true)).heap[D]?=some (.deferred (some [])):=(Below.heap_setCell W ⟨w.heap.size,0,none⟩ (.bool true) D (show D ≠ w.heap.size by omega)).trans hK
  have hbox2:=(hbox.put 0 (.bool true)).grown (grownBy_putObj' (W.setCell ⟨w.heap.size,0,none⟩ (.bool true)) D (.deferred none)) (by simp;omega)
  have c0:=hbox2.cell 0
  have hb2:=(hbel.setCell (p:=⟨w.heap.size,0,none⟩) (Nat.le_refl _) (.bool true)).trans (belowK_b (w:=w) (Nat.le_refl _) (W.setCell ⟨w.heap.size,0,none⟩ (.bool true)) D _ (.deferred none) (by omega) hK2 rfl rfl)
  have HB:=Lib.hid hb2
  clear hb2 hbox2 hok hbox hbel
  go_wp2_with fail
  refine ⟨by simp,.inl ⟨_,_,rfl,run_takeDeferred hK2,?_⟩⟩
  exact ⟨.bool true,by simp [results,Tryz.results78,go_sem,c0],by rw [HT.out],HB.out⟩
 case stop =>
  rintro D cd pre W hD hS ⟨rfl,hbel,hbox,hno⟩ hK
  obtain ⟨k,hk,hcm⟩:=hS
  have hl:=hcm.length
  subst hl
  have HF:=Lib.hid (hno hcm)
  rw [hsz2] at hD
  have hbox2:=hbox.grown (grownBy_putObj' W D (.deferred none)) (by simp;omega)
  have c0:=hbox2.cell 0
  have HB:=Lib.hid (hbel.trans (belowK_b (w:=w) (Nat.le_refl _) W D _ (.deferred none) (by omega) hK rfl rfl))
  clear hbox2 hbox hbel hno
  refine wpIn_wide.2 ?_
  go_wp2_with fail
  refine ⟨by simp,.inl ⟨_,_,rfl,run_takeDeferred hK,?_⟩⟩
  exact ⟨.bool false,by simp [results,Tryz.results78,go_sem,c0],by rw [HF.out],HB.out⟩
set_option maxRecDepth 100000 in
set_option maxHeartbeats 4000000 in
theorem whole_ref (b off c n:Nat) (l:List RawR) (v N:Nat) (w:World) (h:RRow w (some ⟨b,off,none⟩) n l) (hc:n≤c) (hn:n=N * v) (hv:1≤v) (hb:n≤1048576) (hvb:v≤1048576) (ht:totTo l n≤100000000) :
 Calls Tryz.prog 60 #[.slice (some ⟨b,off,none⟩) n c,.int .i64 (v:Nat)] w fun e w'=>e=.returned (.bool (wholeB l v N))∧Below w.heap.size w w':=by
 have HI:=Lib.hid (And.intro h (And.intro hn ht))
 clear hn h ht
 go_enter Tryz.func60,Tryz.ntmps60
 go_wp2_with fail
 go_loopw [5] (fun i wr=>∃ (k m:Nat),k≤N∧m=k * v∧i=.int .i64 (m:Nat)∧(∀ j,j < k→sumQ (chunkL l v j)=1)∧Below w.heap.size w wr) (fun i _=>n + v - (intOf i).toNat)
 case atStart=>exact ⟨0,0,by omega,by omega,rfl,fun j hj=>absurd hj (by omega),Below.refl _ _⟩
 case round =>
  obtain ⟨k,m,hk,hm,rfl,hok,hbr⟩:=hrel
  obtain ⟨wo,hwo⟩:∃ wo:World,wo=wr:=⟨_,rfl⟩
  subst hwo
  by_cases hlt:k < N
  ·as_aux_lemma =>
   have hmv:m + v≤n:=by rw [hm,HI.out.2.1];have:=Nat.mul_le_mul_right v (show k + 1≤N from hlt);rw [Nat.add_mul,Nat.one_mul] at this;exact this
   have hrow:=(HI.out.1.below (Nat.le_refl _) hbr).piece hmv
   have hch:chunkL l v k=(l.drop m).take v:=by unfold chunkL;rw [hm]
   rw [← hch] at hrow
   have htot:totTo (chunkL l v k) v≤100000000:=by
    have h1:=totTo_piece l m v v (Nat.le_refl _)
    have h2:=totTo_le l hmv
    have h3:=HI.out.2.2
    rw [hch]
    omega
   have hslen:ratLen (sumQ (chunkL l v k))≤300000002:=by
    have h1:=sumTo_len (chunkL l v k) v hrow.l32
    have h2:(chunkL l v k).length=v:=hrow.len
    unfold sumQ
    rw [h2]
    omega
   have HH:=Lib.hid (And.intro hm (And.intro hok hbr))
   have hsz:=hbr.size
   have i1:(m:Int) < (n:Int):=by omega
   have i2:IntKind.i64.wrap ((m:Int) + (v:Int))=((m + v:Nat):Int):=by simp [IntKind.wrap,IntKind.bits,IntKind.signed];omega
   have i3:((m + v:Nat):Int)≤(c:Int):=by omega
   have i4:(m:Int)≤((m + v:Nat):Int):=by omega
   have i5:m + v - m=v:=by omega
   clear hm hok hbr hch
   go_wp2_with fail
   refine (rfrac_sum _ v _ (chunkL l v k) _ hrow (by omega)).mono ?_
   intro e w2 hp
   obtain ⟨u1,rfl,hu1,hb2⟩:=hp.at (by omega)
   go_wp2_with fail
   refine (one_ref _).mono ?_
   intro e w3 hp3
   obtain ⟨u2,rfl,hu2,hb3⟩:=hp3.at (by rw [ratLen_one];decide)
   have hu1:=hu1.below (Nat.le_refl _) hb3
   go_wp2_with fail
   refine (rfrac_cmp _ _ _ _ _ _ _ hu1 hu2 (by rw [ratLen_one];omega)).mono ?_
   rintro e w4 ⟨rfl,hb4⟩
   have hB:Below wo.heap.size wo w4:=(hb2.trans (hb3.mono hb2.size)).trans (hb4.mono (hb2.trans (hb3.mono hb2.size)).size)
   have HG:=Lib.hid hB
   clear hp hp3 hu1 hu2 hb2 hb3 hb4 hB hrow
   by_cases hs:sumQ (chunkL l v k)=1
   ·have hz:cmpQ (sumQ (chunkL l v k)) 1=0:=cmpQ_zero.2 hs
    rw [hz]
    have HS:=Lib.hid hs
    clear hs
    go_wp2_with fail
    refine ⟨⟨k + 1,m + v,by omega,by rw [HH.out.1,Nat.add_mul,Nat.one_mul],by go_num,fun j hj=>?_,HH.out.2.2.trans (HG.out.mono hsz)⟩,by simp [intOf];omega⟩
    by_cases hjp:j < k
    ·exact HH.out.2.1 j hjp
    ·obtain rfl:j=k:=by omega
     exact HS.out
   ·have hz:¬ cmpQ (sumQ (chunkL l v k)) 1=0:=fun h=>hs (cmpQ_zero.1 h)
    have HW:=Lib.hid (wholeB_false hlt hs)
    have hz2:(cmpQ (sumQ (chunkL l v k)) 1 == 0)=false:=beq_eq_false_iff_ne.2 hz
    generalize cmpQ (sumQ (chunkL l v k)) 1=cq at *
    clear hs
    go_wp2_with fail
    go_ret
    exact ⟨by rw [HW.out];rfl,HH.out.2.2.trans (HG.out.mono hsz)⟩
  ·as_aux_lemma =>
   have hkN:k=N:=by omega
   subst hkN
   have hm2:m=n:=by rw [hm,HI.out.2.1]
   subst hm2
   have HE:=Lib.hid (And.intro (wholeB_true hok) hbr)
   clear hm hok hbr
   go_wp2_with fail
   go_ret
   exact ⟨by rw [HE.out.1];rfl,HE.out.2⟩
def outB (l:List RawR):Bool:=l.any fun r=>outQ r.q
set_option maxRecDepth 100000 in
set_option maxHeartbeats 1000000 in
theorem indexO (A:Option Addr) (n c:Nat) (l:List RawR) (w:World) (h:RRow w A n l) (hz:∀ i,i < n→(nth l i).sz≤10000000000) :
 Calls Tryz.prog 109 #[.slice A n c,.func (.func 77) #[] #[]] w fun e w'=>∃ z:Int,e=.returned (.int .i64 z)∧decide (0≤z)=outB l∧Below w.heap.size w w':=by
 have hbig:=h.big
 have HI:=Lib.hid (And.intro h (And.intro hz h.len))
 clear h hz
 go_enter Tryz.func109,Tryz.ntmps109
 go_wp2_with fail
 go_loopw [8] (fun i wr=>∃ k:Nat,k≤n∧i=.int .i64 (k:Nat)∧(∀ j,j < k→outQ (nth l j).q=false)∧Below w.heap.size w wr) (fun i _=>n - (intOf i).toNat)
 case atStart=>exact ⟨0,by omega,rfl,fun j hj=>absurd hj (by omega),Below.refl _ _⟩
 case round =>
  obtain ⟨k,hk,rfl,hok,hbr⟩:=hrel
  obtain ⟨wo,hwo⟩:∃ wo:World,wo=wr:=⟨_,rfl⟩
  subst hwo
  have hsz:=hbr.size
  by_cases hkn:k < n
  ·as_aux_lemma =>
   obtain ⟨b,off,hd,rfl,hblt,g0,g1,g2,hraw⟩:=(HI.out.1.below (Nat.le_refl _) hbr).at hkn
   have hout:=outside_model _ _ _ _ hraw.at (by have:=HI.out.2.1 k hkn;omega)
   unfold RH.val at hout
   have HH:=Lib.hid (And.intro hok hbr)
   clear hok hbr hraw
   go_wp2_with fail
   refine hout.mono ?_
   rintro e w2 ⟨rfl,hb2⟩
   have HB:=Lib.hid (HH.out.2.trans (hb2.mono hsz))
   clear hb2 hout
   rcases ho:outQ (nth l k).q with _ | _
   ·have HO:=Lib.hid ho
    clear ho
    go_wp2_with fail
    refine ⟨⟨k + 1,by omega,by go_num,fun j hj=>?_,HB.out⟩,by simp [intOf];omega⟩
    by_cases hjp:j < k
    ·exact HH.out.1 j hjp
    ·obtain rfl:j=k:=by omega
     exact HO.out
   ·have HO:=Lib.hid (show outB l=true from List.any_eq_true.2 ⟨_,nth_mem (by rw [HI.out.2.2];exact hkn),ho⟩)
    clear ho
    go_wp2_with fail
    go_ret
    exact ⟨k,rfl,by rw [HO.out];simp,HB.out⟩
  ·as_aux_lemma =>
   obtain rfl:n=k:=by omega
   have hno:outB l=false:=by
    unfold outB
    rw [List.any_eq_false]
    intro r hr
    obtain ⟨j,hj,e⟩:=List.getElem_of_mem hr
    have:=hok j (by rw [← HI.out.2.2];exact hj)
    rw [nth_eq hj,e] at this
    rw [this]
    simp
   have HE:=Lib.hid (And.intro hno hbr)
   clear hno hok hbr
   go_wp2_with fail
   go_ret
   exact ⟨-1,rfl,by rw [HE.out.1];rfl,HE.out.2⟩
theorem containsO (A:Option Addr) (n c:Nat) (l:List RawR) (w:World) (h:RRow w A n l) (hz:∀ i,i < n→(nth l i).sz≤10000000000) :
 Calls Tryz.prog 75 #[.slice A n c,.func (.func 77) #[] #[]] w fun e w'=>e=.returned (.bool (outB l))∧Below w.heap.size w w':=by
 go_enter Tryz.func75,Tryz.ntmps75
 go_wp2_with fail
 refine (indexO A n c l _ h hz).mono ?_
 rintro e w1 ⟨z,rfl,hz1,hb1⟩
 have HB:=Lib.hid (And.intro hz1 hb1)
 clear hz1 hb1 h hz
 go_wp2_with fail
 go_ret
 exact ⟨by rw [← HB.out.1];rfl,HB.out.2⟩
end Go.Proofs.YtmncjibcoffmfaaGreat
/- What may be wrong with a network, as data; model.named, walked. Conditions: the network reads, within Go's bound. -/
namespace Go.Proofs.YtmncjibcoffmfaaGreat
open Go.RowKit

def firstE (f:Nat→Int):Nat→Int
 | 0=>0
 | k + 1=>if firstE f k=0 then f k else firstE f k
theorem firstE_ok {f:Nat→Int} {k:Nat} (h:firstE f k=0) (h2:f k=0):firstE f (k + 1)=0:=by rw [firstE,if_pos h,h2]
theorem firstE_bad {f:Nat→Int} {k n:Nat} (h:firstE f k=0) (h2:f k ≠ 0) (hn:k < n):firstE f n=f k:=by
 induction n with
 | zero=>omega
 | succ n ih =>
   by_cases hk:k=n
   ·subst hk;rw [firstE,if_pos h]
   ·have:=ih (by omega);rw [firstE,if_neg (by rw [this];exact h2),this]
theorem firstE_zero {f:Nat→Int} {n:Nat} (h:firstE f n=0):∀ k,k < n→f k=0:=by
 induction n with
 | zero=>intro k hk;omega
 | succ n ih =>
   intro k hk
   rw [firstE] at h
   split at h
   ·rename_i h2
    by_cases hkn:k=n
    ·rw [hkn];exact h
    ·exact ih h2 k (by omega)
   ·rename_i h2;exact absurd h h2
def namedAt (N:NetV) (v:Nat):Int:=if dupAt N.names v || dup (nth N.values v) then 40 else if (nth N.values v).length=0 then 43 else 0
def rowsV (N:NetV) (v:Nat):Nat:=rowsC N.Z (nth N.parents v)
def rowsAt (N:NetV) (v:Nat):Int:=if 65536 < rowsV N v * nth N.Z v then 4 else if rowsV N v * nth N.Z v ≠ (nth N.tables v).length then 60 else 0
def outAt (N:NetV) (v:Nat):Int:=if outB (nth N.tables v) then 45 else 0
def wholeAt (N:NetV) (v:Nat):Int:=if wholeB (nth N.tables v) (nth N.Z v) (rowsV N v) then 0 else 46
noncomputable def checkN (N:NetV):Int:=
 if N.values.length ≠ N.names.length ∨ N.parents.length ≠ N.names.length ∨ N.tables.length ≠ N.names.length then 60
 else if 1024 < N.names.length then 4
 else if firstE (namedAt N) N.names.length ≠ 0 then firstE (namedAt N) N.names.length
 else if checkP N.parents ≠ 0 then checkP N.parents
 else if firstE (rowsAt N) N.names.length ≠ 0 then firstE (rowsAt N) N.names.length
 else if firstE (outAt N) N.names.length ≠ 0 then firstE (outAt N) N.names.length
 else firstE (wholeAt N) N.names.length
set_option maxRecDepth 100000 in
set_option maxHeartbeats 2000000 in
theorem named_net (N:NetV) (A1 A2 A3 A4:Option Addr) (c1 c2 c3 c4:Nat) (w:World) (h:NetAt w N A1 A2 A3 A4 c1 c2 c3 c4) (hB:NetB N) (hv:N.values.length=N.names.length) :
 Calls Tryz.prog 72 #[.agg (netC N A1 A2 A3 A4 c1 c2 c3 c4).toArray] w fun e w'=>e=.returned (.int .i64 (firstE (namedAt N) N.names.length))∧Below w.heap.size w w':=by
 have H:=(Held.init w).new 27 (netC N A1 A2 A3 A4 c1 c2 c3 c4)
 unfold netC at H ⊢
 obtain ⟨wq,hwq⟩:∃ wq:World,wq=w.alloc (.cells #[.string N.name,.slice A1 N.names.length c1,.slice A2 N.values.length c2,.slice A3 N.parents.length c3,.slice A4 N.tables.length c4] 27):=⟨_,rfl⟩
 rw [← hwq] at H
 have hN:=h.below (Nat.le_refl _) H.bel
 have HN:=Lib.hid (And.intro hN (And.intro hB (And.intro H.has.1 (And.intro H.bel hv))))
 have hkc:=h.k1
 have hnb:=hB.names
 have r1:=H.has.1.cell 1
 generalize hk:N.names.length=K at *
 have HK:=Lib.hid hk
 clear hN hB h H hv hk
 go_enter Tryz.func72,Tryz.ntmps72
 go_upto_region 1 with fail
 rw [← hwq]
 clear hwq
 go_wp2_with fail
 go_loopw [8] (fun i wr=>∃ k:Nat,k≤K∧i=.int .i64 (k:Nat)∧firstE (namedAt N) k=0∧Below wq.heap.size wq wr) (fun i _=>K - (intOf i).toNat)
 case atStart=>exact ⟨0,by omega,rfl,rfl,Below.refl _ _⟩
 case round =>
  obtain ⟨k,hk,rfl,hok,hbr⟩:=hrel
  obtain ⟨wo,hwo⟩:∃ wo:World,wo=wr:=⟨_,rfl⟩
  subst hwo
  have hbox:=HN.out.2.2.1.below' hbr
  have hNo:=HN.out.1.below (Nat.le_refl _) hbr
  have hw0:Below w.heap.size w wo:=HN.out.2.2.2.1.trans (hbr.mono HN.out.2.2.2.1.size)
  by_cases hkn:k < K
  ·as_aux_lemma =>
   have r1:=hbox.cell 1
   have r2:=hbox.cell 2
   have hn1:=hNo.n1
   rw [HK.out] at hn1
   obtain ⟨b1,o1,rfl,hb1,hc1⟩:=hn1.at' (by omega)
   have g1:=hc1 k hkn
   clear hc1
   have hkv:k < N.values.length:=by rw [HN.out.2.2.2.2];exact hkn
   obtain ⟨b2,o2,B2,m2,d2,rfl,hb2,g2,hrow2⟩:=hNo.n2.row hkv
   have hvl:(N.values.length:Int)=(K:Int):=by rw [HN.out.2.2.2.2]
   have htx:=HN.out.2.1.val _ (nth_mem hkv)
   have hat:namedAt N k=if (N.names.take k).contains (nth N.names k) || dup (nth N.values k) then 40 else if (nth N.values k).length=0 then 43 else 0:=rfl
   have hm2:(nth N.values k).length=m2:=hrow2.len
   rw [hm2] at hat
   have hcut:=hn1.cut (k:=k) (by omega)
   have hbad:=fun (hne:namedAt N k ≠ 0)=>firstE_bad hok hne hkn
   have HH:=Lib.hid (And.intro hat (And.intro hok (And.intro hbad (And.intro hw0 (And.intro hbr (And.intro hrow2 htx))))))
   have hmb:=hrow2.big
   have hkvI:(k:Int) < (N.values.length:Int):=by omega
   clear hat hok hbad hw0 hbr hNo hn1 hm2 hbox hrow2 htx
   go_wp2_with fail
   refine (contains_s _ k c1 _ _ _ hcut).mono ?_
   rintro e w2 ⟨rfl,hw2⟩
   subst hw2
   rcases hc:(N.names.take k).contains (nth N.names k) with _ | _
   ·have HC:=Lib.hid hc
    clear hc hcut
    go_wp2_with fail
    refine (twice_s B2 m2 d2 _ _ HH.out.2.2.2.2.2.1 HH.out.2.2.2.2.2.2.2).mono ?_
    rintro e w3 ⟨rfl,hb3⟩
    have hwo:=HH.out.2.2.2.2.1
    have hN3:=HN.out.2.2.1.below' (hwo.trans (hb3.mono hwo.size))
    have r2:=hN3.cell 2
    have g2:=bc hb3 g2 hb2
    have HB:=Lib.hid (And.intro (HH.out.2.2.2.1.trans (hb3.mono HH.out.2.2.2.1.size)) (hwo.trans (hb3.mono hwo.size)))
    clear hb3 hN3 hwo
    rcases hd:dup (nth N.values k) with _ | _
    ·have HD:=Lib.hid hd
     clear hd
     by_cases hm0:m2=0
     ·subst hm0
      have HE:=Lib.hid (show namedAt N k=43 by rw [HH.out.1,HC.out,HD.out];rfl)
      go_wp2_with fail
      go_ret
      exact ⟨by rw [HH.out.2.2.1 (by rw [HE.out];decide),HE.out];rfl,HB.out.1⟩
     ·have hm1:¬ (m2:Int)=0:=by omega
      have hm2:((m2:Int) == 0)=false:=beq_eq_false_iff_ne.2 hm1
      have HE:=Lib.hid (show namedAt N k=0 by rw [HH.out.1,HC.out,HD.out];simp [hm0])
      go_wp2_with fail
      exact ⟨⟨k + 1,by omega,by go_num,firstE_ok HH.out.2.1 HE.out,HB.out.2⟩,by simp [intOf];omega⟩
    ·have HE:=Lib.hid (show namedAt N k=40 by rw [HH.out.1,hd];simp)
     clear hd
     go_wp2_with fail
     go_ret
     exact ⟨by rw [HH.out.2.2.1 (by rw [HE.out];decide),HE.out];rfl,HB.out.1⟩
   ·have HE:=Lib.hid (show namedAt N k=40 by rw [HH.out.1,hc];simp)
    clear hc hcut
    go_wp2_with fail
    go_ret
    exact ⟨by rw [HH.out.2.2.1 (by rw [HE.out];decide),HE.out];rfl,HH.out.2.2.2.1⟩
  ·as_aux_lemma =>
   obtain rfl:K=k:=by omega
   have HE:=Lib.hid (And.intro hok hw0)
   clear hok hw0 hbr hNo
   go_wp2_with fail
   go_ret
   exact ⟨by rw [HE.out.1];rfl,HE.out.2⟩
end Go.Proofs.YtmncjibcoffmfaaGreat
/- model.Check, walked. Conditions: the network reads, within Go's bound. -/
namespace Go.Proofs.YtmncjibcoffmfaaGreat
open Go.RowKit

theorem sumTo_fit (l:List RawR):∀ i,i≤l.length→sumTo (l.map fitR) i=sumTo l i
 | 0,_=>rfl
 | i + 1,h=>by rw [sumTo,sumTo,sumTo_fit l i (by omega),nth_map _ (by omega),fitR_q]
theorem sumQ_fit (l:List RawR):sumQ (l.map fitR)=sumQ l:=by unfold sumQ;rw [List.length_map];exact sumTo_fit l _ (Nat.le_refl _)
theorem wholeB_fit (l:List RawR) (v N:Nat):wholeB (l.map fitR) v N=wholeB l v N:=by
 unfold wholeB chunkL
 simp only [← List.map_drop,← List.map_take,sumQ_fit]
theorem outB_fit (l:List RawR):outB (l.map fitR)=outB l:=by
 unfold outB
 rw [List.any_map]
 congr 1
 funext r
 simp [fitR_q]
theorem totTo_fit (l:List RawR):∀ i,i≤l.length→totTo (l.map fitR) i≤totTo l i + i
 | 0,_=>Nat.le_refl _
 | i + 1,h=>by
   have:=totTo_fit l i (by omega)
   have:=fitR_sz (nth l i)
   rw [totTo,totTo,nth_map _ (by omega)]
   omega
theorem rowsTo_pos {Z:List Nat} {ps:List Int} (h:∀ p,p ∈ ps→1≤nth Z p.toNat):∀ i,i≤ps.length→1≤rowsTo Z ps i
 | 0,_=>Nat.le_refl _
 | i + 1,hi=>by
   have h1:=rowsTo_pos h i (by omega)
   have h2:=h _ (nth_mem (xs:=ps) (j:=i) (by omega))
   rw [rowsTo]
   have h3:1≤rowsTo Z ps i * nth Z (nth ps i).toNat:=Nat.mul_pos h1 h2
   unfold rowsMany
   omega
theorem named_ok {N:NetV} (h:firstE (namedAt N) N.names.length=0) (hv:N.values.length=N.names.length):∀ i,i < N.values.length→1≤nth N.Z i:=fun i hi=>by
 have h1:=firstE_zero h i (by omega)
 unfold namedAt at h1
 rw [NetV.nth_Z hi]
 split at h1
 ·cases h1
 ·split at h1
  ·cases h1
  ·omega
theorem rowsV_pos {N:NetV} (h:firstE (namedAt N) N.names.length=0) (hv:N.values.length=N.names.length) (hp:N.parents.length=N.names.length) (hc:checkP N.parents=0) {v:Nat} (hvl:v < N.parents.length):1≤rowsV N v:=by
 have hr:=(checkP_ok hc).1
 refine rowsTo_pos (fun p hpm=>?_) _ (Nat.le_refl _)
 have:=inR_row hr hvl p hpm
 exact named_ok h hv _ (by omega)
theorem par_ok {N:NetV} (hv:N.values.length=N.names.length) (hp:N.parents.length=N.names.length) (hc:checkP N.parents=0) {v:Nat} (hvl:v < N.parents.length):∀ p,p ∈ nth N.parents v→0≤p∧p < (N.values.length:Int):=fun p hpm=>by
 have:=inR_row (checkP_ok hc).1 hvl p hpm
 omega
structure NetBox (w wo:World) (N:NetV) (A1 A2 A3 A4:Option Addr) (c1 c2 c3 c4:Nat):Prop where
 box:RowC wo w.heap.size 27 [.string N.name,.slice A1 N.names.length c1,.slice A2 N.values.length c2,.slice A3 N.parents.length c3,.slice A4 N.tables.length c4]
 net:NetAt wo N A1 A2 A3 A4 c1 c2 c3 c4
 bel:Below w.heap.size w wo
theorem NetBox.step {w wo w':World} {N:NetV} {A1 A2 A3 A4:Option Addr} {c1 c2 c3 c4:Nat} (h:NetBox w wo N A1 A2 A3 A4 c1 c2 c3 c4) (hb:Below wo.heap.size wo w'):NetBox w w' N A1 A2 A3 A4 c1 c2 c3 c4:=
 ⟨h.box.below' hb,h.net.below (Nat.le_refl _) hb,h.bel.trans (hb.mono h.bel.size)⟩
theorem NetBox.cells {w wo:World} {N:NetV} {A1 A2 A3 A4:Option Addr} {c1 c2 c3 c4:Nat} (h:NetBox w wo N A1 A2 A3 A4 c1 c2 c3 c4) :
 wo.cell? ⟨w.heap.size,0,none⟩=some (.string N.name)∧wo.cell? ⟨w.heap.size,1,none⟩=some (.slice A1 N.names.length c1)∧wo.cell? ⟨w.heap.size,2,none⟩=some (.slice A2 N.values.length c2)∧wo.cell? ⟨w.heap.size,3,none⟩=some (.slice A3 N.parents.length c3)∧wo.cell? ⟨w.heap.size,4,none⟩=some (.slice A4 N.tables.length c4):=
 ⟨h.box.cell 0,h.box.cell 1,h.box.cell 2,h.box.cell 3,h.box.cell 4⟩
structure NetBoxK (w wo:World) (N:NetV) (K:Nat) (A1 A2 A3 A4:Option Addr) (c1 c2 c3 c4:Nat):Prop where
 box:RowC wo w.heap.size 27 [.string N.name,.slice A1 K c1,.slice A2 K c2,.slice A3 K c3,.slice A4 K c4]
 net:NetAt wo N A1 A2 A3 A4 c1 c2 c3 c4
 bel:Below w.heap.size w wo
theorem NetBoxK.step {w wo w':World} {N:NetV} {K:Nat} {A1 A2 A3 A4:Option Addr} {c1 c2 c3 c4:Nat} (h:NetBoxK w wo N K A1 A2 A3 A4 c1 c2 c3 c4) (hb:Below wo.heap.size wo w'):NetBoxK w w' N K A1 A2 A3 A4 c1 c2 c3 c4:=
 ⟨h.box.below' hb,h.net.below (Nat.le_refl _) hb,h.bel.trans (hb.mono h.bel.size)⟩
theorem NetBoxK.cells {w wo:World} {N:NetV} {K:Nat} {A1 A2 A3 A4:Option Addr} {c1 c2 c3 c4:Nat} (h:NetBoxK w wo N K A1 A2 A3 A4 c1 c2 c3 c4) :
 wo.cell? ⟨w.heap.size,0,none⟩=some (.string N.name)∧wo.cell? ⟨w.heap.size,1,none⟩=some (.slice A1 K c1)∧wo.cell? ⟨w.heap.size,2,none⟩=some (.slice A2 K c2)∧wo.cell? ⟨w.heap.size,3,none⟩=some (.slice A3 K c3)∧wo.cell? ⟨w.heap.size,4,none⟩=some (.slice A4 K c4):=
 ⟨h.box.cell 0,h.box.cell 1,h.box.cell 2,h.box.cell 3,h.box.cell 4⟩
theorem NetBox.K {w wo:World} {N:NetV} {A1 A2 A3 A4:Option Addr} {c1 c2 c3 c4 K:Nat} (h:NetBox w wo N A1 A2 A3 A4 c1 c2 c3 c4) (h1:N.names.length=K) (h2:N.values.length=K) (h3:N.parents.length=K) (h4:N.tables.length=K):NetBoxK w wo N K A1 A2 A3 A4 c1 c2 c3 c4:=
 ⟨by have:=h.box;rw [h1,h2,h3,h4] at this;exact this,h.net,h.bel⟩
set_option maxRecDepth 100000 in
set_option maxHeartbeats 4000000 in
theorem check_model (N:NetV) (A1 A2 A3 A4:Option Addr) (c1 c2 c3 c4:Nat) (w:World) (h:NetAt w N A1 A2 A3 A4 c1 c2 c3 c4) (hB:NetB N) :
 Calls Tryz.prog 41 #[.agg (netC N A1 A2 A3 A4 c1 c2 c3 c4).toArray] w fun e w'=>e=.returned (.int .i64 (checkN N))∧Below w.heap.size w w':=by
 have H:=(Held.init w).new 27 (netC N A1 A2 A3 A4 c1 c2 c3 c4)
 unfold netC at H ⊢
 obtain ⟨wq,hwq⟩:∃ wq:World,wq=w.alloc (.cells #[.string N.name,.slice A1 N.names.length c1,.slice A2 N.values.length c2,.slice A3 N.parents.length c3,.slice A4 N.tables.length c4] 27):=⟨_,rfl⟩
 rw [← hwq] at H
 have HX:NetBox w wq N A1 A2 A3 A4 c1 c2 c3 c4:=⟨H.has.1,h.below (Nat.le_refl _) H.bel,H.bel⟩
 have HB:=Lib.hid hB
 have hc:checkN N=if N.values.length ≠ N.names.length ∨ N.parents.length ≠ N.names.length ∨ N.tables.length ≠ N.names.length then 60
  else if 1024 < N.names.length then 4
  else if firstE (namedAt N) N.names.length ≠ 0 then firstE (namedAt N) N.names.length
  else if checkP N.parents ≠ 0 then checkP N.parents
  else if firstE (rowsAt N) N.names.length ≠ 0 then firstE (rowsAt N) N.names.length
  else if firstE (outAt N) N.names.length ≠ 0 then firstE (outAt N) N.names.length
  else firstE (wholeAt N) N.names.length:=rfl
 obtain ⟨E,hE⟩:∃ E,E=checkN N:=⟨_,rfl⟩
 rw [← hE] at hc ⊢
 have HC:=Lib.hid hc
 have HX0:=Lib.hid HX
 clear hE hc h H hB
 obtain ⟨r0,r1,r2,r3,r4⟩:=HX.cells
 clear HX
 go_enter Tryz.func41,Tryz.ntmps41
 go_upto_region 1 with fail
 rw [← hwq]
 clear hwq
 by_cases hv:N.values.length=N.names.length
 rotate_left
 ·as_aux_lemma =>
  have HE:=Lib.hid (show E=60 by rw [HC.out,if_pos (.inl hv)])
  have d1:((N.values.length:Int) == (N.names.length:Int))=false:=beq_eq_false_iff_ne.2 (by omega)
  have d2:¬ N.values.length=N.names.length:=hv
  clear hv
  go_wp2_with fail
  go_ret
  exact ⟨by rw [HE.out];rfl,HX0.out.bel⟩
 by_cases hp:N.parents.length=N.names.length
 rotate_left
 ·as_aux_lemma =>
  have HE:=Lib.hid (show E=60 by rw [HC.out,if_pos (.inr (.inl hp))])
  have d1:((N.parents.length:Int) == (N.names.length:Int))=false:=beq_eq_false_iff_ne.2 (by omega)
  have d0:(N.values.length:Int)=(N.names.length:Int):=by omega
  clear hv hp
  go_wp2_with fail
  go_ret
  exact ⟨by rw [HE.out];rfl,HX0.out.bel⟩
 by_cases ht:N.tables.length=N.names.length
 rotate_left
 ·as_aux_lemma =>
  have HE:=Lib.hid (show E=60 by rw [HC.out,if_pos (.inr (.inr ht))])
  have d1:((N.tables.length:Int) == (N.names.length:Int))=false:=beq_eq_false_iff_ne.2 (by omega)
  have d0:(N.values.length:Int)=(N.names.length:Int):=by omega
  have d2:(N.parents.length:Int)=(N.names.length:Int):=by omega
  clear hv hp ht
  go_wp2_with fail
  go_ret
  exact ⟨by rw [HE.out];rfl,HX0.out.bel⟩
 have HL:=Lib.hid (And.intro hv (And.intro hp ht))
 have hsh:¬ (N.values.length ≠ N.names.length ∨ N.parents.length ≠ N.names.length ∨ N.tables.length ≠ N.names.length):=by omega
 have hc2:=HC.out
 rw [if_neg hsh] at hc2
 have HC2:=Lib.hid hc2
 clear hc2 hsh HC
 rw [hv] at r2
 rw [hp] at r3
 rw [ht] at r4
 rw [hv,hp,ht]
 have hbigs:=HX0.out.net.n1.big
 generalize hK:N.names.length=K at *
 have HK:=Lib.hid hK
 clear hv hp ht hK
 by_cases hm:1024 < K
 ·as_aux_lemma =>
  have HE:=Lib.hid (show E=4 by rw [HC2.out,if_pos hm])
  have d1:(1024:Int) < (K:Int):=by omega
  go_wp2_with fail
  go_ret
  exact ⟨by rw [HE.out];rfl,HX0.out.bel⟩
 have hc2:=HC2.out
 rw [if_neg hm] at hc2
 have HC3:=Lib.hid hc2
 clear hc2 HC2
 have d1:¬ (1024:Int) < (K:Int):=by omega
 have hnamed:=named_net N A1 A2 A3 A4 c1 c2 c3 c4 wq HX0.out.net HB.out (by rw [HL.out.1,HK.out])
 unfold netC at hnamed
 rw [HL.out.1,HL.out.2.1,HL.out.2.2,HK.out] at hnamed
 have HNM:=Lib.hid hnamed
 clear hnamed
 go_wp2_with fail
 refine HNM.out.mono ?_
 rintro e w1 ⟨rfl,hb1⟩
 have HY:=(HX0.out.K HK.out HL.out.1 HL.out.2.1 HL.out.2.2).step hb1
 clear hb1 r0 r1 r2 r3 r4
 obtain ⟨r0,r1,r2,r3,r4⟩:=HY.cells
 have HY1:=Lib.hid HY
 clear HY
 by_cases hnm:firstE (namedAt N) K=0
 rotate_left
 ·as_aux_lemma =>
  have HE:=Lib.hid (show E=firstE (namedAt N) K by rw [HC3.out,if_pos hnm])
  generalize firstE (namedAt N) K=F at *
  have d2:(F == 0)=false:=beq_eq_false_iff_ne.2 hnm
  go_wp2_with fail
  go_ret
  exact ⟨by rw [HE.out];rfl,HY1.out.bel⟩
 have hc2:=HC3.out
 rw [if_neg (by rw [hnm];decide)] at hc2
 have HC4:=Lib.hid (And.intro hc2 hnm)
 rw [hnm]
 clear hc2 hnm HC3
 have hn3:=HY1.out.net.n3
 rw [HL.out.2.1] at hn3
 go_wp2_with fail
 refine (check_dag A3 K c3 N.parents _ hn3 (by omega)).mono ?_
 rintro e w2 ⟨rfl,hb2⟩
 have HY:=HY1.out.step hb2
 clear hb2 r0 r1 r2 r3 r4 hn3
 obtain ⟨r0,r1,r2,r3,r4⟩:=HY.cells
 have HY2:=Lib.hid HY
 clear HY
 by_cases hcp:checkP N.parents=0
 rotate_left
 ·as_aux_lemma =>
  have HE:=Lib.hid (show E=checkP N.parents by rw [HC4.out.1,if_pos hcp])
  generalize checkP N.parents=F at *
  have d2:(F == 0)=false:=beq_eq_false_iff_ne.2 hcp
  go_wp2_with fail
  go_ret
  exact ⟨by rw [HE.out];rfl,HY2.out.bel⟩
 have hc2:=HC4.out.1
 rw [if_neg (by rw [hcp];decide)] at hc2
 have HC5:=Lib.hid (And.intro hc2 (And.intro HC4.out.2 hcp))
 rw [hcp]
 clear hc2 hcp HC4
 go_wp2_with fail
 go_loopw [51] (fun i wr=>∃ k:Nat,k≤K∧i=.int .i64 (k:Nat)∧firstE (rowsAt N) k=0∧NetBoxK w wr N K A1 A2 A3 A4 c1 c2 c3 c4) (fun i _=>K - (intOf i).toNat)
 case atStart=>exact ⟨0,by omega,rfl,rfl,HY2.out⟩
 case round =>
  obtain ⟨k,hk,rfl,hok,HYr⟩:=hrel
  obtain ⟨wo,hwo⟩:∃ wo:World,wo=wr:=⟨_,rfl⟩
  subst hwo
  by_cases hkn:k < K
  ·as_aux_lemma =>
   obtain ⟨b4,o4,B4,m4,d4,rfl,hb4,g4,hrow4,_⟩:=HYr.net.n4.row (i:=k) (by rw [HL.out.2.2];exact hkn)
   obtain ⟨b2,o2,B2,m2,d2,rfl,hb2,g2,hrow2⟩:=HYr.net.n2.row (i:=k) (by rw [HL.out.1];exact hkn)
   obtain ⟨r0,r1,r2,r3,r4⟩:=HYr.cells
   have hm4:=hrow4.len
   have hm4b:=(HB.out.tab _ (nth_mem (xs:=N.tables) (j:=k) (by rw [HL.out.2.2];exact hkn))).1
   rw [hm4] at hm4b
   have hzk:nth N.Z k=m2:=by rw [NetV.nth_Z (by rw [HL.out.1];exact hkn)];exact hrow2.len
   have hzb:=HB.out.z k
   rw [hzk] at hzb
   have hat:rowsAt N k=if 65536 < rowsV N k * m2 then 4 else if rowsV N k * m2 ≠ m4 then 60 else 0:=by unfold rowsAt;rw [hzk,hm4]
   have hrle:rowsV N k≤1099511627776:=rowsTo_le _ _ _
   have hrows:=fun (w':World) (hn:NetAt w' N A1 (some ⟨b2,o2,none⟩) A3 (some ⟨b4,o4,none⟩) c1 c2 c3 c4)=>rows_net N A1 _ A3 _ c1 c2 c3 c4 k w' hn HB.out (by rw [HL.out.2.1];exact hkn) (par_ok (by rw [HL.out.1,HK.out]) (by rw [HL.out.2.1,HK.out]) HC5.out.2.2 (by rw [HL.out.2.1];exact hkn))
   unfold netC at hrows
   rw [HL.out.1,HL.out.2.1,HL.out.2.2,HK.out,show rowsC N.Z (nth N.parents k)=rowsV N k from rfl] at hrows
   have HR:=Lib.hid hrows
   obtain ⟨r,hr⟩:∃ r,r=rowsV N k:=⟨_,rfl⟩
   rw [← hr] at hat hrle hrows
   have hmul:r * m2≤1099511627776 * 1048576:=Nat.mul_le_mul hrle hzb
   obtain ⟨rm,hrm⟩:∃ rm,rm=r * m2:=⟨_,rfl⟩
   rw [← hrm] at hat hmul
   have e1:(r:Int) * (m2:Int)=(rm:Int):=by rw [hrm];exact (Int.natCast_mul _ _).symm
   have hbad:=fun (hne:rowsAt N k ≠ 0)=>firstE_bad hok hne hkn
   have HRR:=Lib.hid hrows
   have HH:=Lib.hid (And.intro hat (And.intro hok (And.intro hbad HYr)))
   have hm2b:=hrow2.big
   clear hrows hat hok hbad hrow2 hrow4 hm4 hzk hrm HR hr
   go_upto_region 15 with fail
   have HG:=(HH.out.2.2.2.step (below_drewN (Below.refl _ _) 1):NetBoxK w wo.drew N K A1 (some ⟨b2,o2,none⟩) A3 (some ⟨b4,o4,none⟩) c1 c2 c3 c4)
   go_region_held3 (fun w'=>w'.cell? ⟨w.heap.size,0,none⟩=some (.string N.name)∧w'.cell? ⟨w.heap.size,1,none⟩=some (.slice A1 K c1)∧w'.cell? ⟨w.heap.size,2,none⟩=some (.slice (some ⟨b2,o2,none⟩) K c2)∧w'.cell? ⟨w.heap.size,3,none⟩=some (.slice A3 K c3)∧w'.cell? ⟨w.heap.size,4,none⟩=some (.slice (some ⟨b4,o4,none⟩) K c4)∧w'.cell? ⟨b2,o2 + k,none⟩=some (.slice B2 m2 d2))
    (first | exact ⟨r0,r1,r2,r3,r4,g2⟩ | assumption | go_keep)
    (first | ((go_at_call 74);(refine (HRR.out _ HG.net).mono ?_);(rintro e w9 ⟨rfl,hb9⟩);(have HG:=HG.step hb9);(have g2:=bc hb9 g2 hb2);(have g4:=bc hb9 g4 hb4);(clear hb9);(obtain ⟨r0,r1,r2,r3,r4⟩:=HG.cells)))
   by_cases hbig:65536 < rm
   ·have HE:=Lib.hid (show rowsAt N k=4 by rw [HH.out.1,if_pos hbig])
    have d2:(65536:Int) < (rm:Int):=by omega
    have HE2:=Lib.hid (show E=4 by rw [HC5.out.1,HH.out.2.2.1 (by rw [HE.out];decide),HE.out];rfl)
    go_wp2_with fail
    go_ret
    exact ⟨by rw [HE2.out];rfl,HG.bel⟩
   ·have d2:¬ (65536:Int) < (rm:Int):=by omega
    by_cases hne:rm=m4
    ·subst hne
     have HE:=Lib.hid (show rowsAt N k=0 by rw [HH.out.1,if_neg hbig];simp)
     go_wp2_with fail
     exact ⟨⟨k + 1,by omega,by go_num,firstE_ok HH.out.2.1 HE.out,HG⟩,by simp [intOf];omega⟩
    ·have HE:=Lib.hid (show rowsAt N k=60 by rw [HH.out.1,if_neg hbig,if_pos hne])
     have d3:¬ (rm:Int)=(m4:Int):=by omega
     have d4:((rm:Int) == (m4:Int))=false:=beq_eq_false_iff_ne.2 d3
     have HE2:=Lib.hid (show E=60 by rw [HC5.out.1,HH.out.2.2.1 (by rw [HE.out];decide),HE.out];rfl)
     go_wp2_with fail
     go_ret
     exact ⟨by rw [HE2.out];rfl,HG.bel⟩
  ·obtain rfl:K=k:=by omega
   obtain ⟨r0,r1,r2,r3,r4⟩:=HYr.cells
   have hc2:=HC5.out.1
   rw [hok] at hc2
   rw [if_neg (by decide)] at hc2
   have HC6:=Lib.hid (And.intro hc2 hok)
   have HY3:=Lib.hid HYr
   clear hc2 hok HYr hk hkn
   go_wp2_with fail
   go_loopw [76] (fun i wx=>∃ k:Nat,k≤K∧i=.int .i64 (k:Nat)∧firstE (outAt N) k=0∧NetBoxK w wx N K A1 A2 A3 A4 c1 c2 c3 c4) (fun i _=>K - (intOf i).toNat)
   case atStart=>exact ⟨0,by omega,rfl,rfl,HY3.out⟩
   case round =>
    obtain ⟨k,hk,rfl,hok,HYr⟩:=hrel
    obtain ⟨wo,hwo⟩:∃ wo:World,wo=wr:=⟨_,rfl⟩
    subst hwo
    by_cases hkn:k < K
    ·as_aux_lemma =>
     obtain ⟨b4,o4,B4,m4,d4,rfl,hb4,g4,hrow4,_⟩:=HYr.net.n4.row (i:=k) (by rw [HL.out.2.2];exact hkn)
     obtain ⟨r0,r1,r2,r3,r4⟩:=HYr.cells
     have hm4:=hrow4.len
     have hm4b:=HB.out.tab _ (nth_mem (xs:=N.tables) (j:=k) (by rw [HL.out.2.2];exact hkn))
     rw [hm4] at hm4b
     have hsz:∀ i,i < m4→(nth (nth N.tables k) i).sz≤10000000000:=fun i hi=>by have:=totTo_at (nth N.tables k) hi;omega
     have hszf:∀ i,i < m4→(nth ((nth N.tables k).map fitR) i).sz≤10000000000:=fun i hi=>by
      have:=totTo_at (nth N.tables k) hi
      have:=fitR_sz (nth (nth N.tables k) i)
      rw [nth_map _ (by omega)]
      omega
     have hbad:=fun (hne:outAt N k ≠ 0)=>firstE_bad hok hne hkn
     have HH:=Lib.hid (And.intro hok (And.intro hbad (And.intro HYr (And.intro hszf hm4b))))
     have hm4c:=hm4b.1
     clear hok hbad hm4 hm4b HYr
     go_wp2_with fail
     refine (fittings_any B4 m4 d4 _ _ hrow4 hm4c hsz).mono ?_
     rintro e w5 ⟨R,dR,rfl,hrow5,_,hb5⟩
     have HG:=HH.out.2.2.1.step hb5
     clear hb5 r0 r1 r2 r3 r4 hsz
     go_wp2_with fail
     refine (containsO R m4 dR _ _ hrow5 HH.out.2.2.2.1).mono ?_
     rintro e w6 ⟨rfl,hb6⟩
     rw [outB_fit]
     have HG:=HG.step hb6
     clear hb6 hrow5
     obtain ⟨r0,r1,r2,r3,r4⟩:=HG.cells
     rcases ho:outB (nth N.tables k) with _ | _
     ·have HE:=Lib.hid (show outAt N k=0 by unfold outAt;rw [ho];rfl)
      clear ho
      go_wp2_with fail
      exact ⟨⟨k + 1,by omega,by go_num,firstE_ok HH.out.1 HE.out,HG⟩,by simp [intOf];omega⟩
     ·have HE:=Lib.hid (show outAt N k=45 by unfold outAt;rw [ho];rfl)
      have HE2:=Lib.hid (show E=45 by rw [HC6.out.1,HH.out.2.1 (by rw [HE.out];decide),HE.out];rfl)
      clear ho
      go_wp2_with fail
      go_ret
      exact ⟨by rw [HE2.out];rfl,HG.bel⟩
    ·obtain rfl:K=k:=by omega
     obtain ⟨r0,r1,r2,r3,r4⟩:=HYr.cells
     have hc2:=HC6.out.1
     rw [hok] at hc2
     rw [if_neg (by decide)] at hc2
     have HC7:=Lib.hid (And.intro hc2 HC6.out.2)
     have HY4:=Lib.hid HYr
     clear hc2 hok HYr hk hkn
     go_wp2_with fail
     go_loopw [87] (fun i wy=>∃ k:Nat,k≤K∧i=.int .i64 (k:Nat)∧firstE (wholeAt N) k=0∧NetBoxK w wy N K A1 A2 A3 A4 c1 c2 c3 c4) (fun i _=>K - (intOf i).toNat)
     case atStart=>exact ⟨0,by omega,rfl,rfl,HY4.out⟩
     case round =>
      obtain ⟨k,hk,rfl,hok,HYr⟩:=hrel
      obtain ⟨wo,hwo⟩:∃ wo:World,wo=wr:=⟨_,rfl⟩
      subst hwo
      by_cases hkn:k < K
      ·as_aux_lemma =>
       obtain ⟨b4,o4,B4,m4,d4,rfl,hb4,g4,hrow4,_⟩:=HYr.net.n4.row (i:=k) (by rw [HL.out.2.2];exact hkn)
       obtain ⟨b2,o2,B2,m2,d2,rfl,hb2,g2,hrow2⟩:=HYr.net.n2.row (i:=k) (by rw [HL.out.1];exact hkn)
       obtain ⟨r0,r1,r2,r3,r4⟩:=HYr.cells
       have hm4:=hrow4.len
       have hm4b:=HB.out.tab _ (nth_mem (xs:=N.tables) (j:=k) (by rw [HL.out.2.2];exact hkn))
       rw [hm4] at hm4b
       have hzk:nth N.Z k=m2:=by rw [NetV.nth_Z (by rw [HL.out.1];exact hkn)];exact hrow2.len
       have hv1:1≤m2:=by rw [← hzk];exact named_ok (by rw [HK.out];exact HC5.out.2.1) (by rw [HL.out.1,HK.out]) k (by rw [HL.out.1];exact hkn)
       have hN1:1≤rowsV N k:=rowsV_pos (by rw [HK.out];exact HC5.out.2.1) (by rw [HL.out.1,HK.out]) (by rw [HL.out.2.1,HK.out]) HC5.out.2.2 (by rw [HL.out.2.1];exact hkn)
       have hmm:m4=rowsV N k * m2:=by
        have h1:=firstE_zero HC6.out.2 k hkn
        unfold rowsAt at h1
        rw [hzk,hm4] at h1
        split at h1
        ·cases h1
        ·split at h1
         ·cases h1
         ·rename_i h2;omega
       have hsz:∀ i,i < m4→(nth (nth N.tables k) i).sz≤10000000000:=fun i hi=>by have:=totTo_at (nth N.tables k) hi;omega
       have htf:totTo ((nth N.tables k).map fitR) m4≤100000000:=by have:=totTo_fit (nth N.tables k) m4 (by omega);omega
       have hm4p:0 < m4:=by rw [hmm];exact Nat.mul_pos hN1 hv1
       have hbad:=fun (hne:wholeAt N k ≠ 0)=>firstE_bad hok hne hkn
       have hwa:wholeAt N k=if wholeB (nth N.tables k) m2 (rowsV N k) then 0 else 46:=by unfold wholeAt;rw [hzk]
       have hm4c:=hm4b.1
       have hm2b:=hrow2.big
       have HH:=Lib.hid (And.intro hok (And.intro hbad (And.intro HYr (And.intro hwa (And.intro hmm (And.intro hrow4 htf))))))
       clear hok hbad hm4 hm4b hzk hwa hmm hN1 hrow2 htf
       go_upto_region 30 with fail
       have HG:=(HH.out.2.2.1.step (below_drewN (Below.refl _ _) 1):NetBoxK w wo.drew N K A1 (some ⟨b2,o2,none⟩) A3 (some ⟨b4,o4,none⟩) c1 c2 c3 c4)
       go_region_held3 (fun w'=>w'.cell? ⟨w.heap.size,0,none⟩=some (.string N.name)∧w'.cell? ⟨w.heap.size,1,none⟩=some (.slice A1 K c1)∧w'.cell? ⟨w.heap.size,2,none⟩=some (.slice (some ⟨b2,o2,none⟩) K c2)∧w'.cell? ⟨w.heap.size,3,none⟩=some (.slice A3 K c3)∧w'.cell? ⟨w.heap.size,4,none⟩=some (.slice (some ⟨b4,o4,none⟩) K c4)∧w'.cell? ⟨b2,o2 + k,none⟩=some (.slice B2 m2 d2))
        (first | exact ⟨r0,r1,r2,r3,r4,g2⟩ | assumption | go_keep)
        (first
          | ((go_at_call 76);(refine (fittings_any B4 m4 d4 _ _ (hrow4.below (Nat.le_refl _) (below_drewN (Below.refl _ _) 1)) hm4c hsz).mono ?_);(rintro e w5 ⟨R,dR,rfl,hrow5,hcap5,hb9⟩);(have HG:=HG.step hb9);(have hsz5:wo.heap.size≤w5.heap.size:=hb9.size);(have g2:=bc hb9 g2 hb2);(clear hb9);(obtain ⟨r0,r1,r2,r3,r4⟩:=HG.cells);(obtain ⟨b5,o5,_,rfl,_⟩:=hrow5.at hm4p))
          | ((go_at_call 78);(refine (whole_any b5 o5 dR m4 _ m2 (rowsV N k) _ hrow5 hcap5 HH.out.2.2.2.2.1 hv1 hm4c HH.out.2.2.2.2.2.2).mono ?_);(rintro e w6 ⟨rfl,hb9⟩);(rw [wholeB_fit]);(have HG:=HG.step hb9);(have g2:=bc hb9 g2 (Nat.lt_of_lt_of_le hb2 hsz5));(clear hb9);(obtain ⟨r0,r1,r2,r3,r4⟩:=HG.cells)))
       rcases ho:wholeB (nth N.tables k) m2 (rowsV N k) with _ | _
       ·have HE:=Lib.hid (show wholeAt N k=46 by rw [HH.out.2.2.2.1,ho];rfl)
        have HE2:=Lib.hid (show E=46 by rw [HC7.out.1,HH.out.2.1 (by rw [HE.out];decide),HE.out])
        clear ho
        go_wp2_with fail
        go_ret
        exact ⟨by rw [HE2.out];rfl,HG.bel⟩
       ·have HE:=Lib.hid (show wholeAt N k=0 by rw [HH.out.2.2.2.1,ho];rfl)
        clear ho
        go_wp2_with fail
        exact ⟨⟨k + 1,by omega,by go_num,firstE_ok HH.out.1 HE.out,HG⟩,by simp [intOf];omega⟩
      ·as_aux_lemma =>
       obtain rfl:K=k:=by omega
       have HE:=Lib.hid (show E=0 by rw [HC7.out.1,hok])
       go_wp2_with fail
       go_ret
       exact ⟨by rw [HE.out];rfl,HYr.bel⟩
end Go.Proofs.YtmncjibcoffmfaaGreat
