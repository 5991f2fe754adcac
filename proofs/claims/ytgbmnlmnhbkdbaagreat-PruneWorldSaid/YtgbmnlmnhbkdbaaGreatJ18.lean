/- Joined by program out of: Goes, Flow. What each says stands at its own head. -/
import Derived.Test.YtgbmnlmnhbkdbaaGreatNext
set_option linter.unusedVariables false
set_option linter.unusedSimpArgs false
/- sep's view.reach: its closure, walked: a state that was not seen is put in. Conditions: the captured variables are the call's own. -/
namespace Go.Proofs.YtgbmnlmnhbkdbaaGreat
open Go.RowKit

def cellsS:List St→List Value
 | []=>[]
 | s :: r=>.int .i64 (s.1:Int) :: .bool s.2 :: cellsS r
theorem cellsS_length:∀ l:List St,(cellsS l).length=l.length * 2
 | []=>rfl
 | s :: r=>by simp [cellsS,cellsS_length r];omega
theorem cellsS_append:∀ l m:List St,cellsS (l ++ m)=cellsS l ++ cellsS m
 | [],_=>rfl
 | s :: r,m=>by simp [cellsS,cellsS_append r m]
open Classical in
noncomputable def seenS (S:List St):St→Option Int:=fun s=>if s ∈ S then some 1 else none
theorem seenS_in {S:List St} {s:St} (h:s ∈ S):seenS S s=some 1:=by unfold seenS;rw [if_pos h]
theorem seenS_out {S:List St} {s:St} (h:s ∉ S):seenS S s=none:=by unfold seenS;rw [if_neg h]
theorem seenS_snoc (S:List St) (s t:St):putS (seenS S) s 1 t=seenS (S ++ [s]) t:=by
 unfold putS seenS
 by_cases h:t=s
 ·subst h;rw [if_pos rfl,if_pos (by simp)]
 ·rw [if_neg h]
  by_cases h2:t ∈ S
  ·rw [if_pos h2,if_pos (by simp [h2])]
  ·rw [if_neg h2,if_neg (by simp [h,h2])]
def add1 (S:List St) (s:St):List St:=if s ∈ S then S else S ++ [s]
def addS (S:List St) (l:List St):List St:=l.foldl add1 S
theorem addS_snoc (S l:List St) (s:St):addS S (l ++ [s])=add1 (addS S l) s:=by simp [addS]
theorem mem_add1 {S:List St} {s t:St}:t ∈ add1 S s ↔ t ∈ S ∨ t=s:=by
 unfold add1
 split
 ·constructor
  ·exact .inl
  ·rintro (h | rfl)
   ·exact h
   ·assumption
 ·simp
theorem add1_prefix (S:List St) (s:St):∃ m,add1 S s=S ++ m:=by
 unfold add1
 split
 ·exact ⟨[],by simp⟩
 ·exact ⟨[s],rfl⟩
def codeS (s:St):Nat:=2 * s.1 + (if s.2 then 1 else 0)
theorem codeS_inj {s t:St} (h:codeS s=codeS t):s=t:=by
 obtain ⟨p,u⟩:=s
 obtain ⟨q,v⟩:=t
 unfold codeS at h
 cases u <;> cases v <;> simp at h <;> first | omega | (congr 1;omega) | (exfalso;omega)
theorem states_length {S:List St} (h:S.Nodup) {n:Nat} (hl:∀ s,s ∈ S→s.1 < n):S.length≤2 * n:=by
 have h1:(S.map codeS).Nodup:=by
  rw [List.nodup_iff_pairwise_ne,List.pairwise_map]
  exact (List.nodup_iff_pairwise_ne.1 h).imp fun hne e=>hne (codeS_inj e)
 have:=nodup_lt_length h1 (n:=2 * n) (fun x hx=>by
  obtain ⟨s,hs,rfl⟩:=List.mem_map.1 hx
  have:=hl s hs
  unfold codeS
  split <;> omega)
 rw [List.length_map] at this
 exact this

theorem MapS.turn {k e:TypeId} {w w':World} {b n:Nat} {g:St→Option Int} {T:Nat→Prop} (h:MapS k e w b n g) (ht:Turn w w' T) (hT:¬ T b):MapS k e w' b n g:=by
 have hlt:=h.lt
 obtain ⟨D,⟨es,clock,hb,F⟩,q⟩:=h
 exact ⟨D,⟨es,clock,(ht.block b hlt hT).trans hb,F⟩,q⟩
theorem below_turn {B:Nat} {a b c:World} {T:Nat→Prop} (h:Below B a b) (ht:Turn b c T) (hB:B≤b.heap.size) (hT:∀ x,x < B→¬ T x):Below B a c:=h.trans (ht.below hB hT)
structure VisS (B n:Nat) (K:Nat→Prop) (mb sb ob:Nat) (A:Option Addr) (k c:Nat) (S:List St) (pos:Nat) (w:World):Prop where
 map:MapS 97 3 w mb S.length (seenS S)
 sc:RowC w sb 94 [.map (some mb)]
 oc:RowC w ob 113 [.slice A k c]
 oo:OwnQ w (ob + 1) 97 2 A k c (cellsS (S.drop pos))
 nd:S.Nodup
 bnd:∀ s,s ∈ S→s.1 < n
 pos_le:pos≤S.length
 lt0:B≤mb
 lt1:mb < sb
 lt2:sb < ob
 far:∀ b,K b→b < w.heap.size∧b ≠ mb∧b ≠ ob∧∀ off,A ≠ some ⟨b,off,none⟩
section
variable {B n:Nat} {K K':Nat→Prop} {mb sb ob k c pos:Nat} {A:Option Addr} {S:List St} {w w':World}
theorem VisS.row (h:VisS B n K mb sb ob A k c S pos w) {b off:Nat} (e:A=some ⟨b,off,none⟩):ob < b∧b < w.heap.size:=by
 rcases h.oo.at_row with h1 | ⟨g',off',h1,h2,h3⟩
 ·rw [e] at h1;cases h1
 ·rw [e] at h1;injection h1 with h1;injection h1 with h1;omega
theorem VisS.step (h:VisS B n K mb sb ob A k c S pos w) (hb:Below w.heap.size w w'):VisS B n (fun b=>K b ∨ (w.heap.size≤b∧b < w'.heap.size)) mb sb ob A k c S pos w':=by
 have h1:=h.map.lt
 have h2:=h.oc.lt
 refine ⟨h.map.below hb,h.sc.below' hb,h.oc.below' hb,h.oo.below hb,h.nd,h.bnd,h.pos_le,h.lt0,h.lt1,h.lt2,fun b hk=>?_⟩
 rcases hk with hk | hk
 ·obtain ⟨f1,f2⟩:=h.far b hk
  exact ⟨Nat.lt_of_lt_of_le f1 hb.size,f2⟩
 ·exact ⟨hk.2,by omega,by omega,fun off e=>by have:=(h.row e).2;omega⟩
theorem VisS.weak (h:VisS B n K mb sb ob A k c S pos w) (hk:∀ b,K' b→K b):VisS B n K' mb sb ob A k c S pos w:=
 ⟨h.map,h.sc,h.oc,h.oo,h.nd,h.bnd,h.pos_le,h.lt0,h.lt1,h.lt2,fun b hb=>h.far b (hk b hb)⟩
theorem VisS.k_eq (h:VisS B n K mb sb ob A k c S pos w):k=S.length - pos:=by
 have:=h.oo.len
 rw [cellsS_length,List.length_drop] at this
 omega
theorem VisS.size_le (h:VisS B n K mb sb ob A k c S pos w):S.length≤2 * n:=states_length h.nd h.bnd
end
theorem infoState:∃ i:TypeInfo,Tryz.prog.underlying 113=some (.slice 97)∧Tryz.prog.info? 97=some i∧i.zero=some (.agg #[.int .i64 0,.bool false])∧i.size=2∧i.bytes=16:=by
 obtain ⟨i0,hi,hz0,hz1,hz2⟩:=info_parts (show (Tryz.prog.info? 97).map (fun i=>(i.zero,i.size,i.bytes))=some (some (.agg #[.int .i64 0,.bool false]),2,16) from by kernel_rfl)
 exact ⟨i0,Tryz.underlying113,hi,hz0,hz1,hz2⟩
theorem cells_new (w:World) (vs:List Value) (e:TypeId) (j:Nat) (u:Value) (h:vs[j]?=some u):(w.alloc (.cells vs.toArray e)).cell? ((⟨w.heap.size,0,none⟩:Addr).add j)=some u:=by
 rw [Addr.add_lit,Nat.zero_add,(RowC.new w e vs).cell j];exact h
def GoesPost (B n:Nat) (K:Nat→Prop) (mb sb ob:Nat) (S:List St) (pos:Nat) (s:St) (w:World) (e:Ending) (w':World):Prop:=
 e=.returned (.tuple #[])∧(∃ A k c,VisS B n K mb sb ob A k c (add1 S s) pos w')∧Below B w w'∧∀ b,K b→w'.heap[b]?=w.heap[b]?

set_option maxRecDepth 100000 in
set_option maxHeartbeats 1600000 in
theorem goes_any (B n:Nat) (K:Nat→Prop) (mb sb ob:Nat) (A:Option Addr) (k c:Nat) (S:List St) (pos:Nat) (s:St) (w:World) (hn:n * 64≤140737488351232) (hs:s.1 < n) (h:VisS B n K mb sb ob A k c S pos w) :
 Calls Tryz.prog 78 #[sV s,.pointer (some ⟨sb,0,none⟩),.pointer (some ⟨ob,0,none⟩)] w (GoesPost B n K mb sb ob S pos s w):=by
 obtain ⟨wa,hwa⟩:∃ wa:World,wa=w:=⟨_,rfl⟩
 subst hwa
 have hb0:Below wa.heap.size wa (wa.alloc (.cells #[.int .i64 (s.1:Int),.bool s.2] 97)):=(Below.refl _ _).alloc (Nat.le_refl _) _
 have H1:=h.step hb0
 have hok:okS s:=by unfold okS;omega
 have hmb:=h.map.lt
 have hBs:B≤wa.heap.size:=Nat.le_trans h.lt0 (Nat.le_of_lt h.map.lt)
 have hbn:=RowC.new wa 97 [.int .i64 (s.1:Int),.bool s.2]
 have hK0:∀ b,K b→(wa.alloc (.cells #[.int .i64 (s.1:Int),.bool s.2] 97)).heap[b]?=wa.heap[b]?:=fun b hk=>hb0.block b (h.far b hk).1
 have r1:=H1.sc.cell 0
 have b0:=hbn.cell 0
 have b1:=hbn.cell 1
 have hmap:=H1.map
 have hb0':=hb0.mono hBs
 clear h hb0
 have HF:=Lib.hid (And.intro H1 (And.intro hb0' (And.intro hK0 hbn)))
 clear H1 hb0' hK0 hbn
 by_cases hin:s ∈ S
 ·have hv:=seenS_in hin
  have HV:=Lib.hid hv
  clear hv
  go_enter Tryz.func78,Tryz.ntmps78
  go_wp2_with (first
   | (at_lookup;refine wpList_look_S _ rfl _ _ 94 rfl 3 Tryz.underlying94 Tryz.underlying3 (zeroI _) mb _ _ rfl hmap s rfl hok ?_;rw [HV.out])
   | fail)
  go_end0
  refine ⟨rfl,⟨A,k,c,?_⟩,HF.out.2.1,HF.out.2.2.1⟩
  have:add1 S s=S:=by unfold add1;rw [if_pos hin]
  rw [this]
  exact HF.out.1.weak fun b hb=>.inl hb
 ·have hv:=seenS_out hin
  have HV:=Lib.hid hv
  clear hv
  have hlen:S.length < maxLen:=by have:=HF.out.1.size_le;unfold maxLen;omega
  go_enter Tryz.func78,Tryz.ntmps78
  go_wp2_with (first
   | (at_lookup;refine wpList_look_S _ rfl _ _ 94 rfl 3 Tryz.underlying94 Tryz.underlying3 (zeroI _) mb _ _ rfl hmap s rfl hok ?_;rw [HV.out])
   | (at_mapUpdate;refine wpList_store_S _ rfl _ _ _ 94 rfl 3 Tryz.underlying94 Tryz.underlying3 mb _ _ rfl hmap hlen s rfl hok 1 rfl (by decide) ?_)
   | fail)
  intro w1 hm1 hg1
  obtain ⟨H1,hb0,hK0,hbn⟩:=HF.out
  have hlt1:=H1.lt1
  have hlt2:=H1.lt2
  have hmlt:=H1.map.lt
  have hm2:MapS 97 3 w1 mb (S.length + 1) (seenS (S ++ [s])):=hm1.congr (seenS_snoc S s)
  have hsc:=H1.sc.grown hg1 (by intro e;injection e;omega)
  have hoc:=H1.oc.grown hg1 (by intro e;injection e;omega)
  have hoo:=H1.oo.turn (Turn.of_grown hg1) (fun g off e e2=>by injection e2 with e2;have:=(H1.row e).1;omega)
  have hmw:mb < wa.heap.size:=hmb
  have hbb:=hbn.grown hg1 (by intro e;injection e;omega)
  have hb1:Below B wa w1:=hb0.grown hg1 (by simp;omega) (fun g e=>by cases e;exact H1.lt0)
  have hK1:∀ b,K b→w1.heap[b]?=wa.heap[b]?:=fun b hk=>by
   rw [← hK0 b hk]
   exact hg1.block b (H1.far b (.inl hk)).1 (fun e=>(H1.far b (.inl hk)).2.1 (by injection e))
  have hpos:=H1.pos_le
  have hk16:(k + 1) * 16≤140737488355328:=by have:=H1.k_eq;have:=H1.size_le;omega
  have hrow:=fun (b off:Nat)=>H1.row (b:=b) (off:=off)
  have hfar:=fun b (hk:K b)=>H1.far b (.inl hk)
  have hnd:=H1.nd
  have hbd:=H1.bnd
  have hlt0:=H1.lt0
  have c0:=hsc.cell 0
  have c1:=hoc.cell 0
  have d0:=hbb.cell 0
  have d1:=hbb.cell 1
  have hq:=hoo.alloc (.cells #[.int .i64 (s.1:Int),.bool s.2] 97)
  have hol:=hoc.lt
  have hsz1:=hg1.size
  have HG:=Lib.hid (And.intro hm2 (And.intro hsc (And.intro hoc (And.intro hb1 (And.intro hK1 (And.intro hrow (And.intro hfar (And.intro hnd hbd))))))))
  clear hm1 hm2 hsc hoc hb1 hK1 hoo hbb hg1 H1 HF hb0 hK0 hbn hmap b0 b1 r1 hrow hfar hnd hbd
  have HP:=Lib.hid hpos
  clear hpos
  obtain ⟨i,e1,e2,e3,e4,e5⟩:=infoState
  go_wp2_with (first
   | (at_builtin;refine wpList_app_q _ rfl _ _ 113 rfl 97 i _ 2 16 e1 e2 e3 e4 e5 (by simp [Value.cells]) (by omega) (ob + 1) _ _ _ _ rfl hq (by simp;omega) ⟨w1.heap.size,0,none⟩ 1 1 [.int .i64 (s.1:Int),.bool s.2] rfl rfl (cells_new w1 _ 97) (by intro u hu;simp at hu;rcases hu with rfl | rfl <;> rfl) hk16 (by omega) ?_)
   | fail)
  intro A9 c9 w9 ho9 ht9 hd9
  obtain ⟨hm2,hsc,hoc,hb1,hK1,hrow,hfar,hnd,hbd⟩:=HG.out
  have hob:∀ b,b≤ob→¬ ∃ off,A=some ⟨b,off,none⟩:=fun b hb ⟨off,e⟩=>by have:=(hrow b off e).1;omega
  have hm9:=(hm2.alloc (.cells #[.int .i64 (s.1:Int),.bool s.2] 97)).turn ht9 (hob mb (by omega))
  have hs9:=(hsc.alloc (.cells #[.int .i64 (s.1:Int),.bool s.2] 97)).turn ht9 (hob sb (by omega))
  have hc9:=(hoc.alloc (.cells #[.int .i64 (s.1:Int),.bool s.2] 97)).turn ht9 (hob ob (Nat.le_refl _))
  have hb9:Below B wa w9:=below_turn (hb1.alloc (Nat.le_trans hBs hb1.size) (.cells #[.int .i64 (s.1:Int),.bool s.2] 97)) ht9 (by simp;have:=hb1.size;omega) fun x hx=>hob x (by omega)
  have hnb:∀ g off,A9=some ⟨g,off,none⟩→ob < g:=fun g off e=>by
   rcases hd9 g off e with ⟨off',h1⟩ | h1
   ·exact (hrow g off' h1).1
   ·first | omega | (simp at h1;omega)
  have hK9:∀ b,K b→w9.heap[b]?=wa.heap[b]?:=fun b hk=>by
   have hf:=hfar b hk
   have hlt:b < w1.heap.size:=by have:=hf.1;omega
   rw [← hK1 b hk,ht9.block b (by simp;omega) (fun ⟨off,e⟩=>hf.2.2.2 off e)]
   exact (MapKept.heap_alloc w1 _).2 b hlt
  have hfin:VisS B n K mb sb ob A9 (k + 1) c9 (S ++ [s]) pos (w9.setCell ⟨ob,0,none⟩ (.slice A9 (k + 1) c9)):=by
   refine ⟨?_,hs9.far (by simp;omega) _,hc9.put 0 _,?_,?_,?_,by rw [List.length_append];have:=HP.out;omega,hlt0,hlt1,hlt2,fun b hk=>?_⟩
   ·rw [List.length_append];exact hm9.setCell (by simp;omega) _
   ·rw [List.drop_append_of_le_length HP.out,cellsS_append]
    exact ho9.setFar (fun g off e=>by have:=hnb g off e;simp;omega) _
   ·rw [List.nodup_append]
    exact ⟨hnd,by simp,fun a ha b hb=>by rw [List.mem_singleton] at hb;subst hb;rintro rfl;exact hin ha⟩
   ·intro t ht
    rcases List.mem_append.1 ht with h1 | h1
    ·exact hbd t h1
    ·rw [List.mem_singleton] at h1;subst h1;exact hs
   ·have hf:=hfar b hk
    refine ⟨?_,hf.2.1,hf.2.2.1,fun off e=>?_⟩
    ·have h1:=ht9.size
     have h2:=hf.1
     simp at h1 h2 ⊢
     have:b < w9.heap.size:=by omega
     simpa [World.setCell] using this
    ·rcases hd9 b off e with ⟨off',h1⟩ | h1
     ·exact hf.2.2.2 off' h1
     ·have h2:=hf.1
      first | omega | (simp at h1 h2;omega)
  have hbf:Below B wa (w9.setCell ⟨ob,0,none⟩ (.slice A9 (k + 1) c9)):=hb9.setCell (p:=⟨ob,0,none⟩) (by simp;omega) _
  have hKf:∀ b,K b→(w9.setCell ⟨ob,0,none⟩ (.slice A9 (k + 1) c9)).heap[b]?=wa.heap[b]?:=fun b hk=>by
   rw [← hK9 b hk]
   exact Below.heap_setCell _ _ _ _ (fun e=>(hfar b hk).2.2.1 e)
  have r9:=hc9.cell 0
  have f9:=hc9.frozen 0
  have HF:=Lib.hid (And.intro hfin (And.intro hbf hKf))
  clear hfin hbf hKf hm9 hs9 hc9 hb9 hnb hK9 hm2 hsc hoc hb1 hK1 hrow hfar hnd hbd hob ho9 ht9 hd9 c0 c1 d0 d1 hq HG
  go_wp2_with fail
  go_end0
  have e0:add1 S s=S ++ [s]:=by unfold add1;rw [if_neg hin]
  exact ⟨rfl,⟨A9,k + 1,c9,by rw [e0];exact HF.out.1⟩,HF.out.2.1,HF.out.2.2⟩
end Go.Proofs.YtgbmnlmnhbkdbaaGreat
/- Plain law: a search over states that takes one after the other comes to all that open trails come to. No condition. -/
namespace Go.Proofs.YtgbmnlmnhbkdbaaGreat

def Zp (Z:List Int) (p:Nat):Prop:=zB Z p=true
def Ap (G:List (List Nat)) (Z:List Int) (p:Nat):Prop:=aB G Z p=true
theorem mem_nextL {G:List (List Nat)} {Z:List Int} {s t:St} (hs:s.1 < G.length):t ∈ nextL G Z s ↔ Nx G (Zp Z) (Ap G Z) s t:=by
 obtain ⟨p,u⟩:=s
 unfold nextL
 constructor
 ·intro h
  split at h
  ·simp at h
  ·rename_i h1
   have h1':¬ (u=true∧Zp Z p):=by intro ⟨a,b⟩;apply h1;rw [Bool.and_eq_true];exact ⟨a,b⟩
   rcases List.mem_append.1 h with h2 | h2
   ·split at h2
    ·rename_i h3
     obtain ⟨q,hq,rfl⟩:=List.mem_map.1 h2
     refine .up h1' ?_ hq
     rw [Bool.or_eq_true] at h3;exact h3
    ·simp at h2
   ·split at h2
    ·simp at h2
    ·rename_i h3
     obtain ⟨c,hc,rfl⟩:=List.mem_map.1 h2
     rw [mem_kids hs] at hc
     exact .down h3 hc.1 hc.2
 ·intro h
  cases h with
  | up g1 g2 g3 =>
    rename_i q
    rw [if_neg (by rw [Bool.and_eq_true];exact g1),if_pos (by rw [Bool.or_eq_true];exact g2)]
    exact List.mem_append_left _ (List.mem_map.2 ⟨q,g3,rfl⟩)
  | down g1 g2 g3 =>
    rename_i c
    rw [if_neg (by rw [Bool.and_eq_true];exact fun h=>g1 h.2)]
    refine List.mem_append_right _ ?_
    rw [if_neg (show ¬ zB Z p=true from g1)]
    exact List.mem_map.2 ⟨c,(mem_kids hs).2 ⟨g2,g3⟩,rfl⟩
def CameS (G:List (List Nat)) (Z:List Int) (xs:List Nat) (s:St):Prop:=∃ a m,a ∈ xs∧zB Z a=false∧Go (G:=G) (Z:=Zp Z) (Ab:=Ap G Z) m (a,true) s
theorem mem_addS {l:List St}:∀ {S:List St} {t:St},t ∈ addS S l ↔ t ∈ S ∨ t ∈ l:=by
 induction l with
 | nil=>intro S t;simp [addS]
 | cons s l ih =>
   intro S t
   show t ∈ addS (add1 S s) l ↔ _
   rw [ih,mem_add1,List.mem_cons]
   constructor
   ·rintro ((h | h) | h)
    ·exact .inl h
    ·exact .inr (.inl h)
    ·exact .inr (.inr h)
   ·rintro (h | h | h)
    ·exact .inl (.inl h)
    ·exact .inl (.inr h)
    ·exact .inr h
theorem addS_prefix (l:List St):∀ S:List St,∃ m,addS S l=S ++ m:=by
 induction l with
 | nil=>intro S;exact ⟨[],by simp [addS]⟩
 | cons s l ih =>
   intro S
   obtain ⟨m1,h1⟩:=add1_prefix S s
   obtain ⟨m2,h2⟩:=ih (add1 S s)
   exact ⟨m1 ++ m2,by show addS (add1 S s) l=_;rw [h2,h1,List.append_assoc]⟩
theorem nth_addS {S l:List St} {j:Nat} (h:j < S.length):nth (addS S l) j=nth S j:=by obtain ⟨m,e⟩:=addS_prefix l S;rw [e,nth_append_left h]
structure Fl (G:List (List Nat)) (Z:List Int) (xs:List Nat) (S:List St) (pos:Nat):Prop where
 came:∀ s,s ∈ S→CameS G Z xs s
 start:∀ a,a ∈ xs→zB Z a=false→((a,true):St) ∈ S
 clo:∀ j,j < pos→∀ t,t ∈ nextL G Z (nth S j)→t ∈ S
theorem Fl.begin {G:List (List Nat)} {Z:List Int} {xs:List Nat}:Fl G Z xs (addS [] ((xs.filter fun a=>! zB Z a).map fun a=>(a,true))) 0:=by
 refine ⟨fun s hs=>?_,fun a ha hz=>?_,fun j hj=>by omega⟩
 ·rcases mem_addS.1 hs with h | h
  ·simp at h
  ·obtain ⟨a,ha,rfl⟩:=List.mem_map.1 h
   rw [List.mem_filter] at ha
   exact ⟨a,0,ha.1,by simpa using ha.2,.refl _⟩
 ·exact mem_addS.2 (.inr (List.mem_map.2 ⟨a,List.mem_filter.2 ⟨ha,by simp [hz]⟩,rfl⟩))
theorem Fl.step {G:List (List Nat)} {Z:List Int} {xs:List Nat} {S:List St} {pos:Nat} (h:Fl G Z xs S pos) (hp:pos < S.length) (hb:∀ s,s ∈ S→s.1 < G.length):Fl G Z xs (addS S (nextL G Z (nth S pos))) (pos + 1):=by
 have hm:=nth_mem hp
 refine ⟨fun s hs=>?_,fun a ha hz=>mem_addS.2 (.inl (h.start a ha hz)),fun j hj t ht=>?_⟩
 ·rcases mem_addS.1 hs with h1 | h1
  ·exact h.came s h1
  ·obtain ⟨a,m,ha,hz,hg⟩:=h.came _ hm
   exact ⟨a,m + 1,ha,hz,hg.snoc ((mem_nextL (hb _ hm)).1 h1)⟩
 ·rcases Nat.lt_or_ge j pos with h1 | h1
  ·rw [nth_addS (by omega)] at ht
   exact mem_addS.2 (.inl (h.clo j h1 t ht))
  ·obtain rfl:j=pos:=by omega
   rw [nth_addS hp] at ht
   exact mem_addS.2 (.inr ht)
theorem Fl.done {G:List (List Nat)} {Z:List Int} {xs:List Nat} {S:List St} (h:Fl G Z xs S S.length) (hb:∀ s,s ∈ S→s.1 < G.length) (s:St):s ∈ S ↔ CameS G Z xs s:=by
 refine ⟨h.came s,?_⟩
 rintro ⟨a,m,ha,hz,hg⟩
 have hs:=h.start a ha hz
 clear ha hz
 generalize (a,true)=r at hs hg
 induction hg with
 | refl=>exact hs
 | snoc _ hx ih =>
   have h1:=ih hs
   obtain ⟨j,hj,e⟩:=mem_nth h1
   rw [← e] at hx
   exact h.clo j hj _ ((mem_nextL (hb _ (nth_mem hj))).2 hx)
theorem next_lt {G:List (List Nat)} {p:Nat} (hg:GoodG G) (hp:p < G.length):(∀ q,q ∈ nth G p→q < G.length)∧∀ q,q ∈ nth (kids G) p→q < G.length:=by
 refine ⟨fun q hq=>hg p hp q hq,fun q hq=>?_⟩
 exact ((mem_kids hp).1 hq).1
end Go.Proofs.YtgbmnlmnhbkdbaaGreat
