/- Joined by program out of: SortI, LawS. What each says stands at its own head. -/
import Derived.Test.YtgbmnlmnhbkdbaaGreatJ7
import Derived.Test.YtgbmnlmnhbkdbaaGreatShelf
import Derived.Lib.SortBridge
import Derived.Test.YtgbmnlmnhbkdbaaGreatJ5
import Derived.IntWalk
set_option linter.unusedVariables false
set_option linter.unusedSimpArgs false
/- slices.Sort on a slice of ints of the call's own: the same numbers, rising. Condition: fewer than 2 to the 62. -/
namespace Go.Proofs.YtgbmnlmnhbkdbaaGreat
open Go.RowKit Go.Sort

theorem RowAt.setCells {w:World} {g:Nat} {e:TypeId} {xs ys:List Int} {rest:List Value} (h:RowAt (Value.int .i64) w g e xs rest) (hl:ys.length=xs.length):RowAt (Value.int .i64) (w.setCells g 0 (ys.map (Value.int .i64))) g e ys rest:=by
 have h2:=RowC.setCells (g:=g) (e:=e) (C:=rest) (ys.map (Value.int .i64)) (xs.map (Value.int .i64)) [] w (by unfold RowAt at h;unfold RowC;simpa using h) (by simpa using hl)
 unfold RowAt
 unfold RowC at h2
 simpa using h2
theorem RowAt.toInt {w:World} {g:Nat} {e:TypeId} {xs:List Nat} {rest:List Value} (h:RowAt eN w g e xs rest):RowAt (Value.int .i64) w g e (xs.map fun m:Nat=>(m:Int)) rest:=by
 unfold RowAt at h ⊢
 rw [h];simp
theorem RowAt.ofInt {w:World} {g:Nat} {e:TypeId} {xs:List Nat} {rest:List Value} (h:RowAt (Value.int .i64) w g e (xs.map fun m:Nat=>(m:Int)) rest):RowAt eN w g e xs rest:=by
 unfold RowAt at h ⊢
 rw [h];simp
def SortPost (w:World) (base:Nat) (A:Option Addr) (k c:Nat) (L:List Nat) (e:Ending) (w':World):Prop:=
 e=.returned (.tuple #[])∧∃ L',L'.Perm L∧L'.Pairwise (·≤·)∧OwnR eN w' base 3 A k c L'∧Turn w w' (fun b=>A=some ⟨b,0,none⟩)
theorem heap_setCells_other {g:Nat}:∀ (vs:List Value) (o:Nat) (w:World) (i:Nat),i ≠ g→(w.setCells g o vs).heap[i]?=w.heap[i]?
 | [],_,_,_,_=>rfl
 | v :: vs,o,w,i,hi=>(heap_setCells_other vs (o + 1) (w.setCell ⟨g,o,none⟩ v) i hi).trans (Below.heap_setCell w ⟨g,o,none⟩ v i hi)
theorem size_setCells {g:Nat}:∀ (vs:List Value) (o:Nat) (w:World),(w.setCells g o vs).heap.size=w.heap.size
 | [],_,_=>rfl
 | v :: vs,o,w=>(size_setCells vs (o + 1) _).trans (by simp [World.setCell])
theorem same_setCells {g:Nat}:∀ (vs:List Value) (o:Nat) (w:World),(w.setCells g o vs).os=w.os∧(w.setCells g o vs).tape=w.tape∧(w.setCells g o vs).output=w.output
 | [],_,_=>⟨rfl,rfl,rfl⟩
 | v :: vs,o,w=>same_setCells vs (o + 1) (w.setCell ⟨g,o,none⟩ v)
theorem sort_own (base:Nat) (A:Option Addr) (k c:Nat) (L:List Nat) (w:World) (h:OwnR eN w base 3 A k c L) (hk:k < 4611686018427387904):Calls Tryz.prog 77 #[.slice A k c] w (SortPost w base A k c L):=by
 rcases Nat.eq_zero_or_pos k with rfl | hp
 ·refine (Tryz.slices_Sort_int_none A c w).mono ?_
  rintro e w' ⟨rfl,rfl⟩
  have hl:=h.length
  obtain rfl:L=[]:=List.eq_nil_of_length_eq_zero hl
  exact ⟨rfl,[],List.Perm.refl _,List.Pairwise.nil,h,Turn.refl _ _⟩
 ·obtain ⟨g,rest,rfl,hg,hr,hc⟩:=h.row hp
  have hl:=h.length
  have hri:=hr.toInt
  obtain ⟨zs,hzs⟩:∃ zs:List Int,zs=L.map fun m:Nat=>(m:Int):=⟨_,rfl⟩
  rw [← hzs] at hri
  have hzl:zs.length=k:=by rw [hzs];simpa using hl
  have hH:Holds (Value.int .i64) w g 0 zs.toArray:=by
   intro j hj
   have hj':j < zs.length:=by simpa using hj
   rw [Nat.zero_add]
   refine ⟨?_,hri.frozen j⟩
   rw [hri.cell hj',nth_eq hj']
   simp [hj']
  have:=Tryz.slices_Sort_int g 0 c zs w hH hr.lt (by omega)
  rw [hzl] at this
  refine this.mono ?_
  rintro e w' ⟨rfl,q,os,rfl⟩
  obtain ⟨ys,hys⟩:∃ ys,ys=zs.mergeSort fun x y=>decide (x≤y):=⟨_,rfl⟩
  have hyl:ys.length=zs.length:=by rw [hys];exact List.length_mergeSort _
  have hperm:ys.Perm zs:=by rw [hys];exact List.mergeSort_perm _ _
  have hsort:ys.Pairwise (·≤·):=by
   have:=List.pairwise_mergeSort (le:=fun x y:Int=>decide (x≤y)) (fun a b c h1 h2=>by simp at *;omega) (fun a b=>by simp;omega) zs
   rw [← hys] at this
   exact this.imp fun h=>by simpa using h
  rw [Lib.sorted_world (Value.int .i64) w g 0 q zs.toArray _ os hH (by rw [← hys];simpa using hyl),← hys]
  have hnn:∀ y,y ∈ ys→∃ m:Nat,y=(m:Int):=fun y hy=>by
   have h1:=hperm.mem_iff.1 hy
   rw [hzs] at h1
   obtain ⟨m,_,e⟩:=List.mem_map.1 h1
   exact ⟨m,e.symm⟩
  obtain ⟨L',hL'⟩:∃ L':List Nat,ys=L'.map fun m:Nat=>(m:Int):=by
   refine ⟨ys.map Int.toNat,?_⟩
   rw [List.map_map]
   conv=>lhs;rw [← List.map_id ys]
   refine List.map_congr_left fun y hy=>?_
   obtain ⟨m,rfl⟩:=hnn y hy
   simp
  clear hys hnn
  subst hL'
  have hl2:L'.length=k:=by simpa [hzl] using hyl
  have hr2:RowAt eN ((w.drewN q).setCells g 0 ((L'.map fun m:Nat=>(m:Int)).map (Value.int .i64))) g 3 L' rest:=RowAt.ofInt (RowAt.setCells (hri.drewN q) hyl)
  generalize hvs:(L'.map fun m:Nat=>(m:Int)).map (Value.int .i64)=vs at *
  obtain ⟨s1,s2,s3⟩:=same_setCells (g:=g) vs 0 (w.drewN q)
  have s4:=size_setCells (g:=g) vs 0 (w.drewN q)
  have hsz:w.heap.size=((w.drewN q).setCells g 0 vs).heap.size:=s4.symm
  have hr3:RowAt eN (grow ((w.drewN q).setCells g 0 vs) os) g 3 L' rest:=(heap_grow_old _ os hr2.lt).trans hr2
  refine ⟨rfl,L',?_,?_,OwnR.of_row' hr3 hg (by rw [hl2];exact hc) h.capmax hl2,⟨s1,s2,s3,by rw [size_grow];omega,fun b hb hn=>?_⟩⟩
  ·rw [hzs] at hperm
   have:=hperm.map Int.toNat
   rw [List.map_map,List.map_map] at this
   have e:(Int.toNat ∘ fun m:Nat=>(m:Int))=id:=by funext m;simp
   rw [e,List.map_id,List.map_id] at this
   exact this
  ·rw [List.pairwise_map] at hsort
   exact hsort.imp fun h=>by omega
  ·rw [heap_grow_old _ os (by omega)]
   exact heap_setCells_other vs 0 (w.drewN q) b (fun e=>hn (by rw [e]))
end Go.Proofs.YtgbmnlmnhbkdbaaGreat
/- credencelaw16's roomy, still, twin, kept, own and credenceref14's Same, walked. Conditions: the lists read, within Go's bound; what is written over is the call's own. -/
namespace Go.Proofs.YtgbmnlmnhbkdbaaGreat
open Go.RowKit

abbrev m4:List Int:=[-77,-77,-77,-77]
theorem OwnR.kinds {α β:Type} {enc:α→Value} {enc':β→Value} {w:World} {base base':Nat} {e e':TypeId} {A B:Option Addr} {n c m d:Nat} {xs:List α} {ys:List β} (h:OwnR enc w base e A n c xs) (k:OwnR enc' w base' e' B m d ys) (he:e ≠ e') {g:Nat} (hA:A=some ⟨g,0,none⟩):B ≠ some ⟨g,0,none⟩:=by
 intro hB
 rcases h.2 with ⟨h1,_⟩ | ⟨g1,_,c1,h1,_,h2,_⟩
 ·injection h1 with h1;rw [hA] at h1;cases h1
 ·injection h1 with h1;rw [hA] at h1;injection h1 with h1;injection h1 with h1;subst h1
  rcases k.2 with ⟨k1,_⟩ | ⟨g2,_,c2,k1,_,k2,_⟩
  ·injection k1 with k1;rw [hB] at k1;cases k1
  ·injection k1 with k1;rw [hB] at k1;injection k1 with k1;injection k1 with k1;subst k1
   rw [h2] at k2
   injection k2 with k2
   injection k2 with _ k2
   exact he k2
theorem OwnR.ownBlock_eq {α:Type} {enc:α→Value} {w:World} {base:Nat} {e:TypeId} {A:Option Addr} {n c:Nat} {xs:List α} (h:OwnR enc w base e A n c xs) {b m d:Nat} (hb:(Value.slice A m d).ownBlock=some b):A=some ⟨b,0,none⟩:=by
 rcases h.at_row with h1 | ⟨g',h1,_⟩
 ·rw [h1] at hb;cases hb
 ·rw [h1] at hb ⊢;injection hb with hb;rw [← hb]


set_option maxRecDepth 100000 in
set_option maxHeartbeats 800000 in
theorem same_ref (A B:Option Addr) (n m c d:Nat) (xs ys:List Int) (w:World) (h:Sl (Value.int .i64) w A n xs) (k:Sl (Value.int .i64) w B m ys) :
 Calls Tryz.prog 13 #[.slice A n c,.slice B m d] w fun e w'=>e=.returned (.bool (decide (xs=ys)))∧∃ t,w'=w.drewN t:=by
 have hbig:=h.big
 have hbig2:=k.big
 have HI:=Lib.hid (And.intro h.len k.len)
 obtain ⟨wa,hwa⟩:∃ wa:World,wa=w:=⟨_,rfl⟩
 subst hwa
 go_enter Tryz.func13,Tryz.ntmps13
 by_cases hnm:n=m
 ·subst hnm
  go_wp2_with fail
  go_loopw [5] (fun i wr=>∃ j t:Nat,i=.int .i64 (j:Nat)∧j≤n∧xs.take j=ys.take j∧wr=wa.drewN t) (fun i _=>n - (intOf i).toNat)
  case atStart=>exact ⟨0,0,rfl,Nat.zero_le _,rfl,rfl⟩
  case round =>
   obtain ⟨j,t,rfl,hj,htk,hwr⟩:=hrel
   obtain ⟨wb,hwb⟩:∃ wb:World,wb=wr:=⟨_,rfl⟩
   subst hwb
   by_cases hlt:j < n
   ·have h1:Sl (Value.int .i64) wb A n xs:=by rw [hwr];exact h.drewN t
    have k1:Sl (Value.int .i64) wb B n ys:=by rw [hwr];exact k.drewN t
    obtain ⟨b1,o1,rfl,_,hc1⟩:=h1.at' (by omega)
    obtain ⟨b2,o2,rfl,_,hc2⟩:=k1.at' (by omega)
    have g1:=hc1 j hlt
    have g2:=hc2 j hlt
    have hx:j < xs.length:=by rw [HI.out.1];exact hlt
    have hy:j < ys.length:=by rw [HI.out.2];exact hlt
    have hne:nth xs j ≠ nth ys j→xs ≠ ys:=fun hn e=>hn (by rw [e])
    have hsu:nth xs j=nth ys j→xs.take (j + 1)=ys.take (j + 1):=fun e=>by rw [take_snoc hx,take_snoc hy,htk,e]
    have HS:=Lib.hid (And.intro hne (And.intro hsu hwr));clear hne hsu hwr htk hc1 hc2 h1 k1 hx hy
    have q1:(0:Int)≤(j:Nat):=by omega
    have q2:((j:Nat):Int) < n:=by omega
    generalize nth xs j=s at *
    generalize nth ys j=u at *
    by_cases hsu:s=u
    ·subst hsu
     have HC:=Lib.hid (HS.out.2.1 rfl)
     go_wp2_with fail
     go_quiet (fail)
     go_wp2_with fail
     exact ⟨⟨j + 1,t + nq,by go_num,by omega,HC.out,by rw [HS.out.2.2,World.drewN_drewN]⟩,by simp [intOf];omega⟩
    ·have hd:(s != u)=true:=by simpa using hsu
     have HC:=Lib.hid (decide_eq_false (HS.out.1 hsu))
     go_wp2_with fail
     go_quiet (fail)
     go_wp2_with fail
     go_ret
     exact ⟨ret_bool HC.out.symm,t + nq,by rw [HS.out.2.2,World.drewN_drewN]⟩
   ·obtain rfl:j=n:=by omega
    have HC:=Lib.hid (show decide (xs=ys)=true by
     rw [take_all (by rw [HI.out.1];exact Nat.le_refl _),take_all (by rw [HI.out.2];exact Nat.le_refl _)] at htk
     exact decide_eq_true htk)
    have HW:=Lib.hid hwr;clear htk hwr
    go_wp2_with fail
    go_ret
    exact ⟨ret_bool HC.out.symm,t,HW.out⟩
 ·have hne:¬ ((n:Nat):Int)=((m:Nat):Int):=by omega
  have HC:=Lib.hid (show decide (xs=ys)=false from decide_eq_false fun e=>hnm (by rw [← HI.out.1,← HI.out.2,e]))
  go_wp2_with fail
  go_ret
  exact ⟨ret_bool HC.out.symm,0,rfl⟩
end Go.Proofs.YtgbmnlmnhbkdbaaGreat
