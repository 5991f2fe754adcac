/- sep's view.reach, walked: all states that open trails come to. Conditions: the view and the points within Go's bound. -/
import Derived.Test.YtgbmnlmnhbkdbaaGreatJ18
import Derived.Deep.LoopGhost
set_option linter.unusedVariables false
set_option linter.unusedSimpArgs false
namespace Go.Proofs.YtgbmnlmnhbkdbaaGreat
open Go.RowKit

theorem clo_reach (B n mb sb ob pos:Nat) (S0:List St) (hn:n * 64≤140737488351232) :
 Clo B n 78 #[.pointer (some ⟨sb,0,none⟩),.pointer (some ⟨ob,0,none⟩)] (fun _=>True) (fun K L w=>∃ A k c,VisS B n K mb sb ob A k c (addS S0 L) pos w) where
 step:=by
  rintro K L s w hs _ ⟨A,k,c,h⟩
  refine (goes_any B n K mb sb ob A k c _ pos s w hn hs h).mono ?_
  rintro e w' ⟨rfl,h1,h2,h3⟩
  exact ⟨rfl,by rw [addS_snoc];exact h1,h2,h3⟩
 ent:=enters_of Tryz.func78 (by kernel_rfl) rfl
 grow:=by rintro K L w w' ⟨A,k,c,h⟩ hb;exact ⟨A,k,c,h.step hb⟩
 weak:=by rintro K K' L w ⟨A,k,c,h⟩ hk;exact ⟨A,k,c,h.weak hk⟩
 bnd:=by rintro K L w b ⟨A,k,c,h⟩ hk;exact (h.far b hk).1
theorem VisS.popped {B n:Nat} {mb sb ob kq cq pos g off:Nat} {S:List St} {s:St} {wb:World} {K:Nat→Prop} (h:VisS B n K mb sb ob (some ⟨g,off,none⟩) kq cq S pos wb) (hpos:pos < S.length) {A2:Option Addr} {c2 off2:Nat} (h2:A2=some ⟨g,off2,none⟩)
 (hq:OwnQ wb (ob + 1) 97 2 A2 (kq - 1) c2 (cellsS (S.drop (pos + 1)))) :
 VisS B n (fun b=>K b ∨ b=wb.heap.size) mb sb ob A2 (kq - 1) c2 S (pos + 1) ((wb.alloc (.cells #[.int .i64 (s.1:Int),.bool s.2] 97)).setCell ⟨ob,0,none⟩ (.slice A2 (kq - 1) c2)):=by
 have h1:=h.lt1
 have h3:=h.lt2
 have hm:=h.map.lt
 have ho:=h.oc.lt
 have hr:=h.row rfl
 refine ⟨(h.map.alloc _).setCell (by simp;omega) _,(h.sc.alloc _).far (by simp;omega) _,(h.oc.alloc _).put 0 _,(hq.alloc _).setFar (fun g' off' e=>?_) _,h.nd,h.bnd,hpos,h.lt0,h.lt1,h.lt2,fun b hb=>?_⟩
 ·rw [h2] at e;injection e with e;injection e with e;simp;omega
 ·have hsz:((wb.alloc (.cells #[.int .i64 (s.1:Int),.bool s.2] 97)).setCell ⟨ob,0,none⟩ (.slice A2 (kq - 1) c2)).heap.size=wb.heap.size + 1:=by simp [World.setCell]
  rw [hsz]
  rcases hb with hb | rfl
  ·obtain ⟨f1,f2,f3,f4⟩:=h.far b hb
   exact ⟨by omega,f2,f3,fun off' e=>by rw [h2] at e;injection e with e;injection e with e;subst e;exact f4 off rfl⟩
  ·exact ⟨by omega,by omega,by omega,fun off' e=>by rw [h2] at e;injection e with e;injection e with e;omega⟩
def FloodPost (G:List (List Nat)) (Z:List Int) (xs:List Nat) (n:Nat) (w:World) (e:Ending) (w':World):Prop:=
 ∃ mb S,e=.returned (.map (some mb))∧w.heap.size≤mb∧MapS 97 3 w' mb S.length (seenS S)∧S.Nodup∧(∀ s,s ∈ S ↔ CameS G Z xs s)∧(∀ s,s ∈ S→s.1 < n)∧Below w.heap.size w w'
def startL (Z:List Int) (xs:List Nat) (k:Nat):List St:=((xs.take k).filter fun a=>! zB Z a).map fun a=>(a,true)
theorem startL_in {Z:List Int} {xs:List Nat} {k:Nat} (h:k < xs.length) (hz:zB Z (nth xs k)=true):startL Z xs (k + 1)=startL Z xs k:=by
 unfold startL
 rw [List.take_succ_eq_append_getElem h,List.filter_append,List.map_append,← nth_eq h]
 simp [hz]
theorem startL_out {Z:List Int} {xs:List Nat} {k:Nat} (h:k < xs.length) (hz:zB Z (nth xs k)=false):startL Z xs (k + 1)=startL Z xs k ++ [(nth xs k,true)]:=by
 unfold startL
 rw [List.take_succ_eq_append_getElem h,List.filter_append,List.map_append,← nth_eq h]
 simp [hz]
theorem cellsS_at {S:List St} {pos:Nat} (h:pos < S.length):cellsS (S.drop pos)=.int .i64 ((nth S pos).1:Int) :: .bool (nth S pos).2 :: cellsS (S.drop (pos + 1)):=by
 rw [List.drop_eq_getElem_cons h,← nth_eq h];rfl

set_option maxRecDepth 100000 in
set_option maxHeartbeats 1600000 in
theorem flood_any (G:List (List Nat)) (Z:List Int) (A B1 D E X:Option Addr) (n k1 k2 c1 c2 c3 c4 m d:Nat) (xs:List Nat) (w:World) (hv:View w G Z A B1 D E n k1 k2) (hG:G.length=n) (hg:GoodG G) (hx:Sl eN w X m xs) (hxn:∀ x,x ∈ xs→x < n) (hn:n * 64≤140737488351232) :
 Calls Tryz.prog 58 #[.agg #[.slice A n c1,.slice B1 n c2,.slice D k1 c3,.slice E k2 c4],.slice X m d] w (FloodPost G Z xs n w):=by
 obtain ⟨wa,hwa⟩:∃ wa:World,wa=w:=⟨_,rfl⟩
 subst hwa
 have hxb:=hx.big
 have hmm:=fun (w:World)=>run_makeMap (P:=Tryz.prog) 94 w
 have hM:=MapS.made (wa.alloc (.cells #[.slice A n c1,.slice B1 n c2,.slice D k1 c3,.slice E k2 c4] 68)) 97 3
 have hR:RowC (wa.alloc (.cells #[.slice A n c1,.slice B1 n c2,.slice D k1 c3,.slice E k2 c4] 68)) wa.heap.size 68 [.slice A n c1,.slice B1 n c2,.slice D k1 c3,.slice E k2 c4]:=RowC.new wa 68 [.slice A n c1,.slice B1 n c2,.slice D k1 c3,.slice E k2 c4]
 have hB0:Below wa.heap.size wa (wa.alloc (.cells #[.slice A n c1,.slice B1 n c2,.slice D k1 c3,.slice E k2 c4] 68)):=(Below.refl _ _).alloc (Nat.le_refl _) _
 have hV:VisS wa.heap.size n (fun b=>b=wa.heap.size) (wa.heap.size + 1) (wa.heap.size + 1 + 1) (wa.heap.size + 1 + 1 + 1) none 0 0 [] 0 ((((wa.alloc (.cells #[.slice A n c1,.slice B1 n c2,.slice D k1 c3,.slice E k2 c4] 68)).alloc (.map #[] 0)).alloc (.cells #[.map (some (wa.heap.size + 1))] 94)).alloc (.cells #[.slice none 0 0] 113)):=by
  rw [show (wa.alloc (.cells #[.slice A n c1,.slice B1 n c2,.slice D k1 c3,.slice E k2 c4] 68)).heap.size=wa.heap.size + 1 from by simp] at hM
  refine ⟨((hM.alloc _).alloc _).congr fun x=>(seenS_out (by simp)).symm,?_,?_,OwnQ.nil _ _ _ _,List.nodup_nil,by simp,by simp,by omega,by omega,by omega,fun b hb=>⟨by subst hb;simp;omega,by omega,by omega,by simp⟩⟩
  ·have:=(RowC.new ((wa.alloc (.cells #[.slice A n c1,.slice B1 n c2,.slice D k1 c3,.slice E k2 c4] 68)).alloc (.map #[] 0)) 94 [.map (some (wa.heap.size + 1))]).alloc (.cells #[.slice none 0 0] 113)
   simpa using this
  ·have:=RowC.new (((wa.alloc (.cells #[.slice A n c1,.slice B1 n c2,.slice D k1 c3,.slice E k2 c4] 68)).alloc (.map #[] 0)).alloc (.cells #[.map (some (wa.heap.size + 1))] 94)) 113 [.slice none 0 0]
   simpa using this
 have hRx:=((hR.alloc (.map #[] 0)).alloc (.cells #[.map (some (wa.heap.size + 1))] 94)).alloc (.cells #[.slice none 0 0] 113)
 have hBx:=((hB0.alloc (by simp) (.map #[] 0)).alloc (by simp;omega) (.cells #[.map (some (wa.heap.size + 1))] 94)).alloc (by simp;omega) (.cells #[.slice none 0 0] 113)
 have HV:=Lib.hid (And.intro hV (And.intro hRx hBx));clear hV hM hR hB0 hRx hBx
 have HI:=Lib.hid (And.intro hG (And.intro hg (And.intro hv (And.intro hx hxn))));clear hG hg hv hx hxn
 go_enter Tryz.func58,Tryz.ntmps58
 go_wp2_with fail
 generalize (((wa.alloc (.cells #[.slice A n c1,.slice B1 n c2,.slice D k1 c3,.slice E k2 c4] 68)).alloc (.map #[] 0)).alloc (.cells #[.map (some (wa.heap.size + 1))] 94)).alloc (.cells #[.slice none 0 0] 113)=wx at *
 generalize hps:wa.heap.size=p at *
 go_loopw [15] (fun i wr=>∃ (k k' c':Nat) (A':Option Addr),i=.int .i64 (k:Nat)∧k≤m∧VisS p n (fun b=>b=p) (p + 1) (p + 1 + 1) (p + 1 + 1 + 1) A' k' c' (addS [] (startL Z xs k)) 0 wr∧RowC wr p 68 [.slice A n c1,.slice B1 n c2,.slice D k1 c3,.slice E k2 c4]∧Below p wa wr) (fun i _=>m - (intOf i).toNat)
 case atStart=>exact ⟨0,0,0,none,rfl,Nat.zero_le _,HV.out.1,HV.out.2.1,HV.out.2.2⟩
 case round =>
  obtain ⟨k,k',c',A',rfl,hk,hvis,hrow,hbel⟩:=hrel
  obtain ⟨wb,hwb⟩:∃ wb:World,wb=wr:=⟨_,rfl⟩
  subst hwb
  by_cases hlt:k < m
  ·obtain ⟨b,off,rfl,hb,hc⟩:=(HI.out.2.2.2.1.below (Nat.le_of_eq hps) hbel).at' (by omega)
   have g1:=hc k hlt
   have hkl:k < xs.length:=by rw [HI.out.2.2.2.1.len];exact hlt
   have v0:=hrow.cell 0
   have v1:=hrow.cell 1
   have v2:=hrow.cell 2
   have v3:=hrow.cell 3
   have hgiv:=(HI.out.2.2.1.below (Nat.le_of_eq hps) hbel).giv
   have hsn:=HI.out.2.2.2.2 _ (nth_mem hkl)
   have hs1:=startL_in (Z:=Z) hkl
   have hs2:=startL_out (Z:=Z) hkl
   generalize nth xs k=x at *
   have HX:=Lib.hid (And.intro hvis (And.intro hrow (And.intro hbel (And.intro hsn (And.intro hs1 hs2)))))
   clear hvis hrow hbel hsn hs1 hs2 hc hkl
   go_wp2_with fail
   refine (has_I D k1 c3 _ _ _ hgiv).mono ?_
   rintro e w2 ⟨rfl,hb2⟩
   have hv2:=(HX.out.1.step hb2).weak (K':=fun b=>b=p) (fun b h=>.inl h)
   have hr2:=HX.out.2.1.below' hb2
   have hbe2:=HX.out.2.2.1.trans (hb2.mono (by have:=HX.out.2.1.lt;omega))
   clear v0 v1 v2 v3 g1 hgiv hb2
   cases hz:zB Z x with
   | true =>
     rw [show decide ((x:Int) ∈ Z)=true from hz]
     have H2:=Lib.hid (And.intro hv2 (And.intro hr2 (And.intro hbe2 (HX.out.2.2.2.2.1 hz))));clear hv2 hr2 hbe2
     go_wp2_with fail
     exact ⟨⟨k + 1,k',c',A',by go_num,by omega,by rw [H2.out.2.2.2];exact H2.out.1,H2.out.2.1,H2.out.2.2.1⟩,by simp [intOf];omega⟩
   | false =>
     rw [show decide ((x:Int) ∈ Z)=false from hz]
     have H2:=Lib.hid (And.intro hv2 (And.intro hr2 (And.intro hbe2 (HX.out.2.2.2.2.2 hz))));clear hv2 hr2 hbe2
     go_wp2_with fail
     refine (goes_any p n (fun b=>b=p) (p + 1) (p + 1 + 1) (p + 1 + 1 + 1) A' k' c' _ 0 (x,true) _ hn HX.out.2.2.2.1 H2.out.1).mono ?_
     rintro e w3 ⟨rfl,⟨A3,k3,c3',hv3⟩,hb3,hk3⟩
     have hr3:RowC w3 p 68 [.slice A n c1,.slice B1 n c2,.slice D k1 c3,.slice E k2 c4]:=(hk3 p rfl).trans H2.out.2.1
     have hbe3:=H2.out.2.2.1.trans hb3
     rw [← addS_snoc,← H2.out.2.2.2] at hv3
     have H3:=Lib.hid (And.intro hv3 (And.intro hr3 hbe3));clear hv3 hr3 hbe3 hb3 hk3
     go_wp2_with fail
     exact ⟨⟨k + 1,k3,c3',A3,by go_num,by omega,H3.out.1,H3.out.2.1,H3.out.2.2⟩,by simp [intOf];omega⟩
  ·obtain rfl:k=m:=by omega
   have hfl:Fl G Z xs (addS [] (startL Z xs k)) 0:=by
    unfold startL
    rw [take_all (by rw [HI.out.2.2.2.1.len];exact Nat.le_refl _)]
    exact Fl.begin
   have HX:=Lib.hid (And.intro hvis (And.intro hrow (And.intro hbel hfl)))
   clear hvis hrow hbel hfl
   go_wp2_with fail
   go_loopg [10] (2 * n) (fun gg _ wr=>∃ (pos k' c':Nat) (A':Option Addr) (S:List St),2 * n≤gg + pos∧Aside (VisS p n (fun b=>b=p) (p + 1) (p + 1 + 1) (p + 1 + 1 + 1) A' k' c' S pos wr∧RowC wr p 68 [.slice A n c1,.slice B1 n c2,.slice D k1 c3,.slice E k2 c4]∧Below p wa wr∧Fl G Z xs S pos))
   case atStart=>exact ⟨0,k',c',A',_,by omega,HX.out⟩
   case round =>
    obtain ⟨pos,kq,cq,Aq,S,hgg,hA⟩:=hrel
    clear HX
    have hA:=Lib.hid hA.out
    obtain ⟨wb,hwb⟩:∃ wb:World,wb=wr:=⟨_,rfl⟩
    subst hwb
    have r0:=hA.out.1.oc.cell 0
    have hkq:=hA.out.1.k_eq
    have hsz:=hA.out.1.size_le
    have hple:=hA.out.1.pos_le
    by_cases hpos:pos < S.length
    ·have hk0:0 < kq:=by omega
     have hk1:(0:Int) < (kq:Nat):=by omega
     obtain ⟨g,off,rfl,hgb,hgl,hkc,hcell,hfr⟩:=hA.out.1.oo.cells (by omega)
     have g0:=hcell 0 (by omega)
     have g1:=hcell 1 (by omega)
     rw [cellsS_at hpos] at g0 g1
     replace g0:wb.cell? ⟨g,off,none⟩=some (.int .i64 ((nth S pos).1:Int)):=g0
     replace g1:wb.cell? ⟨g,off + 1,none⟩=some (.bool (nth S pos).2):=g1
     have hsS:=nth_mem hpos
     have hsn:=hA.out.1.bnd _ hsS
     have hnx:=hA.out.2.2.2.step hpos (by rw [HI.out.1];exact hA.out.1.bnd)
     have hpop:=hA.out.1.oo.pop hk0
     rw [cellsS_at hpos,show (∀ (a b:Value) (l:List Value),(a :: b :: l).drop 2=l) from fun _ _ _=>rfl] at hpop
     generalize hs:nth S pos=s at *
     have hoc:=hA.out.1.oc.alloc (.cells #[.int .i64 (s.1:Int),.bool s.2] 97)
     have ra:=hoc.cell 0
     have fa:=hoc.frozen 0
     clear hoc
     have HQ:=Lib.hid (And.intro hsn (And.intro hnx (And.intro hpop (And.intro hs (And.intro hkq (And.intro hsz (And.intro hple hpos)))))))
     have hv:=HI.out.2.2.1
     have hGl:=HI.out.1
     have hgd:=HI.out.2.1
     have hsl:s.1 < n:=hsn
     obtain ⟨hin1,hin2⟩:=next_lt hgd (p:=s.1) (by rw [hGl];exact hsl)
     obtain ⟨A2,cq2,hq2,hdis⟩:∃ A2 cq2,OwnQ wb (p + 1 + 1 + 1 + 1) 97 2 A2 (kq - 1) cq2 (cellsS (S.drop (pos + 1)))∧((cq=1∧kq=1∧A2=some ⟨g,off,none⟩∧cq2=0) ∨ (¬ cq=1∧A2=some ⟨g,off + 2,none⟩∧cq2=cq - 1)):=by
      by_cases hc1:cq=1
      ·rw [if_pos hc1] at hpop
       exact ⟨_,_,hpop,.inl ⟨hc1,by omega,rfl,by omega⟩⟩
      ·rw [if_neg hc1] at hpop
       exact ⟨_,_,hpop,.inr ⟨hc1,by simp [Addr.add_lit],rfl⟩⟩
     have hA2:∃ off2,A2=some ⟨g,off2,none⟩:=by rcases hdis with ⟨_,_,e,_⟩ | ⟨_,e,_⟩ <;> exact ⟨_,e⟩
     obtain ⟨off2,hA2⟩:=hA2
     have hW:=hA.out.1.popped (s:=s) hpos hA2 hq2
     have hRW:RowC ((wb.alloc (.cells #[.int .i64 (s.1:Int),.bool s.2] 97)).setCell ⟨p + 1 + 1 + 1,0,none⟩ (.slice A2 (kq - 1) cq2)) p 68 [.slice A n c1,.slice B1 n c2,.slice D k1 c3,.slice E k2 c4]:=(hA.out.2.1.alloc _).far (by simp;omega) _
     have hQW:RowC ((wb.alloc (.cells #[.int .i64 (s.1:Int),.bool s.2] 97)).setCell ⟨p + 1 + 1 + 1,0,none⟩ (.slice A2 (kq - 1) cq2)) wb.heap.size 97 [.int .i64 (s.1:Int),.bool s.2]:=(RowC.new wb _ _).far (by have:=hA.out.1.oc.lt;simp;omega) _
     have hBW:Below p wa ((wb.alloc (.cells #[.int .i64 (s.1:Int),.bool s.2] 97)).setCell ⟨p + 1 + 1 + 1,0,none⟩ (.slice A2 (kq - 1) cq2)):=(hA.out.2.2.1.alloc (Nat.le_of_lt hA.out.2.1.lt) _).setCell (p:=⟨p + 1 + 1 + 1,0,none⟩) (by simp;omega) _
     have v0:=hRW.cell 0
     have v1:=hRW.cell 1
     have v2:=hRW.cell 2
     have v3:=hRW.cell 3
     have t0:=hQW.cell 0
     have t1:=hQW.cell 1
     have hR0:=hA.out.2.1.alloc (.cells #[.int .i64 (s.1:Int),.bool s.2] 97)
     have hQ0:=RowC.new wb 97 [.int .i64 (s.1:Int),.bool s.2]
     have v0':=hR0.cell 0
     have v1':=hR0.cell 1
     have v2':=hR0.cell 2
     have v3':=hR0.cell 3
     have t0':=hQ0.cell 0
     have t1':=hQ0.cell 1
     simp only [List.getElem?_cons_zero,List.getElem?_cons_succ] at v0 v1 v2 v3 t0 t1 v0' v1' v2' v3' t0' t1'
     clear hR0 hQ0
     have HW:=Lib.hid (And.intro hW (And.intro hRW (And.intro hBW (And.intro hv (And.intro hin1 (And.intro hin2 hsl))))))
     clear hsn hnx hpop hs hcell hfr hsS hkq hsz hple hpos hW hRW hQW hBW hq2 hA2 hv hGl hgd hin1 hin2 hsl
     rcases hdis with ⟨rfl,rfl,rfl,rfl⟩ | ⟨hc1,rfl,rfl⟩ <;> (
      go_wp2_with fail
      refine (next_any (clo_reach p n (p + 1) (p + 1 + 1) (p + 1 + 1 + 1) (pos + 1) S hn) G Z A B1 D E k1 k2 c1 c2 c3 c4 s HW.out.2.2.2.2.2.2 (by rw [← HI.out.1];exact HW.out.2.2.2.2.1) (by rw [← HI.out.1];exact HW.out.2.2.2.2.2.1) (fun b=>b=p ∨ b=wb.heap.size) [] _ wa HW.out.2.2.2.1 (Nat.le_of_eq hps) ?_ HW.out.2.2.1 ⟨_,_,_,HW.out.1⟩ (fun _ _=>trivial)).mono ?_
      ·have h1:=HW.out.2.2.1.size;rw [hps] at h1;exact h1
      ·rintro e w9 ⟨rfl,⟨A9,k9,c9,hv9⟩,hb9,hk9⟩
       have hr9:RowC w9 p 68 [.slice A n c1,.slice B1 n c2,.slice D k1 c3,.slice E k2 c4]:=(hk9 p (.inl rfl)).trans HW.out.2.1
       have hbe9:=HW.out.2.2.1.trans hb9
       rw [List.nil_append] at hv9
       have H9:=Lib.hid (And.intro (hv9.weak (K':=fun b=>b=p) fun b h=>.inl h) (And.intro hr9 hbe9));clear hv9 hr9 hbe9 hb9 hk9
       go_wp2_with fail
       go_roundg (2 * n - (pos + 1))
       case measure=>have:=HQ.out.2.2.2.2.1;have:=HQ.out.2.2.2.2.2.1;have:=HQ.out.2.2.2.2.2.2.2;omega
       case rel=>exact ⟨pos + 1,k9,c9,A9,_,by omega,(show Aside _ from ⟨H9.out.1,H9.out.2.1,H9.out.2.2,HQ.out.2.1⟩)⟩)
    ·have hk0:kq=0:=by omega
     subst hk0
     have hpe:pos=S.length:=by omega
     have hfl:=hA.out.2.2.2
     rw [hpe] at hfl
     have hdn:=hfl.done (by rw [HI.out.1];exact hA.out.1.bnd)
     have rs:=hA.out.1.sc.cell 0
     have HD:=Lib.hid (And.intro hdn hpe);clear hdn hfl hpe hkq hsz hple hpos
     go_wp2_with fail
     go_ret
     exact ⟨p + 1,S,rfl,by omega,hA.out.1.map,hA.out.1.nd,HD.out.1,hA.out.1.bnd,by rw [hps];exact hA.out.2.2.1⟩
end Go.Proofs.YtgbmnlmnhbkdbaaGreat
