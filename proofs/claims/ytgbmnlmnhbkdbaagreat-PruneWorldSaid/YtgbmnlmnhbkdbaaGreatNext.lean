/- sep's view.next, walked over a contract of the function that it calls. Conditions: the view and the state within Go's bound. -/
import Derived.Test.YtgbmnlmnhbkdbaaGreatLook
import Derived.Test.YtgbmnlmnhbkdbaaGreatJ7
import Derived.Test.YtgbmnlmnhbkdbaaGreatJ4
import Derived.Shelf.Abstract
set_option linter.unusedVariables false
set_option linter.unusedSimpArgs false
namespace Go.Proofs.YtgbmnlmnhbkdbaaGreat
open Go.RowKit

def zB (Z:List Int) (p:Nat):Bool:=decide ((p:Int) ∈ Z)
noncomputable def aB (G:List (List Nat)) (Z:List Int) (p:Nat):Bool:=decide ((p:Int) ∈ castL (upList G (Z.map Int.toNat)))
noncomputable def nextL (G:List (List Nat)) (Z:List Int) (s:St):List St:=
 if (s.2 && zB Z s.1)=true then [] else (if (s.2 || aB G Z s.1)=true then (nth G s.1).map (fun p=>(p,true)) else []) ++ (if zB Z s.1=true then [] else (nth (kids G) s.1).map (fun p=>(p,false)))
theorem View.below {w w':World} {G:List (List Nat)} {Z:List Int} {A B C D:Option Addr} {n k1 k2:Nat} (h:View w G Z A B C D n k1 k2) {b:Nat} (hB:w.heap.size≤b) (hb:Below b w w'):View w' G Z A B C D n k1 k2:=
 ⟨h.par.below hB hb,h.kid.below hB hb,h.giv.below hB hb,h.abv.below hB hb⟩

structure Clo (B n:Nat) (fid:Nat) (caps:Array Value) (Ok:List St→Prop) (J:(Nat→Prop)→List St→World→Prop):Prop where
 step:∀ K L s w,s.1 < n→Ok (L ++ [s])→J K L w→Calls Tryz.prog fid (#[sV s] ++ caps) w fun e w'=>e=.returned (.tuple #[])∧J K (L ++ [s]) w'∧Below B w w'∧∀ b,K b→w'.heap[b]?=w.heap[b]?
 ent:Enters Tryz.prog fid
 grow:∀ K L w w',J K L w→Below w.heap.size w w'→J (fun b=>K b ∨ (w.heap.size≤b∧b < w'.heap.size)) L w'
 weak:∀ K K' L w,J K L w→(∀ b,K' b→K b)→J K' L w
 bnd:∀ K L w b,J K L w→K b→b < w.heap.size

structure NxI (w:World) (B:Nat) (K:Nat→Prop) (J:(Nat→Prop)→List St→World→Prop) (p:Nat) (vc:List Value) (s:St) (Ls:List St) (wr:World):Prop where
 j:J (fun b=>K b ∨ (p≤b∧b < p + 2)) Ls wr
 r1:RowC wr p 68 vc
 r2:RowC wr (p + 1) 97 [.int .i64 (s.1:Int),.bool s.2]
 bel:Below B w wr
 kept:∀ b,K b→wr.heap[b]?=w.heap[b]?
 bw:B≤w.heap.size
section
variable {w wr w':World} {B n fid p:Nat} {K:Nat→Prop} {J:(Nat→Prop)→List St→World→Prop} {caps:Array Value} {Ok:List St→Prop} {vc:List Value} {s t:St} {Ls:List St}
theorem NxI.grow (C:Clo B n fid caps Ok J) (h:NxI w B K J p vc s Ls wr) (hb:Below wr.heap.size wr w'):NxI w B K J p vc s Ls w':=by
 have hpr:=h.r1.lt
 refine ⟨C.weak _ _ _ _ (C.grow _ _ _ _ h.j hb) fun b hb=>.inl hb,h.r1.below' hb,h.r2.below' hb,h.bel.trans (hb.mono (by have:=h.bel.size;have:=h.bw;omega)),fun b hk=>?_,h.bw⟩
 ·rw [← h.kept b hk]
  exact hb.block b (C.bnd _ _ _ _ h.j (.inl hk))
theorem NxI.step (h:NxI w B K J p vc s Ls wr) (hj:J (fun b=>K b ∨ (p≤b∧b < p + 2)) (Ls ++ [t]) w') (hb:Below B wr w') (hk:∀ b,(K b ∨ (p≤b∧b < p + 2))→w'.heap[b]?=wr.heap[b]?):NxI w B K J p vc s (Ls ++ [t]) w':=
 ⟨hj,by have:=h.r1;unfold RowC at this ⊢;rw [hk p (.inr ⟨Nat.le_refl _,by omega⟩)];exact this,by have:=h.r2;unfold RowC at this ⊢;rw [hk (p + 1) (.inr ⟨by omega,by omega⟩)];exact this,h.bel.trans hb,fun b hK=>(hk b (.inl hK)).trans (h.kept b hK),h.bw⟩
theorem NxI.start (C:Clo B n fid caps Ok J) {c1 c2 c3 c4 k1 k2:Nat} {A B1 D E:Option Addr} {p:Nat} {u:Bool} {L:List St} (hBw:B≤w.heap.size) (hJ:J K L w) :
 NxI w B K J w.heap.size [.slice A n c1,.slice B1 n c2,.slice D k1 c3,.slice E k2 c4] (p,u) L ((w.alloc (.cells #[.slice A n c1,.slice B1 n c2,.slice D k1 c3,.slice E k2 c4] 68)).alloc (.cells #[.int .i64 (p:Int),.bool u] 97)):=by
 have hb:Below w.heap.size w ((w.alloc (.cells #[.slice A n c1,.slice B1 n c2,.slice D k1 c3,.slice E k2 c4] 68)).alloc (.cells #[.int .i64 (p:Int),.bool u] 97)):=
  ((Below.refl _ _).alloc (Nat.le_refl _) _).alloc (by simp) _
 refine ⟨C.weak _ _ _ _ (C.grow _ _ _ _ hJ hb) fun b h=>?_,(RowC.new w 68 _).alloc _,?_,hb.mono hBw,fun b hk=>hb.block b (C.bnd _ _ _ _ hJ hk),hBw⟩
 ·rcases h with h | h
  ·exact .inl h
  ·refine .inr ⟨h.1,?_⟩
   simp
   omega
 ·have:=RowC.new (w.alloc (.cells #[.slice A n c1,.slice B1 n c2,.slice D k1 c3,.slice E k2 c4] 68)) 97 [.int .i64 (p:Int),.bool u]
  rw [show (w.alloc (.cells #[.slice A n c1,.slice B1 n c2,.slice D k1 c3,.slice E k2 c4] 68)).heap.size=w.heap.size + 1 from by simp] at this
  exact this
end
theorem map_take_snoc {α β:Type} [Inhabited α] {l:List α} {n:Nat} (hl:l.length=n) (pre:List β) (k:Nat) (h:k < n) (f:α→β):pre ++ (l.take k).map f ++ [f (nth l k)]=pre ++ (l.take (k + 1)).map f:=by
 rw [nth_eq (by omega),List.take_succ_eq_append_getElem (by omega),List.map_append,List.append_assoc];rfl
theorem take_pre {α β:Type} {l:List α} (pre:List β) (k:Nat) (f:α→β) {T:List β} (h:pre ++ l.map f <+: T):pre ++ (l.take k).map f <+: T:=by
 refine List.IsPrefix.trans ?_ h
 obtain ⟨r,hr⟩:=List.take_prefix k l
 exact ⟨r.map f,by rw [List.append_assoc,← List.map_append,hr]⟩
def NextPost (w:World) (B:Nat) (K:Nat→Prop) (J:(Nat→Prop)→List St→World→Prop) (Ls:List St) (e:Ending) (w':World):Prop:=
 e=.returned (.tuple #[])∧J K Ls w'∧Below B w w'∧∀ b,K b→w'.heap[b]?=w.heap[b]?

set_option maxRecDepth 100000 in
set_option maxHeartbeats 4000000 in
theorem next_any {B n fid:Nat} {caps:Array Value} {Ok:List St→Prop} {J:(Nat→Prop)→List St→World→Prop} (C:Clo B n fid caps Ok J) (G:List (List Nat)) (Z:List Int) (A B1 D E:Option Addr) (k1 k2 c1' c2' c3' c4':Nat)
 (s:St) (hs:s.1 < n) (hin1':∀ q,q ∈ nth G s.1→q < n) (hin2':∀ q,q ∈ nth (kids G) s.1→q < n) (K:Nat→Prop) (L:List St) (w w0:World) (hv:View w0 G Z A B1 D E n k1 k2) (hB:w0.heap.size≤B) (hBw:B≤w.heap.size) (h0:Below B w0 w) (hJ:J K L w) (hOk':∀ l,l <+: L ++ nextL G Z s→Ok l) :
 Calls Tryz.prog 79 #[.agg #[.slice A n c1',.slice B1 n c2',.slice D k1 c3',.slice E k2 c4'],sV s,.func (.func fid) #[] caps] w (NextPost w B K J (L ++ nextL G Z s)):=by
 obtain ⟨wa,hwa⟩:∃ wa:World,wa=w:=⟨_,rfl⟩
 subst hwa
 obtain ⟨p,u⟩:=s
 have hent:∀ (args:Array Value) (w:World),(callFunc fid args).run Tryz.prog w=.ok (.enter fid args) w:=C.ent
 obtain ⟨b1,o1,R1,m1,d1,rfl,hlt1,hrow1,hsl1⟩:=hv.par.row (i:=p) hs
 obtain ⟨b2,o2,R2,m2,d2,rfl,hlt2,hrow2,hsl2⟩:=hv.kid.row (i:=p) hs
 have hOk:=Lib.hid hOk'
 clear hOk'
 have hin1:∀ q,q ∈ nth G p→q < n:=hin1'
 have hin2:∀ q,q ∈ nth (kids G) p→q < n:=hin2'
 clear hin1' hin2'
 have hbig1:=hsl1.big
 have hbig2:=hsl2.big
 have HT1:=fun (pre:List St) k h f=>map_take_snoc hsl1.len pre k h f
 have HT2:=fun (pre:List St) k h f=>map_take_snoc hsl2.len pre k h f
 have HS1:=Lib.hid hsl1
 have HS2:=Lib.hid hsl2
 clear hsl1 hsl2
 have q1:(0:Int)≤(p:Nat):=by omega
 have q2:((p:Nat):Int) < (n:Nat):=by have:p < n:=hs;omega
 cases u with
 | true =>
   by_cases hz:zB Z p=true
   ·have hL:nextL G Z (p,true)=[]:=by simp [nextL,hz]
    have Hz:=Lib.hid (show decide ((p:Int) ∈ Z)=true from hz)
    have H1:=NxI.start C (c1:=c1') (c2:=c2') (c3:=c3') (c4:=c4') (A:=some ⟨b1,o1,none⟩) (B1:=some ⟨b2,o2,none⟩) (D:=D) (E:=E) (n:=n) (k1:=k1) (k2:=k2) (p:=p) (u:=true) hBw hJ
    have c0:=H1.r1.cell 0
    have c1:=H1.r1.cell 1
    have c2:=H1.r1.cell 2
    have c3:=H1.r1.cell 3
    have s0:=H1.r2.cell 0
    have s1:=H1.r2.cell 1
    go_enter Tryz.func79,Tryz.ntmps79
    have hvx:=hv.below hB (h0.trans H1.bel)
    go_wp2_with fail
    refine (has_I D k1 c3' _ _ _ hvx.giv).mono ?_
    rintro e w2 ⟨rfl,hb⟩
    have H2:=H1.grow C hb
    rw [Hz.out]
    clear hvx hb
    clear H1 c0 c1 c2 c3 s0 s1
    have c0:=H2.r1.cell 0
    have c1:=H2.r1.cell 1
    have c2:=H2.r1.cell 2
    have c3:=H2.r1.cell 3
    have s0:=H2.r2.cell 0
    have s1:=H2.r2.cell 1
    clear c0 c1 c2 c3 s0 s1
    have HE:=Lib.hid H2;clear H2
    go_wp2_with fail
    go_end0
    exact ⟨rfl,by rw [hL,List.append_nil];exact C.weak _ _ _ _ HE.out.j (fun b hb=>.inl hb),HE.out.bel,HE.out.kept⟩
   ·have hL:nextL G Z (p,true)=(nth G p).map (fun y=>(y,true)) ++ (nth (kids G) p).map (fun y=>(y,false)):=by simp [nextL,hz]
    have Hz:=Lib.hid (show decide ((p:Int) ∈ Z)=false from by simpa [zB] using hz)
    have H1:=NxI.start C (c1:=c1') (c2:=c2') (c3:=c3') (c4:=c4') (A:=some ⟨b1,o1,none⟩) (B1:=some ⟨b2,o2,none⟩) (D:=D) (E:=E) (n:=n) (k1:=k1) (k2:=k2) (p:=p) (u:=true) hBw hJ
    have c0:=H1.r1.cell 0
    have c1:=H1.r1.cell 1
    have c2:=H1.r1.cell 2
    have c3:=H1.r1.cell 3
    have s0:=H1.r2.cell 0
    have s1:=H1.r2.cell 1
    go_enter Tryz.func79,Tryz.ntmps79
    have hvx:=hv.below hB (h0.trans H1.bel)
    go_wp2_with fail
    refine (has_I D k1 c3' _ _ _ hvx.giv).mono ?_
    rintro e w2 ⟨rfl,hb⟩
    have H2:=H1.grow C hb
    rw [Hz.out]
    clear hvx hb
    clear H1 c0 c1 c2 c3 s0 s1
    have c0:=H2.r1.cell 0
    have c1:=H2.r1.cell 1
    have c2:=H2.r1.cell 2
    have c3:=H2.r1.cell 3
    have s0:=H2.r2.cell 0
    have s1:=H2.r2.cell 1
    have a0:=((keeps (h0.trans H2.bel)).1 b1 (o1 + p) (Nat.lt_of_lt_of_le hlt1 hB)).trans hrow1
    have HN:=Lib.hid H2
    clear H2
    go_wp2_with fail
    clear a0 c0 c1 c2 c3 s0 s1
    go_loopw [35] (fun i wr=>∃ k:Nat,i=.int .i64 (k:Nat)∧k≤m1∧NxI wa B K J wa.heap.size [.slice (some ⟨b1,o1,none⟩) n c1',.slice (some ⟨b2,o2,none⟩) n c2',.slice D k1 c3',.slice E k2 c4'] (p,true) (L ++ (((nth G p).take k).map fun y=>(y,true))) wr) (fun i _=>m1 - (intOf i).toNat)
    case atStart=>exact ⟨0,rfl,Nat.zero_le _,by rw [List.take_zero,List.map_nil,List.append_nil];exact HN.out⟩
    case round =>
     obtain ⟨k,rfl,hk,hI⟩:=hrel
     obtain ⟨wb,hwb⟩:∃ wb:World,wb=wr:=⟨_,rfl⟩
     subst hwb
     by_cases hkm:k < m1
     ·have hslb:=HS1.out.below hB (h0.trans hI.bel)
      obtain ⟨b3,o3,rfl,_,hc⟩:=hslb.at' (by omega)
      have g0:=hc k hkm
      have hy:nth (nth G p) k < n:=hin1 _ (nth_mem (by rw [HS1.out.len];exact hkm))
      have hsn:=HT1 (L) k hkm (fun y=>((y,true):St))
      have hok:Ok (L ++ ((nth G p).take k).map (fun y=>((y,true):St)) ++ [(nth (nth G p) k,true)]):=hOk.out _ (by rw [hsn];refine take_pre _ _ _ ?_;rw [hL];first | exact ⟨_,List.append_assoc _ _ _⟩ | exact ⟨[],List.append_nil _⟩ | exact ⟨[],(List.append_nil _).trans (List.append_assoc _ _ _)⟩)
      generalize nth (nth G p) k=y at *
      have HX:=Lib.hid (And.intro hI (And.intro hsn hy))
      have hj:=hI.j
      have HK:=Lib.hid hok
      clear hI hc hslb hsn hok
      go_wp2_with fail
      refine (C.step _ _ (y,true) _ hy HK.out hj).mono ?_
      rintro e w3 ⟨rfl,hj3,hb3,hk3⟩
      have H3:=HX.out.1.step hj3 hb3 hk3
      rw [HX.out.2.1] at H3
      have HF:=Lib.hid H3
      clear H3 hj hj3 hb3 hk3
      go_wp2_with fail
      exact ⟨⟨k + 1,by go_num,by omega,HF.out⟩,by simp [intOf];omega⟩
     ·obtain rfl:k=m1:=by omega
      rw [take_all (by rw [HS1.out.len];exact Nat.le_refl _)] at hI
      have H3:=hI
      have c0:=H3.r1.cell 0
      have c1:=H3.r1.cell 1
      have c2:=H3.r1.cell 2
      have c3:=H3.r1.cell 3
      have s0:=H3.r2.cell 0
      have s1:=H3.r2.cell 1
      have hvx:=hv.below hB (h0.trans H3.bel)
      go_wp2_with fail
      refine (has_I D k1 c3' _ _ _ hvx.giv).mono ?_
      rintro e w2 ⟨rfl,hb⟩
      have H4:=H3.grow C hb
      rw [Hz.out]
      clear hvx hb
      clear H3 c0 c1 c2 c3 s0 s1
      have c0:=H4.r1.cell 0
      have c1:=H4.r1.cell 1
      have c2:=H4.r1.cell 2
      have c3:=H4.r1.cell 3
      have s0:=H4.r2.cell 0
      have s1:=H4.r2.cell 1
      have a0:=((keeps (h0.trans H4.bel)).1 b2 (o2 + p) (Nat.lt_of_lt_of_le hlt2 hB)).trans hrow2
      have HN:=Lib.hid H4
      clear H4
      go_wp2_with fail
      clear a0 c0 c1 c2 c3 s0 s1
      go_loopw [57] (fun i wr=>∃ k:Nat,i=.int .i64 (k:Nat)∧k≤m2∧NxI wa B K J wa.heap.size [.slice (some ⟨b1,o1,none⟩) n c1',.slice (some ⟨b2,o2,none⟩) n c2',.slice D k1 c3',.slice E k2 c4'] (p,true) ((L ++ (nth G p).map fun y=>((y,true):St)) ++ (((nth (kids G) p).take k).map fun y=>(y,false))) wr) (fun i _=>m2 - (intOf i).toNat)
      case atStart=>exact ⟨0,rfl,Nat.zero_le _,by rw [List.take_zero,List.map_nil,List.append_nil];exact HN.out⟩
      case round =>
       obtain ⟨k,rfl,hk,hI⟩:=hrel
       obtain ⟨wb,hwb⟩:∃ wb:World,wb=wr:=⟨_,rfl⟩
       subst hwb
       by_cases hkm:k < m2
       ·have hslb:=HS2.out.below hB (h0.trans hI.bel)
        obtain ⟨b3,o3,rfl,_,hc⟩:=hslb.at' (by omega)
        have g0:=hc k hkm
        have hy:nth (nth (kids G) p) k < n:=hin2 _ (nth_mem (by rw [HS2.out.len];exact hkm))
        have hsn:=HT2 ((L ++ (nth G p).map fun y=>((y,true):St))) k hkm (fun y=>((y,false):St))
        have hok:Ok ((L ++ (nth G p).map fun y=>((y,true):St)) ++ ((nth (kids G) p).take k).map (fun y=>((y,false):St)) ++ [(nth (nth (kids G) p) k,false)]):=hOk.out _ (by rw [hsn];refine take_pre _ _ _ ?_;rw [hL];first | exact ⟨_,List.append_assoc _ _ _⟩ | exact ⟨[],List.append_nil _⟩ | exact ⟨[],(List.append_nil _).trans (List.append_assoc _ _ _)⟩)
        generalize nth (nth (kids G) p) k=y at *
        have HX:=Lib.hid (And.intro hI (And.intro hsn hy))
        have hj:=hI.j
        have HK:=Lib.hid hok
        clear hI hc hslb hsn hok
        go_wp2_with fail
        refine (C.step _ _ (y,false) _ hy HK.out hj).mono ?_
        rintro e w3 ⟨rfl,hj3,hb3,hk3⟩
        have H3:=HX.out.1.step hj3 hb3 hk3
        rw [HX.out.2.1] at H3
        have HF:=Lib.hid H3
        clear H3 hj hj3 hb3 hk3
        go_wp2_with fail
        exact ⟨⟨k + 1,by go_num,by omega,HF.out⟩,by simp [intOf];omega⟩
       ·obtain rfl:k=m2:=by omega
        rw [take_all (by rw [HS2.out.len];exact Nat.le_refl _)] at hI
        have H5:=hI
        have c0:=H5.r1.cell 0
        have c1:=H5.r1.cell 1
        have c2:=H5.r1.cell 2
        have c3:=H5.r1.cell 3
        have s0:=H5.r2.cell 0
        have s1:=H5.r2.cell 1
        clear c0 c1 c2 c3 s0 s1
        have HE:=Lib.hid H5;clear H5
        go_wp2_with fail
        go_end0
        refine ⟨rfl,?_,HE.out.bel,HE.out.kept⟩
        rw [hL]
        first
         | exact C.weak _ _ _ _ HE.out.j (fun b hb=>.inl hb)
         | (rw [← List.append_assoc];exact C.weak _ _ _ _ HE.out.j (fun b hb=>.inl hb))
 | false =>
   cases hab:aB G Z p with
   | true =>
     by_cases hz:zB Z p=true
     ·have hL:nextL G Z (p,false)=(nth G p).map (fun y=>(y,true)):=by simp [nextL,hz,hab]
      have Hz:=Lib.hid (show decide ((p:Int) ∈ Z)=true from hz)
      have Ha:=Lib.hid (show decide ((p:Int) ∈ castL (upList G (Z.map Int.toNat)))=true from hab)
      have H1:=NxI.start C (c1:=c1') (c2:=c2') (c3:=c3') (c4:=c4') (A:=some ⟨b1,o1,none⟩) (B1:=some ⟨b2,o2,none⟩) (D:=D) (E:=E) (n:=n) (k1:=k1) (k2:=k2) (p:=p) (u:=false) hBw hJ
      have c0:=H1.r1.cell 0
      have c1:=H1.r1.cell 1
      have c2:=H1.r1.cell 2
      have c3:=H1.r1.cell 3
      have s0:=H1.r2.cell 0
      have s1:=H1.r2.cell 1
      go_enter Tryz.func79,Tryz.ntmps79
      have hvx:=hv.below hB (h0.trans H1.bel)
      go_wp2_with fail
      refine (has_I E k2 c4' _ _ _ hvx.abv).mono ?_
      rintro e w2 ⟨rfl,hb⟩
      have H2:=H1.grow C hb
      rw [Ha.out]
      clear hvx hb
      clear H1 c0 c1 c2 c3 s0 s1
      have c0:=H2.r1.cell 0
      have c1:=H2.r1.cell 1
      have c2:=H2.r1.cell 2
      have c3:=H2.r1.cell 3
      have s0:=H2.r2.cell 0
      have s1:=H2.r2.cell 1
      have a0:=((keeps (h0.trans H2.bel)).1 b1 (o1 + p) (Nat.lt_of_lt_of_le hlt1 hB)).trans hrow1
      have HN:=Lib.hid H2
      clear H2
      go_wp2_with fail
      clear a0 c0 c1 c2 c3 s0 s1
      go_loopw [35] (fun i wr=>∃ k:Nat,i=.int .i64 (k:Nat)∧k≤m1∧NxI wa B K J wa.heap.size [.slice (some ⟨b1,o1,none⟩) n c1',.slice (some ⟨b2,o2,none⟩) n c2',.slice D k1 c3',.slice E k2 c4'] (p,false) (L ++ (((nth G p).take k).map fun y=>(y,true))) wr) (fun i _=>m1 - (intOf i).toNat)
      case atStart=>exact ⟨0,rfl,Nat.zero_le _,by rw [List.take_zero,List.map_nil,List.append_nil];exact HN.out⟩
      case round =>
       obtain ⟨k,rfl,hk,hI⟩:=hrel
       obtain ⟨wb,hwb⟩:∃ wb:World,wb=wr:=⟨_,rfl⟩
       subst hwb
       by_cases hkm:k < m1
       ·have hslb:=HS1.out.below hB (h0.trans hI.bel)
        obtain ⟨b3,o3,rfl,_,hc⟩:=hslb.at' (by omega)
        have g0:=hc k hkm
        have hy:nth (nth G p) k < n:=hin1 _ (nth_mem (by rw [HS1.out.len];exact hkm))
        have hsn:=HT1 (L) k hkm (fun y=>((y,true):St))
        have hok:Ok (L ++ ((nth G p).take k).map (fun y=>((y,true):St)) ++ [(nth (nth G p) k,true)]):=hOk.out _ (by rw [hsn];refine take_pre _ _ _ ?_;rw [hL];first | exact ⟨_,List.append_assoc _ _ _⟩ | exact ⟨[],List.append_nil _⟩ | exact ⟨[],(List.append_nil _).trans (List.append_assoc _ _ _)⟩)
        generalize nth (nth G p) k=y at *
        have HX:=Lib.hid (And.intro hI (And.intro hsn hy))
        have hj:=hI.j
        have HK:=Lib.hid hok
        clear hI hc hslb hsn hok
        go_wp2_with fail
        refine (C.step _ _ (y,true) _ hy HK.out hj).mono ?_
        rintro e w3 ⟨rfl,hj3,hb3,hk3⟩
        have H3:=HX.out.1.step hj3 hb3 hk3
        rw [HX.out.2.1] at H3
        have HF:=Lib.hid H3
        clear H3 hj hj3 hb3 hk3
        go_wp2_with fail
        exact ⟨⟨k + 1,by go_num,by omega,HF.out⟩,by simp [intOf];omega⟩
       ·obtain rfl:k=m1:=by omega
        rw [take_all (by rw [HS1.out.len];exact Nat.le_refl _)] at hI
        have H3:=hI
        have c0:=H3.r1.cell 0
        have c1:=H3.r1.cell 1
        have c2:=H3.r1.cell 2
        have c3:=H3.r1.cell 3
        have s0:=H3.r2.cell 0
        have s1:=H3.r2.cell 1
        have hvx:=hv.below hB (h0.trans H3.bel)
        go_wp2_with fail
        refine (has_I D k1 c3' _ _ _ hvx.giv).mono ?_
        rintro e w2 ⟨rfl,hb⟩
        have H4:=H3.grow C hb
        rw [Hz.out]
        clear hvx hb
        clear H3 c0 c1 c2 c3 s0 s1
        have c0:=H4.r1.cell 0
        have c1:=H4.r1.cell 1
        have c2:=H4.r1.cell 2
        have c3:=H4.r1.cell 3
        have s0:=H4.r2.cell 0
        have s1:=H4.r2.cell 1
        clear c0 c1 c2 c3 s0 s1
        have HE:=Lib.hid H4;clear H4
        go_wp2_with fail
        go_end0
        refine ⟨rfl,?_,HE.out.bel,HE.out.kept⟩
        rw [hL]
        first
         | exact C.weak _ _ _ _ HE.out.j (fun b hb=>.inl hb)
         | (rw [← List.append_assoc];exact C.weak _ _ _ _ HE.out.j (fun b hb=>.inl hb))
     ·have hL:nextL G Z (p,false)=(nth G p).map (fun y=>(y,true)) ++ (nth (kids G) p).map (fun y=>(y,false)):=by simp [nextL,hz,hab]
      have Hz:=Lib.hid (show decide ((p:Int) ∈ Z)=false from by simpa [zB] using hz)
      have Ha:=Lib.hid (show decide ((p:Int) ∈ castL (upList G (Z.map Int.toNat)))=true from hab)
      have H1:=NxI.start C (c1:=c1') (c2:=c2') (c3:=c3') (c4:=c4') (A:=some ⟨b1,o1,none⟩) (B1:=some ⟨b2,o2,none⟩) (D:=D) (E:=E) (n:=n) (k1:=k1) (k2:=k2) (p:=p) (u:=false) hBw hJ
      have c0:=H1.r1.cell 0
      have c1:=H1.r1.cell 1
      have c2:=H1.r1.cell 2
      have c3:=H1.r1.cell 3
      have s0:=H1.r2.cell 0
      have s1:=H1.r2.cell 1
      go_enter Tryz.func79,Tryz.ntmps79
      have hvx:=hv.below hB (h0.trans H1.bel)
      go_wp2_with fail
      refine (has_I E k2 c4' _ _ _ hvx.abv).mono ?_
      rintro e w2 ⟨rfl,hb⟩
      have H2:=H1.grow C hb
      rw [Ha.out]
      clear hvx hb
      clear H1 c0 c1 c2 c3 s0 s1
      have c0:=H2.r1.cell 0
      have c1:=H2.r1.cell 1
      have c2:=H2.r1.cell 2
      have c3:=H2.r1.cell 3
      have s0:=H2.r2.cell 0
      have s1:=H2.r2.cell 1
      have a0:=((keeps (h0.trans H2.bel)).1 b1 (o1 + p) (Nat.lt_of_lt_of_le hlt1 hB)).trans hrow1
      have HN:=Lib.hid H2
      clear H2
      go_wp2_with fail
      clear a0 c0 c1 c2 c3 s0 s1
      go_loopw [35] (fun i wr=>∃ k:Nat,i=.int .i64 (k:Nat)∧k≤m1∧NxI wa B K J wa.heap.size [.slice (some ⟨b1,o1,none⟩) n c1',.slice (some ⟨b2,o2,none⟩) n c2',.slice D k1 c3',.slice E k2 c4'] (p,false) (L ++ (((nth G p).take k).map fun y=>(y,true))) wr) (fun i _=>m1 - (intOf i).toNat)
      case atStart=>exact ⟨0,rfl,Nat.zero_le _,by rw [List.take_zero,List.map_nil,List.append_nil];exact HN.out⟩
      case round =>
       obtain ⟨k,rfl,hk,hI⟩:=hrel
       obtain ⟨wb,hwb⟩:∃ wb:World,wb=wr:=⟨_,rfl⟩
       subst hwb
       by_cases hkm:k < m1
       ·have hslb:=HS1.out.below hB (h0.trans hI.bel)
        obtain ⟨b3,o3,rfl,_,hc⟩:=hslb.at' (by omega)
        have g0:=hc k hkm
        have hy:nth (nth G p) k < n:=hin1 _ (nth_mem (by rw [HS1.out.len];exact hkm))
        have hsn:=HT1 (L) k hkm (fun y=>((y,true):St))
        have hok:Ok (L ++ ((nth G p).take k).map (fun y=>((y,true):St)) ++ [(nth (nth G p) k,true)]):=hOk.out _ (by rw [hsn];refine take_pre _ _ _ ?_;rw [hL];first | exact ⟨_,List.append_assoc _ _ _⟩ | exact ⟨[],List.append_nil _⟩ | exact ⟨[],(List.append_nil _).trans (List.append_assoc _ _ _)⟩)
        generalize nth (nth G p) k=y at *
        have HX:=Lib.hid (And.intro hI (And.intro hsn hy))
        have hj:=hI.j
        have HK:=Lib.hid hok
        clear hI hc hslb hsn hok
        go_wp2_with fail
        refine (C.step _ _ (y,true) _ hy HK.out hj).mono ?_
        rintro e w3 ⟨rfl,hj3,hb3,hk3⟩
        have H3:=HX.out.1.step hj3 hb3 hk3
        rw [HX.out.2.1] at H3
        have HF:=Lib.hid H3
        clear H3 hj hj3 hb3 hk3
        go_wp2_with fail
        exact ⟨⟨k + 1,by go_num,by omega,HF.out⟩,by simp [intOf];omega⟩
       ·obtain rfl:k=m1:=by omega
        rw [take_all (by rw [HS1.out.len];exact Nat.le_refl _)] at hI
        have H3:=hI
        have c0:=H3.r1.cell 0
        have c1:=H3.r1.cell 1
        have c2:=H3.r1.cell 2
        have c3:=H3.r1.cell 3
        have s0:=H3.r2.cell 0
        have s1:=H3.r2.cell 1
        have hvx:=hv.below hB (h0.trans H3.bel)
        go_wp2_with fail
        refine (has_I D k1 c3' _ _ _ hvx.giv).mono ?_
        rintro e w2 ⟨rfl,hb⟩
        have H4:=H3.grow C hb
        rw [Hz.out]
        clear hvx hb
        clear H3 c0 c1 c2 c3 s0 s1
        have c0:=H4.r1.cell 0
        have c1:=H4.r1.cell 1
        have c2:=H4.r1.cell 2
        have c3:=H4.r1.cell 3
        have s0:=H4.r2.cell 0
        have s1:=H4.r2.cell 1
        have a0:=((keeps (h0.trans H4.bel)).1 b2 (o2 + p) (Nat.lt_of_lt_of_le hlt2 hB)).trans hrow2
        have HN:=Lib.hid H4
        clear H4
        go_wp2_with fail
        clear a0 c0 c1 c2 c3 s0 s1
        go_loopw [57] (fun i wr=>∃ k:Nat,i=.int .i64 (k:Nat)∧k≤m2∧NxI wa B K J wa.heap.size [.slice (some ⟨b1,o1,none⟩) n c1',.slice (some ⟨b2,o2,none⟩) n c2',.slice D k1 c3',.slice E k2 c4'] (p,false) ((L ++ (nth G p).map fun y=>((y,true):St)) ++ (((nth (kids G) p).take k).map fun y=>(y,false))) wr) (fun i _=>m2 - (intOf i).toNat)
        case atStart=>exact ⟨0,rfl,Nat.zero_le _,by rw [List.take_zero,List.map_nil,List.append_nil];exact HN.out⟩
        case round =>
         obtain ⟨k,rfl,hk,hI⟩:=hrel
         obtain ⟨wb,hwb⟩:∃ wb:World,wb=wr:=⟨_,rfl⟩
         subst hwb
         by_cases hkm:k < m2
         ·have hslb:=HS2.out.below hB (h0.trans hI.bel)
          obtain ⟨b3,o3,rfl,_,hc⟩:=hslb.at' (by omega)
          have g0:=hc k hkm
          have hy:nth (nth (kids G) p) k < n:=hin2 _ (nth_mem (by rw [HS2.out.len];exact hkm))
          have hsn:=HT2 ((L ++ (nth G p).map fun y=>((y,true):St))) k hkm (fun y=>((y,false):St))
          have hok:Ok ((L ++ (nth G p).map fun y=>((y,true):St)) ++ ((nth (kids G) p).take k).map (fun y=>((y,false):St)) ++ [(nth (nth (kids G) p) k,false)]):=hOk.out _ (by rw [hsn];refine take_pre _ _ _ ?_;rw [hL];first | exact ⟨_,List.append_assoc _ _ _⟩ | exact ⟨[],List.append_nil _⟩ | exact ⟨[],(List.append_nil _).trans (List.append_assoc _ _ _)⟩)
          generalize nth (nth (kids G) p) k=y at *
          have HX:=Lib.hid (And.intro hI (And.intro hsn hy))
          have hj:=hI.j
          have HK:=Lib.hid hok
          clear hI hc hslb hsn hok
          go_wp2_with fail
          refine (C.step _ _ (y,false) _ hy HK.out hj).mono ?_
          rintro e w3 ⟨rfl,hj3,hb3,hk3⟩
          have H3:=HX.out.1.step hj3 hb3 hk3
          rw [HX.out.2.1] at H3
          have HF:=Lib.hid H3
          clear H3 hj hj3 hb3 hk3
          go_wp2_with fail
          exact ⟨⟨k + 1,by go_num,by omega,HF.out⟩,by simp [intOf];omega⟩
         ·obtain rfl:k=m2:=by omega
          rw [take_all (by rw [HS2.out.len];exact Nat.le_refl _)] at hI
          have H5:=hI
          have c0:=H5.r1.cell 0
          have c1:=H5.r1.cell 1
          have c2:=H5.r1.cell 2
          have c3:=H5.r1.cell 3
          have s0:=H5.r2.cell 0
          have s1:=H5.r2.cell 1
          clear c0 c1 c2 c3 s0 s1
          have HE:=Lib.hid H5;clear H5
          go_wp2_with fail
          go_end0
          refine ⟨rfl,?_,HE.out.bel,HE.out.kept⟩
          rw [hL]
          first
           | exact C.weak _ _ _ _ HE.out.j (fun b hb=>.inl hb)
           | (rw [← List.append_assoc];exact C.weak _ _ _ _ HE.out.j (fun b hb=>.inl hb))
   | false =>
     by_cases hz:zB Z p=true
     ·have hL:nextL G Z (p,false)=[]:=by simp [nextL,hz,hab]
      have Hz:=Lib.hid (show decide ((p:Int) ∈ Z)=true from hz)
      have Ha:=Lib.hid (show decide ((p:Int) ∈ castL (upList G (Z.map Int.toNat)))=false from hab)
      have H1:=NxI.start C (c1:=c1') (c2:=c2') (c3:=c3') (c4:=c4') (A:=some ⟨b1,o1,none⟩) (B1:=some ⟨b2,o2,none⟩) (D:=D) (E:=E) (n:=n) (k1:=k1) (k2:=k2) (p:=p) (u:=false) hBw hJ
      have c0:=H1.r1.cell 0
      have c1:=H1.r1.cell 1
      have c2:=H1.r1.cell 2
      have c3:=H1.r1.cell 3
      have s0:=H1.r2.cell 0
      have s1:=H1.r2.cell 1
      go_enter Tryz.func79,Tryz.ntmps79
      have hvx:=hv.below hB (h0.trans H1.bel)
      go_wp2_with fail
      refine (has_I E k2 c4' _ _ _ hvx.abv).mono ?_
      rintro e w2 ⟨rfl,hb⟩
      have H2:=H1.grow C hb
      rw [Ha.out]
      clear hvx hb
      clear H1 c0 c1 c2 c3 s0 s1
      have c0:=H2.r1.cell 0
      have c1:=H2.r1.cell 1
      have c2:=H2.r1.cell 2
      have c3:=H2.r1.cell 3
      have s0:=H2.r2.cell 0
      have s1:=H2.r2.cell 1
      have hvx:=hv.below hB (h0.trans H2.bel)
      go_wp2_with fail
      refine (has_I D k1 c3' _ _ _ hvx.giv).mono ?_
      rintro e w2 ⟨rfl,hb⟩
      have H4:=H2.grow C hb
      rw [Hz.out]
      clear hvx hb
      clear H2 c0 c1 c2 c3 s0 s1
      have c0:=H4.r1.cell 0
      have c1:=H4.r1.cell 1
      have c2:=H4.r1.cell 2
      have c3:=H4.r1.cell 3
      have s0:=H4.r2.cell 0
      have s1:=H4.r2.cell 1
      clear c0 c1 c2 c3 s0 s1
      have HE:=Lib.hid H4;clear H4
      go_wp2_with fail
      go_end0
      exact ⟨rfl,by rw [hL,List.append_nil];exact C.weak _ _ _ _ HE.out.j (fun b hb=>.inl hb),HE.out.bel,HE.out.kept⟩
     ·have hL:nextL G Z (p,false)=(nth (kids G) p).map (fun y=>(y,false)):=by simp [nextL,hz,hab]
      have Hz:=Lib.hid (show decide ((p:Int) ∈ Z)=false from by simpa [zB] using hz)
      have Ha:=Lib.hid (show decide ((p:Int) ∈ castL (upList G (Z.map Int.toNat)))=false from hab)
      have H1:=NxI.start C (c1:=c1') (c2:=c2') (c3:=c3') (c4:=c4') (A:=some ⟨b1,o1,none⟩) (B1:=some ⟨b2,o2,none⟩) (D:=D) (E:=E) (n:=n) (k1:=k1) (k2:=k2) (p:=p) (u:=false) hBw hJ
      have c0:=H1.r1.cell 0
      have c1:=H1.r1.cell 1
      have c2:=H1.r1.cell 2
      have c3:=H1.r1.cell 3
      have s0:=H1.r2.cell 0
      have s1:=H1.r2.cell 1
      go_enter Tryz.func79,Tryz.ntmps79
      have hvx:=hv.below hB (h0.trans H1.bel)
      go_wp2_with fail
      refine (has_I E k2 c4' _ _ _ hvx.abv).mono ?_
      rintro e w2 ⟨rfl,hb⟩
      have H2:=H1.grow C hb
      rw [Ha.out]
      clear hvx hb
      clear H1 c0 c1 c2 c3 s0 s1
      have c0:=H2.r1.cell 0
      have c1:=H2.r1.cell 1
      have c2:=H2.r1.cell 2
      have c3:=H2.r1.cell 3
      have s0:=H2.r2.cell 0
      have s1:=H2.r2.cell 1
      have hvx:=hv.below hB (h0.trans H2.bel)
      go_wp2_with fail
      refine (has_I D k1 c3' _ _ _ hvx.giv).mono ?_
      rintro e w2 ⟨rfl,hb⟩
      have H4:=H2.grow C hb
      rw [Hz.out]
      clear hvx hb
      clear H2 c0 c1 c2 c3 s0 s1
      have c0:=H4.r1.cell 0
      have c1:=H4.r1.cell 1
      have c2:=H4.r1.cell 2
      have c3:=H4.r1.cell 3
      have s0:=H4.r2.cell 0
      have s1:=H4.r2.cell 1
      have a0:=((keeps (h0.trans H4.bel)).1 b2 (o2 + p) (Nat.lt_of_lt_of_le hlt2 hB)).trans hrow2
      have HN:=Lib.hid H4
      clear H4
      go_wp2_with fail
      clear a0 c0 c1 c2 c3 s0 s1
      go_loopw [57] (fun i wr=>∃ k:Nat,i=.int .i64 (k:Nat)∧k≤m2∧NxI wa B K J wa.heap.size [.slice (some ⟨b1,o1,none⟩) n c1',.slice (some ⟨b2,o2,none⟩) n c2',.slice D k1 c3',.slice E k2 c4'] (p,false) (L ++ (((nth (kids G) p).take k).map fun y=>(y,false))) wr) (fun i _=>m2 - (intOf i).toNat)
      case atStart=>exact ⟨0,rfl,Nat.zero_le _,by rw [List.take_zero,List.map_nil,List.append_nil];exact HN.out⟩
      case round =>
       obtain ⟨k,rfl,hk,hI⟩:=hrel
       obtain ⟨wb,hwb⟩:∃ wb:World,wb=wr:=⟨_,rfl⟩
       subst hwb
       by_cases hkm:k < m2
       ·have hslb:=HS2.out.below hB (h0.trans hI.bel)
        obtain ⟨b3,o3,rfl,_,hc⟩:=hslb.at' (by omega)
        have g0:=hc k hkm
        have hy:nth (nth (kids G) p) k < n:=hin2 _ (nth_mem (by rw [HS2.out.len];exact hkm))
        have hsn:=HT2 (L) k hkm (fun y=>((y,false):St))
        have hok:Ok (L ++ ((nth (kids G) p).take k).map (fun y=>((y,false):St)) ++ [(nth (nth (kids G) p) k,false)]):=hOk.out _ (by rw [hsn];refine take_pre _ _ _ ?_;rw [hL];first | exact ⟨_,List.append_assoc _ _ _⟩ | exact ⟨[],List.append_nil _⟩ | exact ⟨[],(List.append_nil _).trans (List.append_assoc _ _ _)⟩)
        generalize nth (nth (kids G) p) k=y at *
        have HX:=Lib.hid (And.intro hI (And.intro hsn hy))
        have hj:=hI.j
        have HK:=Lib.hid hok
        clear hI hc hslb hsn hok
        go_wp2_with fail
        refine (C.step _ _ (y,false) _ hy HK.out hj).mono ?_
        rintro e w3 ⟨rfl,hj3,hb3,hk3⟩
        have H3:=HX.out.1.step hj3 hb3 hk3
        rw [HX.out.2.1] at H3
        have HF:=Lib.hid H3
        clear H3 hj hj3 hb3 hk3
        go_wp2_with fail
        exact ⟨⟨k + 1,by go_num,by omega,HF.out⟩,by simp [intOf];omega⟩
       ·obtain rfl:k=m2:=by omega
        rw [take_all (by rw [HS2.out.len];exact Nat.le_refl _)] at hI
        have H5:=hI
        have c0:=H5.r1.cell 0
        have c1:=H5.r1.cell 1
        have c2:=H5.r1.cell 2
        have c3:=H5.r1.cell 3
        have s0:=H5.r2.cell 0
        have s1:=H5.r2.cell 1
        clear c0 c1 c2 c3 s0 s1
        have HE:=Lib.hid H5;clear H5
        go_wp2_with fail
        go_end0
        refine ⟨rfl,?_,HE.out.bel,HE.out.kept⟩
        rw [hL]
        first
         | exact C.weak _ _ _ _ HE.out.j (fun b hb=>.inl hb)
         | (rw [← List.append_assoc];exact C.weak _ _ _ _ HE.out.j (fun b hb=>.inl hb))
end Go.Proofs.YtgbmnlmnhbkdbaaGreat
