/- prune.Kept, walked: the points whose tables a question needs, or the error. Conditions: the parents and the points read, few. -/
import Derived.Test.YtgbmnlmnhbkdbaaGreatKeptClo
set_option linter.unusedVariables false
set_option linter.unusedSimpArgs false
namespace Go.Proofs.YtgbmnlmnhbkdbaaGreat
open Go.RowKit

abbrev Lf:=Nat × Array Value × (Nat→Bool)
abbrev eF:Lf→Value:=fun x=>.func (.func x.1) #[] x.2.1
theorem eiFns:EI Tryz.prog 49 51 .nilFunc 8:=.mk' Tryz.underlying49 (by kernel_rfl) rfl (by omega)
def Leaf (n B:Nat) (x:Lf) (w:World):Prop:=Enters Tryz.prog x.1∧∀ (w':World) (v:Nat),v < n→Below B w w'→Calls Tryz.prog x.1 (#[.int .i64 (v:Int)] ++ x.2.1) w' fun e w''=>e=.returned (.bool (x.2.2 v))∧Below w'.heap.size w' w''
theorem Leaf.below {n B:Nat} {x:Lf} {w w':World} (h:Leaf n B x w) (hb:Below B w w'):Leaf n B x w':=⟨h.1,fun w2 v hv h2=>h.2 w2 v hv (hb.trans h2)⟩
theorem Leaf.mono {n B B':Nat} {x:Lf} {w:World} (h:Leaf n B x w) (hB:B≤B'):Leaf n B' x w:=⟨h.1,fun w2 v hv h2=>h.2 w2 v hv (h2.mono hB)⟩
theorem Leaf.one {n:Nat} {sb mb cnt:Nat} {l:List Int} {w:World} (h:K1 sb mb cnt l w) (hn:n≤1000):Leaf n w.heap.size (19,#[.pointer (some ⟨sb,0,none⟩)],fun v=>decide ((v:Int) ∈ l)) w:=
 ⟨enters_of Tryz.func19 (by kernel_rfl) rfl,fun w' v hv hb=>(clo1_any sb mb cnt l (v:Int) w' (h.below hb) (WalkArith.wf_i64 (by omega))).mono fun e w'' ⟨h1,h2⟩=>⟨by rw [h1];show _=Ending.returned (.bool (decide ((v:Int) ∈ l)));congr 2;rw [Bool.eq_iff_iff,List.contains_iff_mem,decide_eq_true_iff],by rw [← h2];exact Below.refl _ _⟩⟩
theorem Leaf.two {w0:World} {rb wb nb ob gb cw:Nat} {Ps:List (List Int)} {op gv:List Int} {vs:List (Option Addr × Nat × Nat)} {rest:List Value} {O C:Option Addr} {ko co m2 d2:Nat} {w:World} (h:K2 w0 rb wb nb ob gb cw Ps op gv vs rest O C ko co m2 d2 w)
 (hn:Ps.length≤1000) (hrow:∀ i,i < Ps.length→(nth Ps i).length≤1000) (hk:ko≤1000) (hm:m2≤1000) :
 Leaf Ps.length w.heap.size (20,#[.pointer (some ⟨wb,0,none⟩),.pointer (some ⟨nb,0,none⟩),.pointer (some ⟨ob,0,none⟩),.pointer (some ⟨gb,0,none⟩)],fun v=>apartB (widerP Ps v) [(Ps.length:Int)] op gv) w:=
 ⟨enters_of Tryz.func20 (by kernel_rfl) rfl,fun w' v hv hb=>clo2_any w0 rb wb nb ob gb cw Ps op gv vs rest O C ko co m2 d2 v w' (h.below hb) hv hn hrow hk hm⟩
theorem K2.grown {w0:World} {rb wb nb ob gb cw:Nat} {Ps:List (List Int)} {op gv:List Int} {vs:List (Option Addr × Nat × Nat)} {rest:List Value} {O C:Option Addr} {ko co m2 d2:Nat} {w w':World} {row:Option Nat} (h:K2 w0 rb wb nb ob gb cw Ps op gv vs rest O C ko co m2 d2 w)
 (hb:Below w0.heap.size w0 w') (hg:w.grownBy w' row) (hne:∀ b,(b=rb ∨ b=wb ∨ b=nb ∨ b=ob ∨ b=gb ∨ O=some ⟨b,0,none⟩)→some b ≠ row):K2 w0 rb wb nb ob gb cw Ps op gv vs rest O C ko co m2 d2 w':=
 ⟨hb,h.hs,h.row.grown hg (hne _ (.inl rfl)),h.len,h.sub,h.o.grown hg (fun g e e2=>hne g (.inr (.inr (.inr (.inr (.inr e))))) e2.symm),h.ofar,h.g,h.wc.grown hg (hne _ (.inr (.inl rfl))),h.nc.grown hg (hne _ (.inr (.inr (.inl rfl)))),h.oc.grown hg (hne _ (.inr (.inr (.inr (.inl rfl))))),h.gc.grown hg (hne _ (.inr (.inr (.inr (.inr (.inl rfl)))))),h.n1,h.n2,h.n3,h.n4⟩
structure KLs (w1:World) (n B:Nat) (V:Option Addr) (k c:Nat) (ls:List Lf) (w:World):Prop where
 own:OwnR eF w B 51 V k c ls
 lf:∀ j,j < ls.length→Leaf n B (nth ls j) w
 bel:Below w1.heap.size w1 w
 ge:B≤w.heap.size
 le:w1.heap.size≤B
def saysL (ls:List Lf) (v:Nat):Bool:=ls.any fun x=>x.2.2 v
theorem aboveE_inv {Ps:List (List Int)} {l:List Int} (h:aboveE Ps l=0):checkP Ps=0∧InN Ps.length l:=by
 unfold aboveE at h
 split at h
 ·rename_i h1;exact absurd h h1
 ·rename_i h1
  split at h
  ·rename_i h2;exact ⟨by simpa using h1,inRow_iff.1 h2⟩
  ·omega
theorem openL_take {asked given:List Int} {t:Nat} (h:t < asked.length):openL (asked.take (t + 1)) given=openL (asked.take t) given ++ if nth asked t ∈ given then [] else [nth asked t]:=by
 unfold openL
 rw [take_snoc h,List.filter_append]
 by_cases e:nth asked t ∈ given <;> simp [e]
theorem openL_length (asked given:List Int):(openL asked given).length≤asked.length:=List.length_filter_le _ _
structure KO (wc:World) (kb cnt ob:Nat) (l:List Int) (O:Option Addr) (ko co:Nat) (op:List Int) (w:World):Prop where
 map:MapI Tryz.prog 3 3 w kb cnt (seenI l)
 oc:RowC w ob 23 [.slice O ko co]
 oo:OwnR (Value.int .i64) w (ob + 1) 3 O ko co op
 lt:kb < ob
 bel:Below kb wc w
section
variable {wc w w':World} {kb cnt ob ko co:Nat} {l op:List Int} {O:Option Addr}
theorem KO.row (h:KO wc kb cnt ob l O ko co op w) {b:Nat} (e:O=some ⟨b,0,none⟩):ob < b∧b < w.heap.size:=by
 rcases h.oo.at_row with h1 | ⟨g',h1,h2,h3⟩
 ·rw [e] at h1;cases h1
 ·rw [e] at h1;injection h1 with h1;injection h1 with h1;omega
theorem KO.own (h:KO wc kb cnt ob l O ko co op w) {b:Nat} (e:(Value.slice O ko co).ownBlock=some b):O=some ⟨b,0,none⟩:=by
 rcases h.oo.at_row with h1 | ⟨g',h1,_⟩
 ·rw [h1] at e;cases e
 ·rw [h1] at e ⊢;injection e with e;rw [← e]
theorem KO.step (h:KO wc kb cnt ob l O ko co op w) (hb:Below w.heap.size w w'):KO wc kb cnt ob l O ko co op w':=
 ⟨h.map.below hb,h.oc.below' hb,h.oo.below (Nat.le_refl _) hb,h.lt,h.bel.trans (hb.mono (Nat.le_of_lt h.map.lt))⟩
theorem KO.push (h:KO wc kb cnt ob l O ko co op w) {x:Int} {A9:Option Addr} {c9:Nat} {w9:World} {o:Obj} (ho9:OwnR (Value.int .i64) w9 (ob + 1) 3 A9 (ko + 1) c9 (op ++ [x])) (hg9:(w.alloc o).grownBy w9 (Value.slice O ko co).ownBlock) :
 RowC w9 ob 23 [.slice O ko co]∧KO wc kb cnt ob l A9 (ko + 1) c9 (op ++ [x]) (w9.setCell ⟨ob,0,none⟩ (.slice A9 (ko + 1) c9)):=by
 have hlt:=h.lt
 have hne:∀ b,b≤ob→some b ≠ (Value.slice O ko co).ownBlock:=fun b hb e=>by have:=(h.row (h.own e.symm)).1;omega
 have hm2:=(h.map.alloc o).grown hg9 (hne kb (by omega))
 have ho2:=(h.oc.alloc o).grown hg9 (hne ob (Nat.le_refl _))
 have hb2:=(h.bel.alloc (Nat.le_of_lt h.map.lt) o).grown hg9 (by have:=h.map.lt;simp;omega) (fun g e=>by have:=(h.row (h.own e)).1;omega)
 refine ⟨ho2,hm2.setCell (by simp;omega) _,ho2.put 0 _,ho9.setFar (fun b e=>?_) _,hlt,hb2.setCell (p:=⟨ob,0,none⟩) (by simp;omega) _⟩
 rcases ho9.at_row with h1 | ⟨g',h1,h2,_⟩
 ·rw [e] at h1;cases h1
 ·rw [e] at h1;injection h1 with h1;injection h1 with h1;simp;omega
end
def KeptPPost (w:World) (Ps:List (List Int)) (asked given:List Int) (br ap:Bool) (e:Ending) (w':World):Prop:=
 Below w.heap.size w w'∧∃ C k d,e=.returned (.tuple #[.slice C k d,.int .i64 (aboveE Ps (asked ++ given))])∧(aboveE Ps (asked ++ given)=0→OwnR (Value.int .i64) w' w.heap.size 3 C k d (castL (keptL Ps asked given br ap)))∧(aboveE Ps (asked ++ given) ≠ 0→C=none∧k=0∧d=0)
set_option maxRecDepth 100000 in
set_option maxHeartbeats 1600000 in
theorem kept_prune (A B C:Option Addr) (n c m1 d1 m2 d2:Nat) (Ps:List (List Int)) (asked given:List Int) (br ap:Bool) (w:World) (h:Rows (Value.int .i64) w A n Ps) (ha:Sl (Value.int .i64) w B m1 asked) (hg:Sl (Value.int .i64) w C m2 given)
 (hn:n≤1000) (hrow:∀ i,i < Ps.length→(nth Ps i).length≤1000) (hm1:m1≤1000) (hm2:m2≤1000) :
 Calls Tryz.prog 7 #[.slice A n c,.slice B m1 d1,.slice C m2 d2,.bool br,.bool ap] w (KeptPPost w Ps asked given br ap):=by
 have hlen:=h.len
 obtain ⟨wa,hwa⟩:∃ wa:World,wa=w:=⟨_,rfl⟩
 subst hwa
 have HL:=Lib.hid (And.intro hlen hrow)
 clear hlen hrow
 have h0:=h.below (Nat.le_refl _) ((Below.refl wa.heap.size wa).alloc (Nat.le_refl _) (.cells #[.slice C m2 d2] 23))
 have ha0:=ha.alloc (.cells #[.slice C m2 d2] 23)
 have hg0:=hg.alloc (.cells #[.slice C m2 d2] 23)
 have hgb:=RowC.new wa 23 [.slice C m2 d2]
 have hbx:Below wa.heap.size wa (wa.alloc (.cells #[.slice C m2 d2] 23)):=(Below.refl _ _).alloc (Nat.le_refl _) _
 have H0:=Lib.hid (And.intro h0 (And.intro ha0 (And.intro hg0 (And.intro hgb hbx))))
 clear h ha hg h0 ha0 hg0 hgb hbx
 go_enter Tryz.func7,Tryz.ntmps7
 go_wp2_with fail
 go_step3
 go_wp2_with fail
 refine (fits_prune A B C n c m1 d1 m2 d2 Ps asked given _ H0.out.1 H0.out.2.1 H0.out.2.2.1 (by omega) (by omega)).mono ?_
 rintro e w1 ⟨hb,D,k,d,rfl,hD,hD0⟩
 by_cases hf:aboveE Ps (asked ++ given)=0
 ·have hD:=hD hf
  rw [hf]
  have HF:=Lib.hid hf
  clear hf hD0
  go_upto_if 40 with fail
  have hb1:=H0.out.2.2.2.2.trans (hb.mono (by simp))
  have hz1:=hb1.size
  have HD:=Lib.hid (And.intro hD (And.intro hb1 hb))
  have hinv:=aboveE_inv HF.out
  have HI:=Lib.hid hinv
  clear hb hb1 hD hinv
  go_cut [14] from 15 to 54 (fun v wx=>∃ (B k c:Nat) (V:Option Addr) (ls:List Lf),v=.slice V k c∧k≤1∧KLs w1 n B V k c ls wx∧∀ u,u < n→saysL ls u=(br && decide (u ∈ bareL Ps (asked ++ given))))
  case first=>as_aux_lemma =>
   cases br with
   | false =>
     go_wp2_with fail
     go_meet
     case rel=>exact ⟨w1.heap.size,0,0,none,[],rfl,by omega,⟨OwnR.nil _ _ _ _,fun j hj=>(by simp at hj),Below.refl _ _,Nat.le_refl _,Nat.le_refl _⟩,fun u hu=>rfl⟩
   | true =>
     have hmm:=fun (w:World)=>run_makeMap (P:=Tryz.prog) 50 w
     have hlD:=HD.out.1.length
     have hkD:k≤n:=by
      rw [← hlD];unfold castL;rw [List.length_map];unfold bareL;rw [← HL.out.1];exact bareTo_length _ _ _
     have hsD:=HD.out.1.sl (by omega)
     have hK0:K1 (w1.heap.size + 1) w1.heap.size 0 [] ((w1.alloc (.map #[] 0)).alloc (.cells #[.map (some w1.heap.size)] 50)):=by
      refine ⟨((MapI.made w1 Tryz.prog 3 3).alloc _).congr fun x=>rfl,?_⟩
      have:=RowC.new (w1.alloc (.map #[] 0)) 50 [.map (some w1.heap.size)]
      rw [show (w1.alloc (.map #[] 0)).heap.size=w1.heap.size + 1 from by simp] at this
      exact this
     have hb0:Below w1.heap.size w1 ((w1.alloc (.map #[] 0)).alloc (.cells #[.map (some w1.heap.size)] 50)):=((Below.refl _ _).alloc (Nat.le_refl _) _).alloc (by simp) _
     have HS:=Lib.hid (And.intro hK0 (And.intro hb0 (And.intro hsD hlD)))
     clear hK0 hb0 hsD hlD
     go_wp2_with fail
     clear hmm
     generalize hmb:w1.heap.size=mb at *
     have HMB:=Lib.hid hmb
     clear hmb
     go_loopw [44] (fun i wr=>∃ t:Nat,i=.int .i64 (t:Nat)∧t≤k∧K1 (mb + 1) mb t ((castL (bareL Ps (asked ++ given))).take t) wr∧Below mb w1 wr) (fun i _=>k - (intOf i).toNat)
     case atStart=>exact ⟨0,rfl,Nat.zero_le _,by rw [List.take_zero];exact HS.out.1,HS.out.2.1⟩
     case round =>
      obtain ⟨t,rfl,ht,hK,hb⟩:=hrel
      obtain ⟨wb,hwb⟩:∃ wb:World,wb=wr:=⟨_,rfl⟩
      subst hwb
      by_cases hlt:t < k
      ·have hi1:(t:Int) < (k:Nat):=by omega
       obtain ⟨bD,oD,rfl,hbD,hc⟩:=(HS.out.2.2.1.below (Nat.le_of_eq HMB.out) hb).at' (by omega)
       have g1:=hc t hlt
       have htl:t < (castL (bareL Ps (asked ++ given))).length:=by rw [HS.out.2.2.2];exact hlt
       have hsn:=take_snoc htl
       have hx:0≤nth (castL (bareL Ps (asked ++ given))) t∧nth (castL (bareL Ps (asked ++ given))) t≤1000:=by
        have hm:=nth_mem htl
        unfold castL at hm ⊢
        obtain ⟨q,hq,e⟩:=List.mem_map.1 hm
        rw [← e]
        have:=(mem_ptsOf.1 hq).1
        have:=HL.out.1
        omega
       generalize nth (castL (bareL Ps (asked ++ given))) t=x at *
       have hwf:(Lit.int .i64 x).wf=true:=WalkArith.wf_i64 (by omega)
       have hmap:=hK.map
       have r1:=hK.sc.cell 0
       simp only [List.getElem?_cons_zero] at r1
       have HX:=Lib.hid (And.intro hK (And.intro hb hsn))
       clear hK hb hsn hc htl
       go_wp2_with (first
        | (at_mapUpdate;refine wpList_store_I _ rfl _ _ _ 50 rfl 3 3 Tryz.underlying3 Tryz.underlying50 Tryz.underlying3 mb t _ rfl hmap (by unfold maxLen;omega) _ rfl hwf 1 rfl (by decide) ?_)
        | fail)
       intro w9 hm9 hg9
       have hm9:=hm9.congr (seenI_snoc _ x)
       rw [← HX.out.2.2] at hm9
       have hs9:=HX.out.1.sc.grown hg9 (by intro e;injection e;omega)
       have hb9:=HX.out.2.1.grown hg9 (by have:=HX.out.1.map.lt;omega) (fun g e=>by cases e;exact Nat.le_refl _)
       have HN:=Lib.hid (And.intro (K1.mk hm9 hs9) hb9)
       clear hm9 hs9 hb9 hg9 g1 r1 hmap
       go_wp2_with fail
       exact ⟨⟨t + 1,by go_num,by omega,HN.out.1,HN.out.2⟩,by simp [intOf];omega⟩
      ·obtain rfl:k=t:=by omega
       rw [take_all (by rw [HS.out.2.2.2];exact Nat.le_refl _)] at hK
       have hleaf:=Leaf.one hK hn
       have hso:=Sl.one (enc:=eF) wb 51 ((19,#[.pointer (some ⟨mb + 1,0,none⟩)],fun v=>decide ((v:Int) ∈ castL (bareL Ps (asked ++ given)))):Lf)
       have hemp:OwnR eF (wb.alloc (.cells #[.func (.func 19) #[] #[.pointer (some ⟨mb + 1,0,none⟩)]] 51)) wb.heap.size 51 none 0 0 ([]:List Lf):=OwnR.nil _ _ _ _
       have hbl:mb≤wb.heap.size:=by rw [← HMB.out];exact hb.size
       have HX:=Lib.hid (And.intro hleaf hb)
       clear hK hleaf hb
       go_wp2_with (first
        | (at_builtin;refine wpList_app _ eiFns eF (fun _=>rfl) rfl _ _ rfl wb.heap.size _ _ _ _ rfl hemp _ _ _ [((19,#[.pointer (some ⟨mb + 1,0,none⟩)],fun v=>decide ((v:Int) ∈ castL (bareL Ps (asked ++ given)))):Lf)] rfl hso (by omega) (by simp) ?_)
        | fail)
       intro A9 c9 w9 ho9 _ hb9 _
       have hb9:Below wb.heap.size wb w9:=((Below.refl _ _).alloc (Nat.le_refl _) _).trans hb9
       have hz9:=hb9.size
       have HE:=Lib.hid (And.intro ho9 hb9)
       clear ho9 hb9 hso hemp
       go_wp2_with fail
       go_meet
       case rel =>
        refine ⟨wb.heap.size,1,c9,A9,_,rfl,by omega,⟨by have:=HE.out.1;simpa using this,fun j hj=>?_,?_,hz9,by rw [HMB.out];exact hbl⟩,fun u hu=>?_⟩
        ·obtain rfl:j=0:=by simp at hj;omega
         exact HX.out.1.below HE.out.2
        ·rw [HMB.out];exact HX.out.2.trans (HE.out.2.mono hbl)
        ·unfold saysL
         simp only [List.any_cons,List.any_nil,Bool.or_false,Bool.true_and]
         rw [decide_eq_decide,mem_castL]
  case rest =>
   obtain ⟨BB,k0,c0,V,ls,rfl,hk0,hK,hsay⟩:=hcut
   have hbz:=HD.out.2.2.trans (hK.bel.mono HD.out.2.2.size)
   have hb2:=H0.out.2.2.2.2.trans (hbz.mono (by simp))
   have hgbx:=H0.out.2.2.2.1.below' hbz
   have hpar:=H0.out.1.below (Nat.le_refl _) hbz
   have hask:=H0.out.2.1.below (Nat.le_refl _) hbz
   have hgiv:=H0.out.2.2.1.below (Nat.le_refl _) hbz
   have hlb:wa.heap.size + 1≤BB:=Nat.le_trans (by have:=HD.out.2.2.size;simpa using this) hK.le
   have HK:=Lib.hid (And.intro hK (And.intro hsay (And.intro hbz (And.intro hb2 (And.intro hgbx (And.intro hpar (And.intro hask (And.intro hgiv hlb))))))))
   clear hK hsay hbz hb2 hgbx hpar hask hgiv hlb
   go_upto_if 55 with fail
   go_cut [14] from 15 to 90 (fun v wx=>∃ (k c:Nat) (V:Option Addr) (ls:List Lf),v=.slice V k c∧k≤2∧OwnR eF wx 0 51 V k c ls∧(∀ j,j < ls.length→Leaf n wx.heap.size (nth ls j) wx)∧Below wa.heap.size wa wx∧∀ u,u < n→saysL ls u=leaveB Ps asked given br ap u)
   case first=>as_aux_lemma =>
    cases ap with
    | false =>
      go_wp2_with fail
      go_meet
      case rel=>exact ⟨k0,c0,V,ls,rfl,by omega,HK.out.1.own.mono (Nat.zero_le _),fun j hj=>(HK.out.1.lf j hj).mono HK.out.1.ge,HK.out.2.2.2.1,fun u hu=>by rw [HK.out.2.1 u hu];unfold leaveB;simp⟩
    | true =>
      have hmm:=fun (w:World)=>run_makeMap (P:=Tryz.prog) 50 w
      have r0:=(HK.out.2.2.2.2.1.alloc (.map #[] 0)).cell 0
      simp only [List.getElem?_cons_zero] at r0
      have hM0:=MapI.made wc Tryz.prog 3 3
      have hB0:Below wc.heap.size wc (wc.alloc (.map #[] 0)):=(Below.refl _ _).alloc (Nat.le_refl _) _
      have hgl:=HK.out.2.2.2.2.2.2.2.1.len
      have hal:=HK.out.2.2.2.2.2.2.1.len
      have HS:=Lib.hid (And.intro hM0 (And.intro hB0 (And.intro hgl hal)))
      have hwcl:=HK.out.2.2.2.1.size
      clear hM0 hB0 hgl hal
      go_wp2_with fail
      clear hmm r0
      generalize hkb:wc.heap.size=kb at *
      have HKB:=Lib.hid hkb
      clear hkb
      go_loopw [59] (fun i wr=>∃ t:Nat,i=.int .i64 (t:Nat)∧t≤m2∧MapI Tryz.prog 3 3 wr kb t (seenI (given.take t))∧Below kb wc wr) (fun i _=>m2 - (intOf i).toNat)
      case atStart=>exact ⟨0,rfl,Nat.zero_le _,HS.out.1.congr (fun x=>rfl),HS.out.2.1⟩
      case round =>
       obtain ⟨t,rfl,ht,hmap,hb⟩:=hrel
       obtain ⟨wb,hwb⟩:∃ wb:World,wb=wr:=⟨_,rfl⟩
       subst hwb
       by_cases hlt:t < m2
       ·have hi1:(t:Int) < (m2:Nat):=by omega
        obtain ⟨bC,oC,rfl,hbC,hc⟩:=(HK.out.2.2.2.2.2.2.2.1.below (Nat.le_of_eq HKB.out) hb).at' (by omega)
        have g1:=hc t hlt
        have htl:t < given.length:=by rw [HS.out.2.2.1];exact hlt
        have hsn:=take_snoc htl
        have hx:=HI.out.2 _ (List.mem_append_right asked (nth_mem htl))
        have hl1:=HL.out.1
        generalize nth given t=x at *
        have hwf:(Lit.int .i64 x).wf=true:=WalkArith.wf_i64 (by omega)
        have HX:=Lib.hid (And.intro hmap (And.intro hb hsn))
        clear hb hsn hc htl hl1 hx
        go_wp2_with (first
         | (at_mapUpdate;refine wpList_store_I _ rfl _ _ _ 50 rfl 3 3 Tryz.underlying3 Tryz.underlying50 Tryz.underlying3 kb t _ rfl hmap (by unfold maxLen;omega) _ rfl hwf 1 rfl (by decide) ?_)
         | fail)
        intro w9 hm9 hg9
        have hm9:=hm9.congr (seenI_snoc _ x)
        rw [← HX.out.2.2] at hm9
        have hb9:=HX.out.2.1.grown hg9 (by have:=HX.out.1.lt;omega) (fun g e=>by cases e;exact Nat.le_refl _)
        have HN:=Lib.hid (And.intro hm9 hb9)
        clear hm9 hb9 hg9 g1 hmap
        go_wp2_with fail
        exact ⟨⟨t + 1,by go_num,by omega,HN.out.1,HN.out.2⟩,by simp [intOf];omega⟩
       ·obtain rfl:m2=t:=by omega
        rw [take_all (by rw [HS.out.2.2.1];exact Nat.le_refl _)] at hmap
        have hko:KO wc kb m2 wb.heap.size given none 0 0 [] (wb.alloc (.cells #[.slice none 0 0] 23)):=
         ⟨hmap.alloc _,RowC.new wb 23 [.slice none 0 0],OwnR.nil _ _ _ _,hmap.lt,hb.alloc (Nat.le_of_lt hmap.lt) _⟩
        have HO:=Lib.hid hko
        have hkl:=hmap.lt
        clear hko hb hmap
        go_wp2_with fail
        generalize wb.heap.size=ob at *
        go_loopw [68] (fun i wr=>∃ (t ko co:Nat) (O:Option Addr),i=.int .i64 (t:Nat)∧t≤m1∧KO wc kb m2 ob given O ko co (openL (asked.take t) given) wr) (fun i _=>m1 - (intOf i).toNat)
        case atStart=>exact ⟨0,0,0,none,rfl,Nat.zero_le _,HO.out⟩
        case round=>as_aux_lemma =>
         obtain ⟨t,ko,co,O,rfl,ht,hO⟩:=hrel
         obtain ⟨wd,hwd⟩:∃ wd:World,wd=wr:=⟨_,rfl⟩
         subst hwd
         have hkol:ko≤t:=by
          have h1:=hO.oo.length
          have h2:=openL_length (asked.take t) given
          rw [List.length_take] at h2
          omega
         by_cases hlt:t < m1
         ·have hi1:(t:Int) < (m1:Nat):=by omega
          obtain ⟨bB,oB,rfl,hbB,hc⟩:=(HK.out.2.2.2.2.2.2.1.below (Nat.le_of_eq HKB.out) hO.bel).at' (by omega)
          have g1:=hc t hlt
          have htl:t < asked.length:=by rw [HS.out.2.2.2];exact hlt
          have hsn:=openL_take (given:=given) htl
          have hx:=HI.out.2 _ (List.mem_append_left given (nth_mem htl))
          have hl1:=HL.out.1
          generalize nth asked t=x at *
          have hwf:(Lit.int .i64 x).wf=true:=WalkArith.wf_i64 (by omega)
          have hmap:=hO.map
          have hval:=seenI_val given x
          have hbl:bB < wd.heap.size:=hbB
          by_cases hin:x ∈ given
          ·rw [if_pos hin,List.append_nil] at hsn
           rw [show given.contains x=true from by rw [List.contains_iff_mem];exact hin] at hval
           have HX:=Lib.hid (And.intro hO (And.intro hsn hval))
           clear hO hsn hval hc htl hl1 hx hin
           go_wp2_with (first
            | (at_lookup;refine wpList_look_I _ rfl _ _ 50 rfl 3 3 Tryz.underlying3 Tryz.underlying50 Tryz.underlying3 (zeroI _) kb m2 _ rfl hmap _ rfl hwf ?_;rw [HX.out.2.2])
            | fail)
           exact ⟨⟨t + 1,ko,co,O,by go_num,by omega,by rw [HX.out.2.1];exact HX.out.1⟩,by simp [intOf];omega⟩
          ·rw [if_neg hin] at hsn
           rw [show given.contains x=false from by rw [← Bool.not_eq_true,List.contains_iff_mem];exact hin] at hval
           have r2:=hO.oc.cell 0
           simp only [List.getElem?_cons_zero] at r2
           have hos:=hO.oo.alloc (.cells #[.int .i64 x] 3)
           have hol:=hO.oc.lt
           have HX:=Lib.hid (And.intro hO (And.intro hsn hval))
           clear hO hsn hval hc htl hl1 hx hin
           go_wp2_with (first
            | (at_lookup;refine wpList_look_I _ rfl _ _ 50 rfl 3 3 Tryz.underlying3 Tryz.underlying50 Tryz.underlying3 (zeroI _) kb m2 _ rfl hmap _ rfl hwf ?_;rw [HX.out.2.2])
            | (at_builtin;refine wpList_app _ eiInt (Value.int .i64) (fun _=>rfl) rfl _ _ rfl (ob + 1) _ _ _ _ rfl hos _ _ _ [x] rfl (Sl.one (enc:=Value.int .i64) _ _ _) (by omega) (by simp;omega) ?_)
            | fail)
           intro A9 c9 w9 ho9 hg9 _ _
           obtain ⟨hrc,hpush⟩:=HX.out.1.push ho9 hg9
           have r3:=hrc.cell 0
           have f3:=hrc.frozen 0
           simp only [List.getElem?_cons_zero] at r3
           have HF:=Lib.hid hpush
           clear hrc hpush ho9 hg9 r2 hos g1 hmap
           go_wp2_with fail
           exact ⟨⟨t + 1,ko + 1,c9,A9,by go_num,by omega,by rw [HX.out.2.1];exact HF.out⟩,by simp [intOf];omega⟩
         ·obtain rfl:m1=t:=by omega
          rw [take_all (by rw [HS.out.2.2.2];exact Nat.le_refl _)] at hO
          have hz0:wa.heap.size < kb:=by rw [← HKB.out];have:=HK.out.2.2.1.size;simp at this;omega
          have hkl2:=hO.lt
          have hol:=hO.oc.lt
          have hbd:Below kb wc wd:=hO.bel
          obtain ⟨⟨vs0,hvs0,hvr⟩,hvn⟩:=H0.out.1
          have hv1:=((hvs0.below (Nat.le_refl _) HK.out.2.2.1).below (Nat.le_of_eq HKB.out) hbd).alloc (.cells #[.int .i64 (n:Int)] 3)
          have hem1:OwnR eS (wd.alloc (.cells #[.int .i64 (n:Int)] 3)) (wd.heap.size + 1) 23 none 0 0 ([]:List (Option Addr × Nat × Nat)):=OwnR.nil _ _ _ _
          have hnc:=RowC.new wd 3 [.int .i64 (n:Int)]
          have HV:=Lib.hid (And.intro hvs0 (And.intro hvr (And.intro hO (And.intro hbd hnc))))
          clear hvs0 hvr hvn hO hbd hnc
          go_wp2_with (first
           | (at_builtin;refine wpList_app _ eiRows eS one_eS rfl _ _ rfl (wd.heap.size + 1) _ _ _ _ rfl hem1 _ _ _ _ rfl hv1 (by omega) (by simp) ?_)
           | fail)
          intro A5 c5 w5 ho5 _ hb5 _
          try rw [List.nil_append] at ho5
          try simp only [Nat.zero_add] at ho5
          try simp only [Nat.zero_add]
          have hz5:wd.heap.size + 1≤w5.heap.size:=by have:=hb5.size;simpa using this
          have hl5:=Sl.one (enc:=eS) w5 23 (none,0,0)
          have ho5a:=ho5.alloc (.cells #[eS (none,0,0)] 23)
          have HB5:=Lib.hid hb5
          clear hb5 ho5 hv1 hem1
          go_wp2_with (first
           | (at_builtin;refine wpList_app _ eiRows eS one_eS rfl _ _ rfl (wd.heap.size + 1) _ _ _ _ rfl ho5a _ _ _ [(none,0,0)] rfl hl5 (by omega) (by simp;omega) ?_)
           | fail)
          intro A6 c6 w6 ho6 _ hb6 _
          have hb6:Below (wd.heap.size + 1) (wd.alloc (.cells #[.int .i64 (n:Int)] 3)) w6:=(HB5.out.alloc hz5 _).trans hb6
          have hz6:wd.heap.size + 1≤w6.heap.size:=by have:=hb6.size;simpa using this
          obtain ⟨rb,rest,rfl,hrb,hrw,_⟩:=ho6.row (by omega)
          have hrl:=hrw.lt
          have hcw:=ho6.cap
          have hbdx:Below wd.heap.size wd (w6.alloc (.cells #[.slice (some ⟨rb,0,none⟩) (n + 1) c6] 22)):=(((Below.refl _ _).alloc (Nat.le_refl _) _).trans (hb6.mono (by omega))).alloc (by omega) _
          have hO6:=HV.out.2.2.1.step hbdx
          have hbc6:Below kb wc (w6.alloc (.cells #[.slice (some ⟨rb,0,none⟩) (n + 1) c6] 22)):=hO6.bel
          have hbz6:=HK.out.2.2.1.trans (hbc6.mono (by simp;omega))
          have hK2:K2 (wa.alloc (.cells #[.slice C m2 d2] 23)) rb w6.heap.size wd.heap.size ob wa.heap.size c6 Ps (openL asked given) given (vs0 ++ [(none,0,0)]) rest O C ko co m2 d2 (w6.alloc (.cells #[.slice (some ⟨rb,0,none⟩) (n + 1) c6] 22)):=by
           have hl1:=HL.out.1
           refine ⟨hbz6,by simp;omega,hrw.alloc _,by rw [List.length_append,List.length_singleton,HV.out.1.len,hl1],fun i hi=>?_,hO6.oo.mono (Nat.zero_le _),fun g e=>?_,H0.out.2.2.1,?_,?_,hO6.oc,H0.out.2.2.2.1.below' hbz6,by omega,by omega,by omega,by omega⟩
           ·have hvl:=HV.out.1.len
            rcases Nat.lt_or_ge i n with h1 | h1
            ·rw [nth_append_left (by rw [hvl];exact h1),nth_append_left (by rw [hl1];exact h1)]
             exact HV.out.2.1 i h1
            ·obtain rfl:i=n:=by omega
             rw [nth_append_right (by rw [hvl];exact Nat.le_refl _),nth_append_right (by rw [hl1];exact Nat.le_refl _),hvl,hl1,Nat.sub_self]
             exact ⟨Sl.nil _ _ _,Nat.le_refl _⟩
           ·have:=(HV.out.2.2.1.row e).2;omega
           ·rw [hl1];exact RowC.new w6 22 [.slice (some ⟨rb,0,none⟩) (n + 1) c6]
           ·rw [hl1];exact (HV.out.2.2.2.2.below hb6 (by omega)).alloc _
          have hHK:=HK.out.1
          have hown:=(hHK.own.below (Nat.le_of_eq HKB.out) hbc6).alloc (.cells #[.func (.func 20) #[] #[.pointer (some ⟨w6.heap.size,0,none⟩),.pointer (some ⟨wd.heap.size,0,none⟩),.pointer (some ⟨ob,0,none⟩),.pointer (some ⟨wa.heap.size,0,none⟩)]] 51)
          have hlit:=Sl.one (enc:=eF) (w6.alloc (.cells #[.slice (some ⟨rb,0,none⟩) (n + 1) c6] 22)) 51 ((20,#[.pointer (some ⟨w6.heap.size,0,none⟩),.pointer (some ⟨wd.heap.size,0,none⟩),.pointer (some ⟨ob,0,none⟩),.pointer (some ⟨wa.heap.size,0,none⟩)],fun v=>apartB (widerP Ps v) [(Ps.length:Int)] (openL asked given) given):Lf)
          rw [alloc_size] at hlit
          have hge:BB≤kb:=by rw [← HKB.out];exact hHK.ge
          have hbase:BB≤((w6.alloc (.cells #[.slice (some ⟨rb,0,none⟩) (n + 1) c6] 22)).alloc (.cells #[.func (.func 20) #[] #[.pointer (some ⟨w6.heap.size,0,none⟩),.pointer (some ⟨wd.heap.size,0,none⟩),.pointer (some ⟨ob,0,none⟩),.pointer (some ⟨wa.heap.size,0,none⟩)]] 51)).heap.size:=by simp;omega
          have hk8:(k0 + 1) * 8≤140737488355328:=by omega
          have HX:=Lib.hid (And.intro hK2 (And.intro hbc6 hbz6))
          clear hK2 hbc6 hbz6 hO6 hbdx hHK hb6 hl5 ho5a ho6 hrw
          go_wp2_with (first
           | (at_builtin;refine wpList_app _ eiFns eF (fun _=>rfl) rfl _ _ rfl BB _ _ _ _ rfl hown _ _ _ [((20,#[.pointer (some ⟨w6.heap.size,0,none⟩),.pointer (some ⟨wd.heap.size,0,none⟩),.pointer (some ⟨ob,0,none⟩),.pointer (some ⟨wa.heap.size,0,none⟩)],fun v=>apartB (widerP Ps v) [(Ps.length:Int)] (openL asked given) given):Lf)] rfl hlit hk8 hbase ?_)
           | fail)
          intro A9 c9 w9 ho9 hg9 hb9 _
          have hK2a:=HX.out.1.below ((Below.refl _ _).alloc (Nat.le_refl _) (.cells #[.func (.func 20) #[] #[.pointer (some ⟨w6.heap.size,0,none⟩),.pointer (some ⟨wd.heap.size,0,none⟩),.pointer (some ⟨ob,0,none⟩),.pointer (some ⟨wa.heap.size,0,none⟩)]] 51))
          have hlb:=HK.out.2.2.2.2.2.2.2.2
          have hbz9:=(hK2a.bel).trans (hb9.mono (by simp;omega))
          have hVb:∀ b,(Value.slice V k0 c0).ownBlock=some b→BB≤b∧b < kb:=fun b e=>by
           rcases HK.out.1.own.at_row with h1 | ⟨g',h1,h2,h3⟩
           ·rw [h1] at e;cases e
           ·rw [h1] at e;obtain rfl:g'=b:=by injection e
            rw [HKB.out] at h3;exact ⟨h2,h3⟩
          have hK2b:=hK2a.grown hbz9 hg9 (fun b hb e=>by
           have hv:=hVb b e.symm
           rcases hb with rfl | rfl | rfl | rfl | rfl | hb
           ·omega
           ·omega
           ·omega
           ·omega
           ·omega
           ·have:=(HV.out.2.2.1.row hb).1;omega)
          have hz9:BB≤w9.heap.size:=Nat.le_trans hbase hb9.size
          have hbB:Below BB wc w9:=((HX.out.2.1.mono hge).alloc (by simp;omega) _).trans hb9
          have hko1:ko≤1000:=by omega
          have hl2:=Leaf.two hK2b (by rw [HL.out.1];exact hn) HL.out.2 hko1 hm2
          have HE:=Lib.hid (And.intro ho9 (And.intro hl2 (And.intro hbB hbz9)))
          clear ho9 hl2 hbB hbz9 hK2a hK2b hg9 hb9 hown hlit
          go_wp2_with fail
          go_meet
          case rel =>
           refine ⟨k0 + 1,c9,A9,_,rfl,by omega,HE.out.1.mono (Nat.zero_le _),fun j hj=>?_,H0.out.2.2.2.2.trans (HE.out.2.2.2.mono (by simp)),fun u hu=>?_⟩
           ·rw [List.length_append,List.length_singleton] at hj
            rcases Nat.lt_or_ge j ls.length with h1 | h1
            ·rw [nth_append_left h1]
             exact ((HK.out.1.lf j h1).below HE.out.2.2.1).mono hz9
            ·obtain rfl:j=ls.length:=by omega
             rw [nth_append_right (Nat.le_refl _),Nat.sub_self]
             have:=HE.out.2.1
             rw [HL.out.1] at this
             rw [HL.out.1]
             exact this
           ·have hs:=HK.out.2.1 u hu
            unfold saysL at hs ⊢
            rw [List.any_append,hs]
            unfold leaveB
            simp
   case rest =>
    obtain ⟨kk,c9,V9,l9,rfl,hkk,hown,hlf,hbel,hsay⟩:=hcut
    obtain ⟨wm,hwm⟩:∃ wm:World,wm=wc:=⟨_,rfl⟩
    subst hwm
    have hll:=hown.length
    have hsl:=hown.sl (by omega)
    have hz:=hbel.size
    have HC:=Lib.hid (And.intro hlf (And.intro hbel (And.intro hsay (And.intro hsl hll))))
    clear hown hlf hbel hsay hsl hll
    go_wp2_with fail
    go_step3
    go_wp2_with fail
    go_loopg [26,93] n (fun gg v i wr=>∃ (t q dq:Nat) (O:Option Addr),n≤gg + t∧i=.int .i64 (t:Nat)∧v=.slice O q dq∧t≤n∧Aside (OwnR (Value.int .i64) wr wm.heap.size 3 O q dq (castL (keptTo Ps asked given br ap t))∧Below wm.heap.size wm wr))
    case atStart=>exact ⟨0,0,0,none,by omega,rfl,rfl,Nat.zero_le _,(show Aside _ from ⟨OwnR.nil _ _ _ _,Below.refl _ _⟩)⟩
    case round=>as_aux_lemma =>
     obtain ⟨t,q,dq,O,hgg,rfl,rfl,ht,hA⟩:=hrel
     have hA:=Lib.hid hA.out
     obtain ⟨wb,hwb⟩:∃ wb:World,wb=wr:=⟨_,rfl⟩
     subst hwb
     have HG:=Lib.hid hgg
     clear hgg
     by_cases hlt:t < n
     ·have hi1:(t:Int) < (n:Nat):=by omega
      go_wp2_with fail
      go_loopg [98] kk (fun gg j wr=>∃ i:Nat,kk≤gg + i∧j=.int .i64 (i:Nat)∧i≤kk∧Aside ((∀ r,r < i→(nth l9 r).2.2 t=false)∧Below wb.heap.size wb wr))
      case atStart=>exact ⟨0,by omega,rfl,Nat.zero_le _,(show Aside _ from ⟨fun r hr=>by omega,Below.refl _ _⟩)⟩
      case round=>as_aux_lemma =>
       obtain ⟨i,hgi,rfl,hi,hB⟩:=hrel
       have hB:=Lib.hid hB.out
       obtain ⟨we,hwe⟩:∃ we:World,we=wr:=⟨_,rfl⟩
       subst hwe
       have HGI:=Lib.hid hgi
       clear hgi
       have hbm:=hA.out.2.trans (hB.out.2.mono hA.out.2.size)
       by_cases hlj:i < kk
       ·have hi2:(i:Int) < (kk:Nat):=by omega
        obtain ⟨bV,oV,rfl,_,hc⟩:=(HC.out.2.2.2.1.below (Nat.le_refl _) hbm).at' (by omega)
        have g1:=hc i hlj
        have hil:i < l9.length:=by rw [HC.out.2.2.2.2];exact hlj
        have hleaf:=HC.out.1 i hil
        have hany:(nth l9 i).2.2 t=true→leaveB Ps asked given br ap t=true:=fun e=>by
         rw [← HC.out.2.2.1 t hlt]
         unfold saysL
         rw [List.any_eq_true]
         exact ⟨_,nth_mem hil,e⟩
        have hnx:(nth l9 i).2.2 t=false→∀ r,r < i + 1→(nth l9 r).2.2 t=false:=fun e r hr=>by
         rcases Nat.lt_or_ge r i with h1 | h1
         ·exact hB.out.1 r h1
         ·obtain rfl:r=i:=by omega
          exact e
        obtain ⟨⟨fid,caps,φ⟩,hx⟩:∃ x,nth l9 i=x:=⟨_,rfl⟩
        rw [hx] at g1 hleaf hany hnx
        simp only at hany hnx
        replace g1:we.cell? ⟨bV,oV + i,none⟩=some (.func (.func fid) #[] caps):=g1
        have hent:∀ (args:Array Value) (w:World),(callFunc fid args).run Tryz.prog w=.ok (.enter fid args) w:=hleaf.1
        have hcall:=hleaf.2 we t hlt hbm
        simp only at hcall
        generalize φ t=ft at *
        have HX:=Lib.hid (And.intro hany (And.intro hnx (And.intro hcall hbm)))
        clear hany hnx hcall hleaf hx hc hbm hil
        go_wp2_with fail
        refine HX.out.2.2.1.mono ?_
        rintro e w9 ⟨rfl,hb9⟩
        have hb10:=hB.out.2.trans (hb9.mono hB.out.2.size)
        have HY:=Lib.hid hb10
        clear hb9 hb10 g1 hent
        cases ft with
        | true =>
          have hke:=keptTo_skip (HX.out.1 rfl)
          have HN:=Lib.hid hke
          clear hke
          go_wp2_with fail
          go_roundg (n - (t + 1))
          case measure=>have:=HG.out;omega
          case rel=>exact ⟨t + 1,q,dq,O,by omega,by go_num,rfl,by omega,(show Aside _ from ⟨by rw [HN.out];exact hA.out.1.below (Nat.le_refl _) HY.out,hA.out.2.trans (HY.out.mono hA.out.2.size)⟩)⟩
        | false =>
          have HN:=Lib.hid (HX.out.2.1 rfl)
          go_wp2_with fail
          go_roundg (kk - (i + 1))
          case measure=>have:=HGI.out;omega
          case rel=>exact ⟨i + 1,by omega,by go_num,by omega,(show Aside _ from ⟨HN.out,HY.out⟩)⟩
       ·obtain rfl:kk=i:=by omega
        have hno:leaveB Ps asked given br ap t=false:=by
         rw [← HC.out.2.2.1 t hlt]
         unfold saysL
         rw [List.any_eq_false]
         intro x hx
         obtain ⟨r,hr,rfl⟩:=mem_nth hx
         have:=hB.out.1 r (by rw [← HC.out.2.2.2.2];exact hr)
         rw [this];simp
        have hke:=keptTo_take hno
        have hO:=hA.out.1.below (Nat.le_refl _) hB.out.2
        have hOl:=hO.length
        have hql:q≤n:=by
         rw [← hOl];unfold castL;rw [List.length_map]
         have:=keptTo_length Ps asked given br ap t
         omega
        have hos:=hO.alloc (.cells #[.int .i64 (t:Int)] 3)
        have hzz:=hbm.size
        have HX:=Lib.hid (And.intro hke hbm)
        clear hke hbm hO hOl hno
        go_wp2_with (first
         | (at_builtin;refine wpList_app _ eiInt (Value.int .i64) (fun _=>rfl) rfl _ _ rfl wm.heap.size _ _ _ _ rfl hos _ _ _ [(t:Int)] rfl (Sl.one (enc:=Value.int .i64) _ _ _) (by omega) (by simp;omega) ?_)
         | fail)
        intro A9 c9 w9 ho9 _ hb9 _
        have hb9:Below wm.heap.size wm w9:=(HX.out.2.alloc hzz _).trans hb9
        have HE:=Lib.hid (And.intro ho9 hb9)
        clear ho9 hb9 hos
        go_wp2_with fail
        go_roundg (n - (t + 1))
        case measure=>have:=HG.out;omega
        case rel=>exact ⟨t + 1,q + 1,c9,A9,by omega,by go_num,rfl,by omega,(show Aside _ from ⟨by rw [HX.out.1,castL_snoc];exact HE.out.1,HE.out.2⟩)⟩
     ·obtain rfl:n=t:=by omega
      go_wp2_with fail
      try rw [Exit.noGoto_ret]
      go_ret2
      refine ⟨HC.out.2.1.trans (hA.out.2.mono hz),O,q,dq,by rw [HF.out];rfl,fun _=>?_,fun h0=>absurd HF.out h0⟩
      unfold keptL
      rw [HL.out.1]
      exact hA.out.1.mono hz
 ·have hD0:=hD0 hf
  obtain ⟨rfl,rfl,rfl⟩:=hD0
  have hb1:=H0.out.2.2.2.2.trans (hb.mono (by simp))
  have hz:=aboveE_le Ps (asked ++ given)
  have HE:=Lib.hid (And.intro hb1 hf)
  clear hb hb1 hD
  generalize hae:aboveE Ps (asked ++ given)=ae at *
  have HAE:=Lib.hid hae
  have he2:(ae == 0)=false:=by simpa using hf
  clear hae hf
  go_wp2_with fail
  try rw [Exit.noGoto_ret]
  go_ret2
  exact ⟨HE.out.1,none,0,0,by rw [HAE.out];rfl,fun h0=>absurd (HAE.out.symm.trans h0) HE.out.2,fun _=>⟨rfl,rfl,rfl⟩⟩
end Go.Proofs.YtgbmnlmnhbkdbaaGreat
