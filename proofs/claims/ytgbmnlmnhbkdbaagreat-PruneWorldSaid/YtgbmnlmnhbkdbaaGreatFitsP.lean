/- prune.fits and prune.Barren, walked: the points that hang on nothing that is asked or given, or the error. Conditions: the parents and the points read, within Go's bound. -/
import Derived.Test.YtgbmnlmnhbkdbaaGreatJ20
import Derived.Test.YtgbmnlmnhbkdbaaGreatJ19
set_option linter.unusedVariables false
set_option linter.unusedSimpArgs false
namespace Go.Proofs.YtgbmnlmnhbkdbaaGreat
open Go.RowKit

theorem Sl.tail {α:Type} [Inhabited α] {enc:α→Value} {w:World} {A:Option Addr} {k c:Nat} {x:α} {R:List α} (h:Sl enc w A k (x :: R)) (hc:k≤c) :
 ∃ b off A2 c2,A=some ⟨b,off,none⟩∧w.cell? ⟨b,off,none⟩=some (enc x)∧0 < k∧Sl enc w A2 (k - 1) R∧k - 1≤c2∧((c=1∧k=1∧A2=some ⟨b,off,none⟩∧c2=0) ∨ (¬ c=1∧A2=some ⟨b,off + 1,none⟩∧c2=c - 1)):=by
 have hl:=h.len
 simp only [List.length_cons] at hl
 obtain ⟨b,off,e,hlt,hcell⟩:=h.at' (by omega)
 have h0:=hcell 0 (by omega)
 by_cases hc1:c=1
 ·refine ⟨b,off,some ⟨b,off,none⟩,0,e,h0,by omega,⟨by omega,by have:=h.big;omega,fun hp=>by omega⟩,by omega,.inl ⟨hc1,by omega,rfl,rfl⟩⟩
 ·refine ⟨b,off,some ⟨b,off + 1,none⟩,c - 1,e,h0,by omega,⟨by omega,by have:=h.big;omega,fun hp=>⟨b,off + 1,rfl,hlt,fun j hj=>?_⟩⟩,by omega,.inr ⟨hc1,rfl,rfl⟩⟩
  have:=hcell (j + 1) (by omega)
  rw [show off + 1 + j=off + (j + 1) from by omega,this]
  simp [nth]
theorem aboveE_le (Ps:List (List Int)) (pts:List Int):0≤aboveE Ps pts∧aboveE Ps pts≤42:=by
 have:=checkP_le Ps
 unfold aboveE
 repeat' split
 all_goals omega
def FitsPost (w:World) (Ps:List (List Int)) (pts:List Int) (e:Ending) (w':World):Prop:=
 Below w.heap.size w w'∧∃ C k d,e=.returned (.tuple #[.slice C k d,.int .i64 (aboveE Ps pts)])∧(aboveE Ps pts=0→OwnR (Value.int .i64) w' w.heap.size 3 C k d (castL (bareL Ps pts)))∧(aboveE Ps pts ≠ 0→C=none∧k=0∧d=0)
set_option maxRecDepth 100000 in
set_option maxHeartbeats 1600000 in
theorem fits_prune (A B C:Option Addr) (n c m1 d1 m2 d2:Nat) (Ps:List (List Int)) (asked given:List Int) (w:World) (h:Rows (Value.int .i64) w A n Ps) (ha:Sl (Value.int .i64) w B m1 asked) (hg:Sl (Value.int .i64) w C m2 given) (hn:n * 24≤140737488351232) (hm:(m1 + m2) * 8≤140737488351232) :
 Calls Tryz.prog 18 #[.slice A n c,.slice B m1 d1,.slice C m2 d2] w (FitsPost w Ps (asked ++ given)):=by
 have hlen:=h.len
 obtain ⟨wa,hwa⟩:∃ wa:World,wa=w:=⟨_,rfl⟩
 subst hwa
 have HL:=Lib.hid hlen
 clear hlen
 go_enter Tryz.func18,Tryz.ntmps18
 go_wp2_with fail
 refine (check_dag A n c Ps _ h hn).mono ?_
 rintro e w1 ⟨rfl,hb⟩
 by_cases hf:checkP Ps=0
 ·rw [hf]
  have hz1:=hb.size
  have hb1:=Lib.hid hb
  have h1:=h.below (Nat.le_refl _) hb
  have ha1:=ha.below (Nat.le_refl _) hb
  have hg1:=hg.below (Nat.le_refl _) hb
  have HF:=Lib.hid hf
  have HI:=Lib.hid (And.intro h1 hg1)
  have hemp:OwnR (Value.int .i64) w1 w1.heap.size 3 none 0 0 ([]:List Int):=OwnR.nil _ _ _ _
  clear hb h ha hg hf h1 hg1
  go_wp2_with (first
   | (at_builtin;(with_reducible refine wpList_app _ eiInt (Value.int .i64) (fun _=>rfl) rfl _ _ rfl w1.heap.size _ _ _ _ rfl hemp _ _ _ _ rfl ha1 (by omega) (Nat.le_refl _) ?_))
   | fail)
  intro A7 c7 w7 ho7 _ hb7 _
  try simp only [Nat.zero_add,List.nil_append] at ho7
  try simp only [Nat.zero_add]
  have HB:=Lib.hid hb7
  have hz7:=hb7.size
  have hsy:=HI.out.2.below (Nat.le_refl _) hb7
  clear hb7 ha1 hemp
  go_wp2_with (first
   | (at_builtin;(with_reducible refine wpList_app _ eiInt (Value.int .i64) (fun _=>rfl) rfl _ _ rfl w1.heap.size _ _ _ _ rfl ho7 _ _ _ _ rfl hsy (by omega) hz7 ?_))
   | fail)
  intro A8 c8 w8 ho8 _ hb8 _
  have hb8:=HB.out.trans hb8
  have hr8:=HI.out.1.below (Nat.le_refl _) hb8
  have hs8:=ho8.sl (by omega)
  have hb9:=hb1.out.trans (hb8.mono hz1)
  have HB:=Lib.hid hb9
  have hz8:=hb9.size
  clear hb8 hb9 hsy ho7 hz7 ho8 hb1 HI
  generalize hpts:asked ++ given=pts at *
  have HP:=Lib.hid hpts
  clear hpts
  go_wp2_with fail
  refine (above_any A A8 n c _ c8 Ps pts _ hr8 hs8 hn).mono ?_
  rintro e w2 ⟨hb2,U,k,d,rfl,hU,hU0,hkd⟩
  have hb2:=HB.out.trans (hb2.mono hz8)
  have hz2:=hb2.size
  by_cases he:aboveE Ps pts=0
  ·have hU:=hU he
   rw [he]
   have HE:=Lib.hid he
   have hris:Rising (upList (toG Ps) (pts.map Int.toNat)):=rising_ptsOf _ _
   generalize hul:upList (toG Ps) (pts.map Int.toNat)=ul at *
   have hst:Sl eN w2 U k (restUp ul 0):=by rw [restUp_zero];exact hU
   have HB:=Lib.hid (And.intro hb2 (And.intro hris (And.intro hul hst)))
   clear hb2 hU hU0 hr8 hs8 he HP hris hul hst
   go_wp2_with fail
   go_loopw [10,12,34] (fun a o i wr=>∃ (t k' c' q dq:Nat) (A' O:Option Addr),i=.int .i64 (t:Nat)∧a=.slice A' k' c'∧o=.slice O q dq∧t≤n∧k'≤c'∧Sl eN w2 A' k' (restUp ul t)∧OwnR (Value.int .i64) wr w2.heap.size 3 O q dq (castL (bareTo Ps pts t))∧Below w2.heap.size w2 wr) (fun _ _ i _=>n - (intOf i).toNat)
   case atStart=>exact ⟨0,k,d,0,0,U,none,rfl,rfl,rfl,Nat.zero_le _,hkd,HB.out.2.2.2,OwnR.nil _ _ _ _,Below.refl _ _⟩
   case round=>as_aux_lemma =>
    obtain ⟨t,k',c',q,dq,A',O,rfl,rfl,rfl,ht,hkc,hS,hO,hb⟩:=hrel
    obtain ⟨wb,hwb⟩:∃ wb:World,wb=wr:=⟨_,rfl⟩
    subst hwb
    by_cases hlt:t < n
    ·have hi1:(t:Int) < (n:Nat):=by omega
     have hql:=hO.length
     have hqb:q≤t:=by rw [← hql];unfold castL;rw [List.length_map];exact bareTo_length _ _ _
     have hwz:=hb.size
     by_cases hmem:t ∈ ul
     ·rw [restUp_take HB.out.2.1 hmem] at hS
      obtain ⟨b0,off,A2,c2,rfl,g1,hk0,hS2,hkc2,hdis⟩:=hS.tail hkc
      have g2:=bc hb g1 (by
       obtain ⟨b',off',e,hl,_⟩:=hS.at' hk0
       injection e with e;injection e with e _ _;subst e;exact hl)
      have hk1:(0:Int) < (k':Nat):=by omega
      have hbt:bareTo Ps pts (t + 1)=bareTo Ps pts t:=bareTo_skip (by rw [HB.out.2.2.1];exact hmem)
      have HX:=Lib.hid (And.intro hS2 (And.intro hbt (And.intro hO hb)))
      clear hS hS2 hbt hO hb g1 hmem hql
      replace g2:wb.cell? ⟨b0,off,none⟩=some (.int .i64 (t:Int)):=g2
      rcases hdis with ⟨rfl,rfl,rfl,rfl⟩ | ⟨hc1,rfl,rfl⟩
      ·go_wp2_with fail
       exact ⟨⟨t + 1,1 - 1,0,q,dq,_,O,by go_num,by first | rfl | simp,rfl,by omega,by omega,HX.out.1,by rw [HX.out.2.1];exact HX.out.2.2.1,HX.out.2.2.2⟩,by simp [intOf];omega⟩
      ·go_wp2_with fail
       exact ⟨⟨t + 1,k' - 1,c' - 1,q,dq,_,O,by go_num,by first | rfl | simp,rfl,by omega,by omega,HX.out.1,by rw [HX.out.2.1];exact HX.out.2.2.1,HX.out.2.2.2⟩,by simp [intOf];omega⟩
     ·have hS3:Sl eN w2 A' k' (restUp ul (t + 1)):=by rw [restUp_skip hmem];exact hS
      have hbt:castL (bareTo Ps pts (t + 1))=castL (bareTo Ps pts t) ++ [(t:Int)]:=by rw [bareTo_take (by rw [HB.out.2.2.1];exact hmem),castL_snoc]
      have hl1:Sl (Value.int .i64) (wb.alloc (.cells #[.int .i64 (t:Int)] 3)) (some ⟨wb.heap.size,0,none⟩) 1 [(t:Int)]:=sl_lit wb [(t:Int)] (by simp)
      have hO1:=hO.alloc (.cells #[.int .i64 (t:Int)] 3)
      have hwz1:w2.heap.size≤(wb.alloc (.cells #[.int .i64 (t:Int)] 3)).heap.size:=by simp;omega
      have hbw:=hb.alloc hwz (.cells #[.int .i64 (t:Int)] 3)
      have HX:=Lib.hid (And.intro hS3 (And.intro hbt hbw))
      rcases Nat.eq_zero_or_pos k' with hk0 | hk0
      ·subst hk0
       clear hS hS3 hbt hO hb hmem hql hbw
       go_wp2_with (first
        | (at_builtin;(with_reducible refine wpList_app _ eiInt (Value.int .i64) (fun _=>rfl) rfl _ _ rfl w2.heap.size _ _ _ _ rfl hO1 _ _ _ _ rfl hl1 (by omega) hwz1 ?_))
        | fail)
       intro A9 c9 w9 ho9 _ hb9 _
       have HE:=Lib.hid (And.intro ho9 (HX.out.2.2.trans hb9))
       clear ho9 hb9 hO1 hl1
       go_wp2_with fail
       exact ⟨⟨t + 1,0,c',q + 1,c9,A',A9,by go_num,rfl,rfl,by omega,hkc,HX.out.1,by rw [HX.out.2.1];exact HE.out.1,HE.out.2⟩,by simp [intOf];omega⟩
      ·obtain ⟨b0,off,e,hl,hc⟩:=hS.at' hk0
       subst e
       have g1:=hc 0 hk0
       have g2:=bc hb g1 hl
       have hk1:(0:Int) < (k':Nat):=by omega
       have hne:nth (restUp ul t) 0 ≠ t:=fun e=>by
        cases hr:restUp ul t with
        | nil=>have:=hS.len;rw [hr] at this;simp at this;omega
        | cons x R =>
          have:=(restUp_head hr).1
          rw [hr] at e
          have e:x=t:=e
          exact hmem (e ▸ this)
       generalize nth (restUp ul t) 0=x at *
       have g3:(wb.alloc (.cells #[.int .i64 (t:Int)] 3)).cell? ⟨b0,off,none⟩=some (.int .i64 (x:Int)):=by first | simpa using g2 | exact (Below.cell ((Below.refl _ _).alloc (Nat.le_refl _) _) (by have:=hb.size;show b0 < wb.heap.size;omega)).trans g2
       have hxt:¬ (x:Int)=(t:Int):=by omega
       have hxt2:((x:Int) == (t:Int))=false:=by rw [beq_eq_false_iff_ne];omega
       replace g2:wb.cell? ⟨b0,off,none⟩=some (.int .i64 (x:Int)):=g2
       clear hS hS3 hbt hO hb hmem hql hbw hc g1 hne g3
       go_wp2_with (first
        | (at_builtin;(with_reducible refine wpList_app _ eiInt (Value.int .i64) (fun _=>rfl) rfl _ _ rfl w2.heap.size _ _ _ _ rfl hO1 _ _ _ _ rfl hl1 (by omega) hwz1 ?_))
        | fail)
       intro A9 c9 w9 ho9 _ hb9 _
       have HE:=Lib.hid (And.intro ho9 (HX.out.2.2.trans hb9))
       clear ho9 hb9 hO1 hl1 g2
       go_wp2_with fail
       exact ⟨⟨t + 1,k',c',q + 1,c9,_,A9,by go_num,rfl,rfl,by omega,hkc,HX.out.1,by rw [HX.out.2.1];exact HE.out.1,HE.out.2⟩,by simp [intOf];omega⟩
    ·obtain rfl:n=t:=by omega
     have HX:=Lib.hid (And.intro hO hb)
     clear hO hb hS
     go_wp2_with fail
     go_ret2
     refine ⟨HB.out.1.trans (HX.out.2.mono (by have:=HB.out.1.size;omega)),O,q,dq,by rw [HE.out];rfl,fun _=>?_,fun h0=>absurd HE.out h0⟩
     unfold bareL
     rw [HL.out]
     exact HX.out.1.mono (by have:=HB.out.1.size;omega)
  ·have HE:=Lib.hid (And.intro hb2 he)
   have hz:=aboveE_le Ps pts
   clear hb2 hU hU0 hr8 hs8 HP
   generalize hae:aboveE Ps pts=ae at *
   have HAE:=Lib.hid hae
   clear hae
   have he2:(ae == 0)=false:=by simpa using he
   go_wp2_with fail
   go_ret2
   exact ⟨HE.out.1,none,0,0,by rw [HAE.out];rfl,fun h0=>absurd (HAE.out.symm.trans h0) HE.out.2,fun _=>⟨rfl,rfl,rfl⟩⟩
 ·have hae:aboveE Ps (asked ++ given)=checkP Ps:=by unfold aboveE;rw [if_pos hf]
  have HA:=Lib.hid (And.intro hae (And.intro hb hf))
  have hle:=checkP_le Ps
  clear hae hb h ha hg
  generalize checkP Ps=cp at *
  have he2:(cp == 0)=false:=by simpa using hf
  go_wp2_with fail
  go_ret2
  exact ⟨HA.out.2.1,none,0,0,by rw [HA.out.1];rfl,fun h0=>absurd (HA.out.1.symm.trans h0) HA.out.2.2,fun _=>⟨rfl,rfl,rfl⟩⟩
end Go.Proofs.YtgbmnlmnhbkdbaaGreat
