/- Joined by program out of: RFracA, RFracB. What each says stands at its own head. -/
import Derived.Test.YtmncjibcoffmfaaGreatJ14
import Derived.Test.YtmncjibcoffmfaaGreatJ13
import Derived.Test.YtmncjibcoffmfaaGreatJ12
set_option linter.unusedVariables false
set_option linter.unusedSimpArgs false
/- The document's fractions: one, whole, den, lowest, Fit, walked. Conditions: the limbs read, within Go's bound together. -/
namespace Go.Proofs.YtmncjibcoffmfaaGreat
open Go.RowKit

set_option maxRecDepth 100000 in
set_option maxHeartbeats 400000 in
theorem rfrac_one (w:World):Calls Tryz.prog 66 #[] w (NatPost 1 w):=by
 have hl:limbs 1=[1]:=by rw [limbs_pos (by decide),show 1 % bB=1 from rfl,show 1 / bB=0 from rfl,limbs_zero]
 have ho:OwnR eU (w.alloc (.cells #[.int .u32 1] 54)) w.heap.size 54 (some ⟨w.heap.size,0,none⟩) 1 1 [1]:=OwnR.of_row (rest:=[]) (heap_alloc_new w _) (Nat.le_refl _) (by simp [maxLen])
 have hb1:Below w.heap.size w (w.alloc (.cells #[.int .u32 1] 54)):=(Below.refl _ _).alloc (Nat.le_refl _) _
 have HF:=Lib.hid (And.intro hl (And.intro ho hb1))
 clear hl ho hb1
 go_enter Tryz.func66,Tryz.ntmps66
 go_wp2_with fail
 go_ret
 exact ⟨some ⟨w.heap.size,0,none⟩,1,by rw [HF.out.1];rfl,by rw [HF.out.1];exact HF.out.2.1,HF.out.2.2⟩
theorem rfrac_whole (A:Option Addr) (n c:Nat) (w:World):Calls Tryz.prog 34 #[.slice A n c] w fun e w'=>e=.returned (.agg #[.bool false,.slice A n c])∧Below w.heap.size w w':=by
 have H:=(Held.init w).new 34 [.bool false,.slice none 0 0]
 have hr:=H.has.1
 clear H
 have H:=(Held.init w).new 34 [.bool false,.slice A n c]
 have c0:=H.has.1.cell 0
 have c1:=H.has.1.cell 1
 have HF:=Lib.hid H.bel
 clear hr H
 go_enter Tryz.func34,Tryz.ntmps34
 go_wp2_with fail
 exact bodyPost_ret (v:=.agg #[.bool false,.slice A n c]) (by simp [results,Tryz.results34,go_sem,c0,c1]) rfl ⟨rfl,HF.out⟩
set_option maxRecDepth 100000 in
set_option maxHeartbeats 400000 in
theorem rfrac_den (s:Bool) (A D:Option Addr) (n c m d:Nat) (ys:List Nat) (w:World) (h:Sl eU w D m ys) (hc:m≤d) (hl:L32 ys) (hb:(m + 2) * 4≤140737488351232) :
 Calls Tryz.prog 35 #[.agg #[.bool s,.slice A n c,.slice D m d]] w (NatPost (und (val ys)) w):=by
 have H1:=((Held.init w).sl h).new 36 [.bool s,.slice A n c,.slice D m d]
 have hsl:=H1.has.2.1
 have r0:=H1.has.1.cell 0
 have r1:=H1.has.1.cell 1
 have r2:=H1.has.1.cell 2
 clear h
 obtain ⟨v,hv⟩:∃ v,v=val ys:=⟨_,rfl⟩
 rw [← hv]
 have HV:=Lib.hid hv
 clear hv
 go_enter Tryz.func35,Tryz.ntmps35
 go_wp2_with fail
 refine (rnat_norm D m d ys _ hsl hc hl (by omega)).mono ?_
 rintro e w1 ⟨R,dr,rfl,ho,hb1⟩
 rw [← HV.out] at ho ⊢
 have H2:=H1.step hb1
 have hz:=H1.bel.size
 by_cases h0:v=0
 ·have hu:und v=1:=by unfold und;rw [if_pos h0]
  rw [h0,limbs_zero]
  have HU:=Lib.hid hu
  have HB:=Lib.hid H2.bel
  have hz2:=H2.bel.size
  clear H1 H2 ho hb1 hsl r0 r1 r2 h0 hu
  go_wp2_with fail
  refine (rfrac_one _).mono ?_
  rintro e w2 ⟨R2,d2,rfl,ho,hb1⟩
  have HF:=Lib.hid (And.intro (ho.mono hz2) (HB.out.trans (hb1.mono hz2)))
  clear ho hb1
  go_wp2_with fail
  go_ret
  exact ⟨R2,d2,by rw [HU.out];rfl,by rw [HU.out];exact HF.out.1,HF.out.2⟩
 ·have hu:und v=v:=und_ne h0
  have hp:¬ (limbs v).length=0:=fun h1=>h0 (limbs_nil.1 (List.eq_nil_of_length_eq_zero h1))
  generalize hL:(limbs v).length=L at *
  have hp':((L:Nat):Int) ≠ 0:=by omega
  have hp2:(((L:Nat):Int) == 0)=false:=beq_eq_false_iff_ne.2 hp'
  have HF:=Lib.hid (And.intro (ho.mono hz) (And.intro H2.bel (And.intro hu hL)))
  clear H1 H2 ho hb1 hsl r0 r1 r2 h0 hu hL
  go_wp2_with fail
  go_ret
  exact ⟨R,dr,by rw [HF.out.2.2.1,HF.out.2.2.2];rfl,by rw [HF.out.2.2.1,HF.out.2.2.2];exact HF.out.1,HF.out.2.1⟩
set_option maxRecDepth 100000 in
set_option maxHeartbeats 800000 in
theorem rfrac_lowest (s:Bool) (A B:Option Addr) (n c m d:Nat) (xs ys:List Nat) (w:World) (h:Sl eU w A n xs) (hc:n≤c) (hl:L32 xs) (k:Sl eU w B m ys) (kc:m≤d) (kl:L32 ys) (hb:n + m≤500000000000) (hd:val ys ≠ 0) :
 Calls Tryz.prog 69 #[.agg #[.bool s,.slice A n c],.slice B m d] w (RatPost (mkRat (sgn s (val xs)) (val ys)) w):=by
 have H0:=(((Held.init w).sl h).sl k).new 34 [.bool s,.slice A n c]
 have H1:=H0.new 36 [.bool false,.slice none 0 0,.slice none 0 0]
 rw [show (w.alloc (.cells [.bool s,.slice A n c].toArray 34)).heap.size=w.heap.size + 1 from by simp] at H1
 clear H0
 have hl1:=limbs_val_len hl
 have hl2:=limbs_val_len kl
 rw [h.len] at hl1
 rw [k.len] at hl2
 clear h k
 obtain ⟨q,hq⟩:∃ q,q=mkRat (sgn s (val xs)) (val ys):=⟨_,rfl⟩
 rw [← hq]
 obtain ⟨hqn,hqd⟩:=mk_lowest s (val xs) hd
 rw [← hq] at hqn hqd
 have hg0:Nat.gcd (val xs) (val ys) ≠ 0:=fun e=>hd (Nat.eq_zero_of_gcd_eq_zero_right e)
 have hgl:(limbs (Nat.gcd (val xs) (val ys))).length≤m:=Nat.le_trans (limbs_mono (Nat.gcd_le_right _ (Nat.pos_of_ne_zero hd))) hl2
 have hsn:(limbs (val xs / Nat.gcd (val xs) (val ys))).length≤n:=Nat.le_trans (limbs_mono (Nat.div_le_self _ _)) hl1
 have hdn:(limbs (val ys / Nat.gcd (val xs) (val ys))).length≤m:=Nat.le_trans (limbs_mono (Nat.div_le_self _ _)) hl2
 have hgcd:=rnat_gcd A B n c m d xs ys _ H1.has.2.2.2.1 hc hl H1.has.2.2.1 kc kl (by omega)
 obtain ⟨g,hge⟩:∃ g,g=Nat.gcd (val xs) (val ys):=⟨_,rfl⟩
 rw [← hge] at hqn hqd hg0 hgl hgcd hsn hdn
 have hdiv1:=fun (w':World) (cg:Nat) (G:Option Addr) h1 h2 h3 h4=>rnat_divmod A G n c (limbs g).length cg xs (limbs g) w' h1 hc hl h2 h3 (limbs_L32 g) h4 (by rw [val_limbs];exact hg0)
 have hdiv2:=fun (w':World) (cg:Nat) (G:Option Addr) h1 h2 h3 h4=>rnat_divmod B G m d (limbs g).length cg ys (limbs g) w' h1 kc kl h2 h3 (limbs_L32 g) h4 (by rw [val_limbs];exact hg0)
 rw [val_limbs] at hdiv1 hdiv2
 have hn2:sgn s (val xs / g)=q.num:=hqn.symm
 have hd2:val ys / g=q.den:=hqd.symm
 rw [hd2] at hdiv2 hdn
 have HQ:=Lib.hid (And.intro hn2 (And.intro hd2 hg0))
 generalize val xs / g=nn at *
 clear hq hqn hqd hg0 hge hn2 hd2 hd
 have r0:=H1.has.2.1.cell 0
 have r1:=H1.has.2.1.cell 1
 have HD1:=Lib.hid hdiv1
 have HD2:=Lib.hid hdiv2
 clear hdiv1 hdiv2
 go_enter Tryz.func69,Tryz.ntmps69
 go_wp2_with fail
 refine hgcd.mono ?_
 rintro e w1 ⟨G,cg,rfl,ho,hb1⟩
 have H2:=(H1.step hb1).sl (ho.sl (by omega))
 have hcg:=ho.cap
 have r0:=H2.has.2.2.1.cell 0
 have r1:=H2.has.2.2.1.cell 1
 clear H1 hb1 hgcd ho
 go_wp2_with fail
 refine (HD1.out _ cg G H2.has.2.2.2.2.1 H2.has.1 hcg (by omega)).mono ?_
 rintro e w2 ⟨Q2,c2,R2,d2,rfl,hq2,_,hb2⟩
 have H3:=(H2.step hb2).sl (hq2.sl (by omega))
 have hc2:=hq2.cap
 have r0:=H3.has.2.2.2.1.cell 0
 have r1:=H3.has.2.2.2.1.cell 1
 clear H2 hb2 hq2
 go_wp2_with fail
 refine (HD2.out _ cg G H3.has.2.2.2.2.1 H3.has.2.1 hcg (by omega)).mono ?_
 rintro e w3 ⟨Q3,c3,R3,d3,rfl,hq3,_,hb3⟩
 have H4:=(H3.step hb3).sl (hq3.sl (by omega))
 have hc3:=hq3.cap
 have r0:=H4.has.2.2.2.2.1.cell 0
 have r1:=H4.has.2.2.2.2.1.cell 1
 clear H3 hb3 hq3
 go_wp2_with fail
 refine (rint_norm s Q2 _ c2 (limbs nn) _ H4.has.2.1 hc2 (limbs_L32 nn) (by omega)).mono ?_
 rintro e w4 ⟨R,cr,rfl,ho,hb4⟩
 rw [val_limbs,HQ.out.1] at ho ⊢
 have H5:=H4.step hb4
 have hs4:=H4.bel.size
 have hrw:=H4.has.2.2.2.1.lt
 clear H4
 go_wp2_with fail
 refine (rnat_norm Q3 _ c3 (limbs q.den) _ H5.has.1 hc3 (limbs_L32 _) (by omega)).mono ?_
 rintro e w5 ⟨D,cd,rfl,hd5,hb5⟩
 rw [val_limbs] at hd5 ⊢
 have H6:=H5.step hb5
 have ho5:=ho.below (Nat.le_refl _) hb5
 have hsep:∀ g',R=some ⟨g',0,none⟩→D ≠ some ⟨g',0,none⟩:=fun g' e1 e2=>by
  rcases ho.at_row with h1 | ⟨g1,h1,h2,h2'⟩
  ·rw [h1] at e1;cases e1
  ·rw [h1] at e1;injection e1 with e1;injection e1 with e1
   rcases hd5.at_row with h3 | ⟨g2,h3,h4,_⟩
   ·rw [h3] at e2;cases e2
   ·rw [h3] at e2;injection e2 with e2;injection e2 with e2;omega
 have hq:=box3_fin (g:=w.heap.size + 1) (v0:=.bool (isNeg q.num)) (v1:=.slice R (limbs q.num.natAbs).length cr) (v2:=.slice D (limbs q.den).length cd) (by omega) H6.has.2.2.2.1 H6.bel (ho5.mono (by omega)) (hd5.mono (by have:=hb4.size;have:=hs4;omega))
 have t0:=H6.has.2.2.2.1.cell 0
 have t1:=H6.has.2.2.2.1.cell 1
 have t2:=H6.has.2.2.2.1.cell 2
 have f0:=H6.has.2.2.2.1.frozen 0
 have f1:=H6.has.2.2.2.1.frozen 1
 have f2:=H6.has.2.2.2.1.frozen 2
 have c0:=hq.1.cell 0
 have c1:=hq.1.cell 1
 have c2':=hq.1.cell 2
 have HF:=Lib.hid (And.intro hq hsep)
 clear hq hsep H6 H5 ho ho5 hd5 hb4 hb5
 go_wp2_with fail
 exact bodyPost_ret (v:=.agg #[.bool (isNeg q.num),.slice R (limbs q.num.natAbs).length cr,.slice D (limbs q.den).length cd]) (by simp [results,Tryz.results69,go_sem,c0,c1,c2']) rfl ⟨R,cr,D,cd,rfl,HF.out.1.2.1,HF.out.1.2.2.1,HF.out.2,HF.out.1.2.2.2⟩
set_option maxRecDepth 100000 in
set_option maxHeartbeats 800000 in
theorem rfrac_fit (u:Value) (p:Rat) (K:Nat) (w:World) (hu:RatAt w u p K) (hb:K≤400000000000):Calls Tryz.prog 37 #[u] w (RatPost p w):=by
 obtain ⟨s,A,n,c,xs,D,k,e,ds,rfl,a1,a2,a3,a4,a5,a6,rfl,a7⟩:=hu.ex
 clear hu
 obtain ⟨q,hqq⟩:∃ q,q=ratR s (val xs) (val ds):=⟨_,rfl⟩
 rw [← hqq]
 have HQQ:=Lib.hid (show mkRat (sgn s (val xs)) (und (val ds))=q from hqq.symm)
 clear hqq
 have l3:=limbs_val_len a6
 rw [a4.len] at l3
 have l6:=und_len (val ds)
 have H0:=(((Held.init w).sl a1).sl a4).new 36 [.bool s,.slice A n c,.slice D k e]
 have H:=H0.new 36 [.bool false,.slice none 0 0,.slice none 0 0]
 rw [show (w.alloc (.cells [.bool s,.slice A n c,.slice D k e].toArray 36)).heap.size=w.heap.size + 1 from by simp] at H
 clear H0 a1 a4
 obtain ⟨wq,hwq⟩:∃ wq:World,wq=(w.alloc (.cells #[.bool s,.slice A n c,.slice D k e] 36)).alloc (.cells #[.bool false,.slice none 0 0,.slice none 0 0] 36):=⟨_,rfl⟩
 rw [← hwq] at H
 have H:=H.drew
 have ra:RowC wq w.heap.size 36 [.bool s,.slice A n c,.slice D k e]:=H.has.2.1
 have r0:=ra.cell 0
 have r1:=ra.cell 1
 have r2:=ra.cell 2
 have q1:∀ (w':World) (o o':Nat) (u:Value),(w'.setCell ⟨w.heap.size + 1,o,none⟩ u).cell? ⟨w.heap.size,o',none⟩=w'.cell? ⟨w.heap.size,o',none⟩:=fun w' o o' u=>cell_farN (by omega)
 clear ra
 go_enter Tryz.func37,Tryz.ntmps37
 go_wp2_with fail
 rw [← hwq]
 clear hwq
 go_region_held3 (fun w'=>w'.cell? ⟨w.heap.size,0,none⟩=some (.bool s)∧w'.cell? ⟨w.heap.size,1,none⟩=some (.slice A n c)∧w'.cell? ⟨w.heap.size,2,none⟩=some (.slice D k e))
  (first | exact ⟨r0,r1,r2⟩ | assumption | go_keep | exact ⟨(q1 _ _ _ _).trans ((q1 _ _ _ _).trans ((q1 _ _ _ _).trans r0)),(q1 _ _ _ _).trans ((q1 _ _ _ _).trans ((q1 _ _ _ _).trans r1)),(q1 _ _ _ _).trans ((q1 _ _ _ _).trans ((q1 _ _ _ _).trans r2))⟩)
  (first
    | ((go_at_call 35);(refine (rfrac_den s A D n c k e ds _ H.has.2.2.1 a5 a6 (fits4 (by omega))).mono ?_);(rintro e w1 ⟨R1,d1,rfl,ho1,hb1⟩);
       (have hc1:=ho1.cap);(have HA:=(H.step hb1).sl (ho1.sl (by omega)));(clear ho1 hb1);(have r0:=HA.has.2.2.1.cell 0);(have r1:=HA.has.2.2.1.cell 1);(have r2:=HA.has.2.2.1.cell 2))
    | ((go_at_call 69);(refine (rfrac_lowest s A R1 n c _ d1 xs (limbs (und (val ds))) _ HA.has.2.2.2.2.1 a2 a3 HA.has.1 hc1 (limbs_L32 _) (by omega) (by rw [val_limbs];exact und_pos _)).mono ?_);(rintro e w2 ⟨R,cr,D9,dd9,rfl,ho,hd,hsep,hb2⟩);(rw [val_limbs,HQQ.out] at ho hd ⊢);(have HB:=HA.step hb2);
       (have r0:=HB.has.2.2.1.cell 0);(have r1:=HB.has.2.2.1.cell 1);(have r2:=HB.has.2.2.1.cell 2);(have t0:=HB.has.2.1.cell 0);(have t1:=HB.has.2.1.cell 1);(have t2:=HB.has.2.1.cell 2);(have f0:=HB.has.2.1.frozen 0);(have f1:=HB.has.2.1.frozen 1);(have f2:=HB.has.2.1.frozen 2)))
 all_goals (
  have hg:=HA.has.2.1.lt
  clear r0 r1 r2 f0 f1 f2
  have hq:=box3_fin (v0:=.bool (isNeg q.num)) (v1:=.slice R (limbs q.num.natAbs).length cr) (v2:=.slice D9 (limbs q.den).length dd9) (g:=w.heap.size + 1) (by omega) HB.has.2.1 HB.bel (ho.mono (by omega)) (hd.mono (by omega))
  have c0:=hq.1.cell 0
  have c1:=hq.1.cell 1
  have c2':=hq.1.cell 2
  have HF:=Lib.hid (And.intro hq hsep)
  clear hq hsep HB HA H ho hd
  go_wp2_with fail
  exact bodyPost_ret (v:=.agg #[.bool (isNeg q.num),.slice R (limbs q.num.natAbs).length cr,.slice D9 (limbs q.den).length dd9]) (by simp [results,Tryz.results37,go_sem,c0,c1,c2']) rfl ⟨R,cr,D9,dd9,rfl,HF.out.1.2.1,HF.out.1.2.2.1,HF.out.2,HF.out.1.2.2.2⟩)
end Go.Proofs.YtmncjibcoffmfaaGreat
/- The document's fractions: New (a denominator above 0), Of and Small of small naturals, Sign, Cmp, walked. Conditions: the limbs read, within Go's bound together. -/
namespace Go.Proofs.YtmncjibcoffmfaaGreat
open Go.RowKit

set_option maxRecDepth 100000 in
set_option maxHeartbeats 800000 in
theorem rfrac_new (s t:Bool) (A B:Option Addr) (n c m d:Nat) (xs ys:List Nat) (w:World) (h:Sl eU w A n xs) (hc:n≤c) (hl:L32 xs) (k:Sl eU w B m ys) (kc:m≤d) (kl:L32 ys) (hb:n + m≤500000000000) (hd:val ys ≠ 0) :
 Calls Tryz.prog 67 #[.agg #[.bool s,.slice A n c],.agg #[.bool t,.slice B m d]] w (RatOkPost (mkRat (sgn (s != t) (val xs)) (val ys)) w):=by
 have H1:=(((Held.init w).sl h).sl k).new 34 [.bool s,.slice A n c]
 have H2:=H1.new 34 [.bool t,.slice B m d]
 rw [show (w.alloc (.cells [.bool s,.slice A n c].toArray 34)).heap.size=w.heap.size + 1 from by simp] at H2
 have H:=H2.new 36 [.bool false,.slice none 0 0,.slice none 0 0]
 rw [show ((w.alloc (.cells [.bool s,.slice A n c].toArray 34)).alloc (.cells [.bool t,.slice B m d].toArray 34)).heap.size=w.heap.size + 1 + 1 from by simp] at H
 clear H1 H2 h k
 have hsg:=sgnI_ne (t:=t) hd
 have r0:=H.has.2.2.1.cell 0
 have r1:=H.has.2.2.1.cell 1
 have r2:=H.has.2.1.cell 0
 have r3:=H.has.2.1.cell 1
 go_enter Tryz.func67,Tryz.ntmps67
 go_wp2_with fail
 refine (rint_sign t B m d ys _ H.has.2.2.2.1 kc kl (by omega)).mono ?_
 rintro e w1 ⟨rfl,hb1⟩
 have HA:=H.step hb1
 generalize sgnI (sgn t (val ys))=sg at *
 have r0:=HA.has.2.2.1.cell 0
 have r1:=HA.has.2.2.1.cell 1
 have r2:=HA.has.2.1.cell 0
 have r3:=HA.has.2.1.cell 1
 have HF:=Lib.hid HA
 clear H hb1 HA
 go_wp2_with fail
 refine (rfrac_lowest (s != t) A B n c m d xs ys _ HF.out.has.2.2.2.2.1 hc hl HF.out.has.2.2.2.1 kc kl hb hd).mono ?_
 rintro e w2 ⟨R,cr,D,dr,rfl,ho,ho2,hsep,hb2⟩
 generalize mkRat (sgn (s != t) (val xs)) (val ys)=q at *
 have H3:=HF.out.step hb2
 have hg:=HF.out.has.1.lt
 have t0:=H3.has.1.cell 0
 have t1:=H3.has.1.cell 1
 have t2:=H3.has.1.cell 2
 have f0:=H3.has.1.frozen 0
 have f1:=H3.has.1.frozen 1
 have f2:=H3.has.1.frozen 2
 have hq:=box3_fin (v0:=.bool (isNeg q.num)) (v1:=.slice R (limbs q.num.natAbs).length cr) (v2:=.slice D (limbs q.den).length dr) (g:=w.heap.size + 1 + 1) (by omega) H3.has.1 H3.bel (ho.mono (by omega)) (ho2.mono (by omega))
 have c0:=hq.1.cell 0
 have c1:=hq.1.cell 1
 have c2':=hq.1.cell 2
 have HQ:=Lib.hid (And.intro hq hsep)
 clear hq hsep H3 ho ho2 hb2 HF
 go_wp2_with fail
 exact bodyPost_ret (v:=.tuple #[.agg #[.bool (isNeg q.num),.slice R (limbs q.num.natAbs).length cr,.slice D (limbs q.den).length dr],.int .i64 0]) (by simp [results,Tryz.results67,go_sem,c0,c1,c2']) rfl ⟨R,cr,D,dr,rfl,HQ.out.1.2.1,HQ.out.1.2.2.1,HQ.out.2,HQ.out.1.2.2.2⟩
set_option maxRecDepth 100000 in
set_option maxHeartbeats 800000 in
theorem rfrac_of (a b:Nat) (w:World) (ha:a < 4294967296) (hb:b < 4294967296) (hd:b ≠ 0) :
 Calls Tryz.prog 36 #[.int .i64 (a:Int),.int .i64 (b:Int)] w (RatOkPost (mkRat a b) w):=by
 have H:=(Held.init w).new 36 [.bool false,.slice none 0 0,.slice none 0 0]
 have r0:=H.has.1.cell 0
 go_enter Tryz.func36,Tryz.ntmps36
 go_wp2_with fail
 refine (rint_of a _ ha).mono ?_
 rintro e w1 ⟨A,c,rfl,ho1,hb1⟩
 have HA:=(H.step hb1).sl (ho1.sl (by rw [Int.natAbs_natCast];have:=limbs_one ha;omega))
 have hc1:=ho1.cap
 clear H hb1 ho1
 go_wp2_with fail
 refine (rint_of b _ hb).mono ?_
 rintro e w2 ⟨B,d,rfl,ho2,hb2⟩
 have HB:=(HA.step hb2).sl (ho2.sl (by rw [Int.natAbs_natCast];have:=limbs_one hb;omega))
 have hc2:=ho2.cap
 clear HA hb2 ho2
 have e1:isNeg (a:Int)=false:=by unfold isNeg;simp
 have e2:isNeg (b:Int)=false:=by unfold isNeg;simp
 have l1:(limbs a).length≤1:=limbs_one ha
 have l2:(limbs b).length≤1:=limbs_one hb
 rw [Int.natAbs_natCast] at hc1 hc2
 have hnew:=rfrac_new false false A B _ c _ d (limbs a) (limbs b) w2 HB.has.2.1 hc1 (limbs_L32 _) HB.has.1 hc2 (limbs_L32 _) (by simp only [Int.natAbs_natCast];omega) (by rw [val_limbs];exact hd)
 rw [show (false != false)=false from rfl,sgn_false,val_limbs,val_limbs] at hnew
 rw [e1,e2]
 have HF:=Lib.hid HB
 have HN:=Lib.hid hnew
 clear HB hnew e1 e2 l1 l2 r0
 go_wp2_with fail
 refine HN.out.mono ?_
 rintro e w3 ⟨R,cr,D,dr,rfl,ho,ho2,hsep,hb2⟩
 generalize mkRat (a:Int) b=q at *
 have H3:=HF.out.step hb2
 have hg:=HF.out.has.2.2.1.lt
 have t0:=H3.has.2.2.1.cell 0
 have t1:=H3.has.2.2.1.cell 1
 have t2:=H3.has.2.2.1.cell 2
 have f0:=H3.has.2.2.1.frozen 0
 have f1:=H3.has.2.2.1.frozen 1
 have f2:=H3.has.2.2.1.frozen 2
 have hq:=box3_fin (v0:=.bool (isNeg q.num)) (v1:=.slice R (limbs q.num.natAbs).length cr) (v2:=.slice D (limbs q.den).length dr) (g:=w.heap.size) (by omega) H3.has.2.2.1 H3.bel (ho.mono (by omega)) (ho2.mono (by omega))
 have c0:=hq.1.cell 0
 have c1:=hq.1.cell 1
 have c2':=hq.1.cell 2
 have HQ:=Lib.hid (And.intro hq hsep)
 clear hq hsep H3 ho ho2 hb2 HF HN
 go_wp2_with fail
 exact bodyPost_ret (v:=.tuple #[.agg #[.bool (isNeg q.num),.slice R (limbs q.num.natAbs).length cr,.slice D (limbs q.den).length dr],.int .i64 0]) (by simp [results,Tryz.results36,go_sem,c0,c1,c2']) rfl ⟨R,cr,D,dr,rfl,HQ.out.1.2.1,HQ.out.1.2.2.1,HQ.out.2,HQ.out.1.2.2.2⟩
set_option maxRecDepth 100000 in
set_option maxHeartbeats 800000 in
theorem rfrac_small (a b:Nat) (w:World) (ha:a < 4294967296) (hb:b < 4294967296) (hd:b ≠ 0) :
 Calls Tryz.prog 18 #[.int .i64 (a:Int),.int .i64 (b:Int)] w (RatPost (mkRat a b) w):=by
 have H:=(Held.init w).new 36 [.bool false,.slice none 0 0,.slice none 0 0]
 go_enter Tryz.func18,Tryz.ntmps18
 go_wp2_with fail
 refine (rfrac_of a b _ ha hb hd).mono ?_
 rintro e w1 ⟨R,cr,D,dr,rfl,ho,ho2,hsep,hb1⟩
 generalize mkRat (a:Int) b=q at *
 have H1:=H.step hb1
 have H2:=H1.new 36 [.bool (isNeg q.num),.slice R (limbs q.num.natAbs).length cr,.slice D (limbs q.den).length dr]
 have hg:=H.has.1.lt
 have hb2:Below w1.heap.size w1 (w1.alloc (.cells #[.bool (isNeg q.num),.slice R (limbs q.num.natAbs).length cr,.slice D (limbs q.den).length dr] 36)):=(Below.refl _ _).alloc (Nat.le_refl _) _
 have ho:=ho.below (Nat.le_refl _) hb2
 have ho2:=ho2.below (Nat.le_refl _) hb2
 have t0:(w1.alloc (.cells #[.bool (isNeg q.num),.slice R (limbs q.num.natAbs).length cr,.slice D (limbs q.den).length dr] 36)).cell? ⟨w.heap.size,0,none⟩=some (.bool false):=H2.has.2.1.cell 0
 have t1:(w1.alloc (.cells #[.bool (isNeg q.num),.slice R (limbs q.num.natAbs).length cr,.slice D (limbs q.den).length dr] 36)).cell? ⟨w.heap.size,1,none⟩=some (.slice none 0 0):=H2.has.2.1.cell 1
 have t2:(w1.alloc (.cells #[.bool (isNeg q.num),.slice R (limbs q.num.natAbs).length cr,.slice D (limbs q.den).length dr] 36)).cell? ⟨w.heap.size,2,none⟩=some (.slice none 0 0):=H2.has.2.1.cell 2
 have f0:(w1.alloc (.cells #[.bool (isNeg q.num),.slice R (limbs q.num.natAbs).length cr,.slice D (limbs q.den).length dr] 36)).frozen? ⟨w.heap.size,0,none⟩=false:=H2.has.2.1.frozen 0
 have f1:(w1.alloc (.cells #[.bool (isNeg q.num),.slice R (limbs q.num.natAbs).length cr,.slice D (limbs q.den).length dr] 36)).frozen? ⟨w.heap.size,1,none⟩=false:=H2.has.2.1.frozen 1
 have f2:(w1.alloc (.cells #[.bool (isNeg q.num),.slice R (limbs q.num.natAbs).length cr,.slice D (limbs q.den).length dr] 36)).frozen? ⟨w.heap.size,2,none⟩=false:=H2.has.2.1.frozen 2
 have hq:=box3_fin (v0:=.bool (isNeg q.num)) (v1:=.slice R (limbs q.num.natAbs).length cr) (v2:=.slice D (limbs q.den).length dr) (g:=w.heap.size) (by omega) H2.has.2.1 H2.bel (ho.mono (by omega)) (ho2.mono (by omega))
 have c0:=hq.1.cell 0
 have c1:=hq.1.cell 1
 have c2':=hq.1.cell 2
 have HQ:=Lib.hid (And.intro hq hsep)
 clear hq hsep H1 H2 H ho ho2 hb1 hb2
 go_wp2_with fail
 exact bodyPost_ret (v:=.agg #[.bool (isNeg q.num),.slice R (limbs q.num.natAbs).length cr,.slice D (limbs q.den).length dr]) (by simp [results,Tryz.results18,go_sem,c0,c1,c2']) rfl ⟨R,cr,D,dr,rfl,HQ.out.1.2.1,HQ.out.1.2.2.1,HQ.out.2,HQ.out.1.2.2.2⟩
set_option maxRecDepth 100000 in
set_option maxHeartbeats 400000 in
theorem rfrac_sign (u:Value) (p:Rat) (K:Nat) (w:World) (hu:RatAt w u p K) (hb:K≤500000000000):Calls Tryz.prog 16 #[u] w fun e w'=>e=.returned (.int .i64 (sgnQ p))∧Below w.heap.size w w':=by
 obtain ⟨s,A,n,c,xs,D,k,e,ds,rfl,a1,a2,a3,a4,a5,a6,rfl,a7⟩:=hu.ex
 clear hu
 have hs:=ratR_sgn s (val xs) (val ds)
 rw [← hs]
 clear hs
 have H:=((Held.init w).sl a1).new 36 [.bool s,.slice A n c,.slice D k e]
 have r0:=H.has.1.cell 0
 have r1:=H.has.1.cell 1
 have r2:=H.has.1.cell 2
 generalize hz:sgnI (sgn s (val xs))=z at *
 have HZ:=Lib.hid hz
 clear hz
 go_enter Tryz.func16,Tryz.ntmps16
 go_wp2_with fail
 refine (rint_sign s A n c xs _ H.has.2.1 a2 a3 (fits4 (by omega))).mono ?_
 rintro e w1 ⟨rfl,hb1⟩
 rw [HZ.out]
 have HF:=Lib.hid (H.step hb1).bel
 clear H hb1 r0 r1 r2
 go_wp2_with fail
 go_ret
 exact ⟨rfl,HF.out⟩
theorem over_lenZ (s:Bool) (a u:Nat):(limbs (sgn s a * sgn false u).natAbs).length≤(limbs a).length + (limbs u).length:=over_len s a u
set_option maxRecDepth 100000 in
set_option maxHeartbeats 4000000 in
theorem rfrac_cmp (u v:Value) (p q:Rat) (K M:Nat) (w:World) (hu:RatAt w u p K) (hv:RatAt w v q M) (hb:K + M≤200000000000) :
 Calls Tryz.prog 17 #[u,v] w fun e w'=>e=.returned (.int .i64 (cmpQ p q))∧Below w.heap.size w w':=by
 obtain ⟨s,A,n,c,xs,D,k,e,ds,rfl,a1,a2,a3,a4,a5,a6,rfl,a7⟩:=hu.ex
 obtain ⟨t,B,n',c',ys,E,k',e',es,rfl,b1,b2,b3,b4,b5,b6,rfl,b7⟩:=hv.ex
 clear hu hv
 have l1:=limbs_val_len a3
 have l2:=limbs_val_len b3
 have l3:=limbs_val_len a6
 have l4:=limbs_val_len b6
 rw [a1.len] at l1
 rw [b1.len] at l2
 rw [a4.len] at l3
 rw [b4.len] at l4
 have l6:=und_len (val ds)
 have l7:=und_len (val es)
 have l9:=over_lenZ s (val xs) (und (val es))
 have l10:=over_lenZ t (val ys) (und (val ds))
 have hcm:=ratR_cmp s t (val xs) (val ys) (val ds) (val es)
 rw [← hcm]
 clear hcm
 have H1:=(((((Held.init w).sl a1).sl a4).sl b1).sl b4).new 36 [.bool s,.slice A n c,.slice D k e]
 have H2:=H1.new 36 [.bool t,.slice B n' c',.slice E k' e']
 rw [show (w.alloc (.cells [.bool s,.slice A n c,.slice D k e].toArray 36)).heap.size=w.heap.size + 1 from by simp] at H2
 have H:=H2
 clear H1 H2 a1 a4 b1 b4
 obtain ⟨wq,hwq⟩:∃ wq:World,wq=(w.alloc (.cells #[.bool s,.slice A n c,.slice D k e] 36)).alloc (.cells #[.bool t,.slice B n' c',.slice E k' e'] 36):=⟨_,rfl⟩
 rw [← hwq] at H
 go_enter Tryz.func17,Tryz.ntmps17
 go_wp2_with fail
 rw [← hwq]
 clear hwq
 have HG:=H.drew
 clear H
 have ra:RowC wq.drew w.heap.size 36 [.bool s,.slice A n c,.slice D k e]:=HG.has.2.1
 have rb:RowC wq.drew (w.heap.size + 1) 36 [.bool t,.slice B n' c',.slice E k' e']:=HG.has.1
 go_region_held3 (fun w'=>w'.cell? ⟨w.heap.size,0,none⟩=some (.bool s)∧w'.cell? ⟨w.heap.size,1,none⟩=some (.slice A n c)∧w'.cell? ⟨w.heap.size,2,none⟩=some (.slice D k e) ∧
  w'.cell? ⟨w.heap.size + 1,0,none⟩=some (.bool t)∧w'.cell? ⟨w.heap.size + 1,1,none⟩=some (.slice B n' c')∧w'.cell? ⟨w.heap.size + 1,2,none⟩=some (.slice E k' e'))
  (first | exact ⟨ra.cell 0,ra.cell 1,ra.cell 2,rb.cell 0,rb.cell 1,rb.cell 2⟩ | assumption | go_keep)
  (first
    | ((go_at_call 35);(with_reducible refine (rfrac_den t B E n' c' k' e' es _ (bg HG) b5 b6 (fits4 (by omega))).mono ?_);(rintro e w1 ⟨R1,d1,rfl,ho1,hb1⟩);
       (have hc1:=ho1.cap);(have HG:=(HG.step hb1).sl (ho1.sl (by omega)));(clear hb1 ho1);(have ra:RowC _ w.heap.size 36 [.bool s,.slice A n c,.slice D k e]:=(bg HG));(have rb:RowC _ (w.heap.size + 1) 36 [.bool t,.slice B n' c',.slice E k' e']:=(bg HG)))
    | ((go_at_call 34);(with_reducible refine (rfrac_whole _ _ _ _).mono ?_);(rintro e w2 ⟨rfl,hb1⟩);(have HG:=HG.step hb1);(clear hb1);(have ra:RowC _ w.heap.size 36 [.bool s,.slice A n c,.slice D k e]:=(bg HG));(have rb:RowC _ (w.heap.size + 1) 36 [.bool t,.slice B n' c',.slice E k' e']:=(bg HG)))
    | ((go_at_call 33);(with_reducible refine (rint_mul s false A R1 n c _ d1 xs (limbs (und (val es))) _ (bg HG) a2 a3 (bg HG) hc1 (limbs_L32 _) (fits8 (by omega))).mono ?_);(rintro e w3 ⟨R2,d2,rfl,ho2,hb1⟩);(rw [val_limbs] at ho2 ⊢);
       (have hc2:=ho2.cap);(have HG:=(HG.step hb1).sl (ho2.sl (by omega)));(clear hb1 ho2);(have ra:RowC _ w.heap.size 36 [.bool s,.slice A n c,.slice D k e]:=(bg HG));(have rb:RowC _ (w.heap.size + 1) 36 [.bool t,.slice B n' c',.slice E k' e']:=(bg HG)))
    | ((go_at_call 35);(with_reducible refine (rfrac_den s A D n c k e ds _ (bg HG) a5 a6 (fits4 (by omega))).mono ?_);(rintro e w4 ⟨R3,d3,rfl,ho3,hb1⟩);
       (have hc3:=ho3.cap);(have HG:=(HG.step hb1).sl (ho3.sl (by omega)));(clear hb1 ho3);(have ra:RowC _ w.heap.size 36 [.bool s,.slice A n c,.slice D k e]:=(bg HG));(have rb:RowC _ (w.heap.size + 1) 36 [.bool t,.slice B n' c',.slice E k' e']:=(bg HG)))
    | ((go_at_call 33);(with_reducible refine (rint_mul t false B R3 n' c' _ d3 ys (limbs (und (val ds))) _ (bg HG) b2 b3 (bg HG) hc3 (limbs_L32 _) (fits8 (by omega))).mono ?_);(rintro e w5 ⟨R4,d4,rfl,ho4,hb1⟩);(rw [val_limbs] at ho4 ⊢);
       (have hc4:=ho4.cap);(have HG:=(HG.step hb1).sl (ho4.sl (by omega)));(clear hb1 ho4);(have ra:RowC _ w.heap.size 36 [.bool s,.slice A n c,.slice D k e]:=(bg HG));(have rb:RowC _ (w.heap.size + 1) 36 [.bool t,.slice B n' c',.slice E k' e']:=(bg HG)))
    | ((go_at_call 32);(refine (rint_cmp _ _ R2 R4 _ d2 _ d4 (limbs (sgn s (val xs) * sgn false (und (val es))).natAbs) (limbs (sgn t (val ys) * sgn false (und (val ds))).natAbs) _ (bg HG) hc2 (limbs_L32 _) (bg HG) hc4 (limbs_L32 _) (by omega)).mono ?_);(rintro e w6 ⟨rfl,hb1⟩);(rw [val_limbs,val_limbs,sgn_isNeg,sgn_isNeg]);(have HG:=HG.step hb1);(clear hb1);(have ra:RowC _ w.heap.size 36 [.bool s,.slice A n c,.slice D k e]:=(bg HG));(have rb:RowC _ (w.heap.size + 1) 36 [.bool t,.slice B n' c',.slice E k' e']:=(bg HG))))
 all_goals (
  have HF:=Lib.hid HG.bel
  clear ra rb HG
  generalize hz:cmpZ (sgn s (val xs) * sgn false (und (val es))) (sgn t (val ys) * sgn false (und (val ds)))=z at *
  have HZ:=Lib.hid hz
  clear hz
  go_wp2_with fail
  go_ret
  exact ⟨by rw [← HZ.out];rfl,HF.out⟩)
end Go.Proofs.YtmncjibcoffmfaaGreat
