/- Joined by program out of: WholeC, FracA. What each says stands at its own head. -/
import Derived.Test.YtgbmnlmnhbkdbaaGreatWholeB
set_option linter.unusedVariables false
set_option linter.unusedSimpArgs false
/- whole.Cmp, walked. Conditions: the limbs read. -/
namespace Go.Proofs.YtgbmnlmnhbkdbaaGreat
open Go.RowKit

theorem sgnI_cases (z:Int):sgnI z=-1∧z < 0 ∨ sgnI z=0∧z=0 ∨ sgnI z=1∧0 < z:=by
 unfold sgnI
 split
 ·exact .inl ⟨rfl,by assumption⟩
 ·split
  ·exact .inr (.inl ⟨rfl,by assumption⟩)
  ·exact .inr (.inr ⟨rfl,by omega⟩)
theorem cmpZ_lt {a b:Int} (h:sgnI a < sgnI b):cmpZ a b=-1:=by
 have h1:=sgnI_cases a
 have h2:=sgnI_cases b
 unfold cmpZ
 rw [if_pos (by omega)]
theorem cmpZ_gt {a b:Int} (h:sgnI b < sgnI a):cmpZ a b=1:=by
 have h1:=sgnI_cases a
 have h2:=sgnI_cases b
 unfold cmpZ
 rw [if_neg (by omega),if_pos (by omega)]
theorem cmpZ_eq {a b:Int} (h:sgnI a=sgnI b):cmpZ a b=sgnI a * cmpN a.natAbs b.natAbs:=by
 have h1:=sgnI_cases a
 have h2:=sgnI_cases b
 rcases h1 with ⟨h1,h3⟩ | ⟨h1,h3⟩ | ⟨h1,h3⟩
 ·rw [h1] at h ⊢
  have:b < 0:=by omega
  unfold cmpZ cmpN
  split <;> split <;> (try split) <;> (try split) <;> omega
 ·rw [h1] at h ⊢
  have:b=0:=by omega
  unfold cmpZ
  rw [if_neg (by omega),if_neg (by omega)];simp
 ·rw [h1] at h ⊢
  have:0 < b:=by omega
  unfold cmpZ cmpN
  split <;> split <;> (try split) <;> (try split) <;> omega
theorem cmpN_within (a b:Nat):-1≤cmpN a b∧cmpN a b≤1:=by unfold cmpN;split <;> (try split) <;> omega
theorem sgnI_within (z:Int):-1≤sgnI z∧sgnI z≤1:=by have:=sgnI_cases z;omega
set_option maxRecDepth 100000 in
set_option maxHeartbeats 800000 in
theorem whole_cmp (s t:Bool) (A B:Option Addr) (n c m d:Nat) (xs ys:List Nat) (w:World) (h:Sl eU w A n xs) (hc:n≤c) (hl:L32 xs) (k:Sl eU w B m ys) (kc:m≤d) (kl:L32 ys) :
 Calls Tryz.prog 24 #[.agg #[.bool s,.slice A n c],.agg #[.bool t,.slice B m d]] w fun e w'=>e=.returned (.int .i64 (cmpZ (sgn s (val xs)) (sgn t (val ys))))∧Below w.heap.size w w':=by
 have H1:=(((Held.init w).sl h).sl k).new 36 [.bool s,.slice A n c]
 have H:=H1.new 36 [.bool t,.slice B m d]
 rw [show (w.alloc (.cells [.bool s,.slice A n c].toArray 36)).heap.size=w.heap.size + 1 from by simp] at H
 clear H1 h k
 obtain ⟨wq,hwq⟩:∃ wq:World,wq=(w.alloc (.cells #[.bool s,.slice A n c] 36)).alloc (.cells #[.bool t,.slice B m d] 36):=⟨_,rfl⟩
 rw [← hwq] at H
 obtain ⟨x,hx⟩:∃ x,x=sgn s (val xs):=⟨_,rfl⟩
 obtain ⟨y,hy⟩:∃ y,y=sgn t (val ys):=⟨_,rfl⟩
 rw [← hx,← hy]
 have HXY:=Lib.hid (And.intro hx hy)
 clear hx hy
 have r0:=H.has.2.1.cell 0
 have r1:=H.has.2.1.cell 1
 have r2:=H.has.1.cell 0
 have r3:=H.has.1.cell 1
 go_enter Tryz.func24,Tryz.ntmps24
 go_wp2_with fail
 rw [← hwq]
 clear hwq
 have H:=H.drew
 go_region_held3 (fun w'=>w'.cell? ⟨w.heap.size,0,none⟩=some (.bool s)∧w'.cell? ⟨w.heap.size,1,none⟩=some (.slice A n c)∧w'.cell? ⟨w.heap.size + 1,0,none⟩=some (.bool t)∧w'.cell? ⟨w.heap.size + 1,1,none⟩=some (.slice B m d))
  (first | exact ⟨r0,r1,r2,r3⟩ | assumption | go_keep)
  (first
    | ((go_at_call 29);((with_reducible refine (whole_sign s A n c xs _ H.has.2.2.2.1 hc hl).mono ?_));(rintro e w1 ⟨rfl,hb1⟩);(rw [← HXY.out.1]);
       (have H':=H.step hb1);(clear H);(have H:=H');(clear H');(have r0:=H.has.2.1.cell 0);(have r1:=H.has.2.1.cell 1);(have r2:=H.has.1.cell 0);(have r3:=H.has.1.cell 1))
    | ((go_at_call 29);((with_reducible refine (whole_sign t B m d ys _ H.has.2.2.1 kc kl).mono ?_));(rintro e w1 ⟨rfl,hb1⟩);(rw [← HXY.out.2]);
       (have H':=H.step hb1);(clear H);(have H:=H');(clear H');(have r0:=H.has.2.1.cell 0);(have r1:=H.has.2.1.cell 1);(have r2:=H.has.1.cell 0);(have r3:=H.has.1.cell 1)))
 all_goals
  have hxw:=sgnI_within x
  have hyw:=sgnI_within y
  have hlt:=cmpZ_lt (a:=x) (b:=y)
  have hgt:=cmpZ_gt (a:=x) (b:=y)
  have heq:=cmpZ_eq (a:=x) (b:=y)
  rw [HXY.out.1,HXY.out.2,sgn_natAbs,sgn_natAbs,← HXY.out.1,← HXY.out.2] at heq
  generalize sgnI x=p at *
  generalize sgnI y=q at *
  have HC:=Lib.hid (And.intro hlt (And.intro hgt heq))
  have HB:=Lib.hid H.bel
  have hsx:=H.has.2.2.2.1
  have hsy:=H.has.2.2.1
  clear hlt hgt heq H hb1
  rcases Int.lt_trichotomy p q with h1 | h1 | h1
  ·have HR:=Lib.hid (HC.out.1 h1)
   have j1:decide (p < q)=true:=by simpa using h1
   go_wp2_with fail
   go_ret
   exact ⟨ret_int HR.out.symm,HB.out⟩
  ·have HR:=Lib.hid (HC.out.2.2 h1)
   subst h1
   have j1:decide (p < p)=false:=by simp
   go_wp2_with fail
   refine (nat_cmp A B n c m d xs ys _ hsx hc hl hsy kc kl).mono ?_
   rintro e w3 ⟨rfl,u,rfl⟩
   have hcw:=cmpN_within (val xs) (val ys)
   generalize cmpN (val xs) (val ys)=cn at *
   have hpr:-1≤p * cn∧p * cn≤1:=by
    have h3:p=-1 ∨ p=0 ∨ p=1:=by omega
    rcases h3 with rfl | rfl | rfl <;> omega
   generalize hpe:p * cn=pc at *
   have hp1:=hpr.1
   have hp2:=hpr.2
   have HB2:=Lib.hid (below_drewN HB.out u)
   go_wp2_with fail
   go_ret
   exact ⟨ret_int HR.out.symm,HB2.out⟩
  ·have HR:=Lib.hid (HC.out.2.1 h1)
   have j1:decide (p < q)=false:=by simp;omega
   have j2:decide (q < p)=true:=by simpa using h1
   go_wp2_with fail
   go_ret
   exact ⟨ret_int HR.out.symm,HB.out⟩
end Go.Proofs.YtgbmnlmnhbkdbaaGreat
/- frac.over, under, lowest, walked. Conditions: the limbs read, within Go's bound together. -/
namespace Go.Proofs.YtgbmnlmnhbkdbaaGreat
open Go.RowKit

set_option maxRecDepth 100000 in
set_option maxHeartbeats 400000 in
theorem frac_under (s:Bool) (A D:Option Addr) (n c m d:Nat) (ys:List Nat) (w:World) (h:Sl eU w D m ys) (hc:m≤d) (hl:L32 ys) (hb:(m + 2) * 4≤140737488351232) :
 Calls Tryz.prog 26 #[.agg #[.bool s,.slice A n c,.slice D m d]] w (NatPost (und (val ys)) w):=by
 have H1:=((Held.init w).sl h).new 38 [.bool s,.slice A n c,.slice D m d]
 have hsl:=H1.has.2.1
 have r0:=H1.has.1.cell 0
 have r1:=H1.has.1.cell 1
 have r2:=H1.has.1.cell 2
 clear h
 obtain ⟨v,hv⟩:∃ v,v=val ys:=⟨_,rfl⟩
 rw [← hv]
 have HV:=Lib.hid hv
 clear hv
 go_enter Tryz.func26,Tryz.ntmps26
 go_wp2_with fail
 refine (nat_norm D m d ys _ hsl hc hl (by omega)).mono ?_
 rintro e w1 ⟨R,dr,rfl,ho,hb1⟩
 rw [← HV.out] at ho ⊢
 have H2:=H1.step hb1
 have hz:=H1.bel.size
 by_cases h0:v=0
 ·have hu:und v=1:=by unfold und;rw [if_pos h0]
  rw [h0,limbs_zero]
  have HU:=Lib.hid hu
  have HB:=Lib.hid H2.bel
  have hz2:=H2.bel.size
  clear H1 H2 ho hb1 hsl r0 r1 r2 h0 hu
  go_wp2_with fail
  refine (nat_of 1 _ (by decide)).mono ?_
  rintro e w2 ⟨R2,d2,rfl,ho,hb1⟩
  have HF:=Lib.hid (And.intro (ho.mono hz2) (HB.out.trans (hb1.mono hz2)))
  clear ho hb1
  go_wp2_with fail
  go_ret
  exact ⟨R2,d2,by rw [HU.out];rfl,by rw [HU.out];exact HF.out.1,HF.out.2⟩
 ·have hu:und v=v:=und_ne h0
  have hp:0 < (limbs v).length:=by
   rcases Nat.eq_zero_or_pos (limbs v).length with h1 | h1
   ·exact absurd (limbs_nil.1 (List.eq_nil_of_length_eq_zero h1)) h0
   ·exact h1
  generalize hL:(limbs v).length=L at *
  have hp':(0:Int) < (L:Nat):=by omega
  have HF:=Lib.hid (And.intro (ho.mono hz) (And.intro H2.bel (And.intro hu hL)))
  clear H1 H2 ho hb1 hsl r0 r1 r2 h0 hu hL
  go_wp2_with fail
  go_ret
  exact ⟨R,dr,by rw [HF.out.2.2.1,HF.out.2.2.2];rfl,by rw [HF.out.2.2.1,HF.out.2.2.2];exact HF.out.1,HF.out.2.1⟩
set_option maxRecDepth 100000 in
set_option maxHeartbeats 400000 in
theorem frac_over (s:Bool) (A B:Option Addr) (n c m d:Nat) (xs ys:List Nat) (w:World) (h:Sl eU w A n xs) (hc:n≤c) (hl:L32 xs) (k:Sl eU w B m ys) (kc:m≤d) (kl:L32 ys) (hb:(n + m + 4) * 8≤140737488351232) :
 Calls Tryz.prog 25 #[.agg #[.bool s,.slice A n c],.slice B m d] w (IntPost (sgn s (val xs) * (val ys:Int)) w):=by
 have H1:=(((Held.init w).sl h).sl k).new 36 [.bool s,.slice A n c]
 have H2:=H1.new 36 [.bool false,.slice none 0 0]
 rw [show (w.alloc (.cells [.bool s,.slice A n c].toArray 36)).heap.size=w.heap.size + 1 from by simp] at H2
 have r0:=H2.has.2.1.cell 0
 have r1:=H2.has.2.1.cell 1
 have hsx:=H2.has.2.2.2.1
 have hsy:=H2.has.2.2.1
 clear H1 h k
 obtain ⟨z,hz⟩:∃ z,z=sgn s (val xs) * (val ys:Int):=⟨_,rfl⟩
 rw [← hz]
 have HZ:=Lib.hid hz
 clear hz
 go_enter Tryz.func25,Tryz.ntmps25
 go_wp2_with fail
 refine (whole_mul s false A B n c m d xs ys _ hsx hc hl hsy kc kl hb).mono ?_
 rintro e w1 ⟨R,dr,rfl,ho,hb1⟩
 rw [sgn_false,← HZ.out] at ho ⊢
 have H3:=H2.step hb1
 have hq:=box2_fin (v0:=.bool (isNeg z)) (v1:=.slice R (limbs z.natAbs).length dr) (by omega) H3.has.1 H3.bel (ho.mono (by have h2:=H2.has.1.lt;omega))
 have r0:=H3.has.1.cell 0
 have r1:=H3.has.1.cell 1
 have f0:=H3.has.1.frozen 0
 have f1:=H3.has.1.frozen 1
 generalize hL:(limbs z.natAbs).length=L at *
 have HL:=Lib.hid hL
 have c0:=hq.1.cell 0
 have c1:=hq.1.cell 1
 have HQ:=Lib.hid hq
 clear hq H3 H2 ho hb1 hL hsx hsy
 go_wp2_with fail
 exact bodyPost_ret (v:=.agg #[.bool (isNeg z),.slice R L dr]) (by simp [results,Tryz.results25,go_sem,c0,c1]) rfl ⟨R,dr,by rw [HL.out],by rw [HL.out];exact HQ.out.2.1,HQ.out.2.2⟩
def RatPost (q:Rat) (w:World) (e:Ending) (w':World):Prop:=
 ∃ R c D d,e=.returned (.agg #[.bool (isNeg q.num),.slice R (limbs q.num.natAbs).length c,.slice D (limbs q.den).length d])∧OwnR eU w' w.heap.size 83 R (limbs q.num.natAbs).length c (limbs q.num.natAbs)∧OwnR eU w' w.heap.size 83 D (limbs q.den).length d (limbs q.den) ∧
  (∀ g,R=some ⟨g,0,none⟩→D ≠ some ⟨g,0,none⟩)∧Below w.heap.size w w'
theorem box3_fin {w w1:World} {g:Nat} {v0 v1 v2 u0 u1 u2:Value} {R D:Option Addr} {L d M e:Nat} {l m:List Nat} (hg:w.heap.size≤g) (hbox:RowC w1 g 38 [u0,u1,u2]) (hbel:Below w.heap.size w w1) (ho:OwnR eU w1 (g + 1) 83 R L d l) (hd:OwnR eU w1 (g + 1) 83 D M e m) :
 RowC (((w1.setCell ⟨g,0,none⟩ v0).setCell ⟨g,1,none⟩ v1).setCell ⟨g,2,none⟩ v2) g 38 [v0,v1,v2]∧OwnR eU (((w1.setCell ⟨g,0,none⟩ v0).setCell ⟨g,1,none⟩ v1).setCell ⟨g,2,none⟩ v2) w.heap.size 83 R L d l ∧
  OwnR eU (((w1.setCell ⟨g,0,none⟩ v0).setCell ⟨g,1,none⟩ v1).setCell ⟨g,2,none⟩ v2) w.heap.size 83 D M e m∧Below w.heap.size w (((w1.setCell ⟨g,0,none⟩ v0).setCell ⟨g,1,none⟩ v1).setCell ⟨g,2,none⟩ v2):=by
 have key:∀ {R:Option Addr} {L d:Nat} {l:List Nat},OwnR eU w1 (g + 1) 83 R L d l→OwnR eU (((w1.setCell ⟨g,0,none⟩ v0).setCell ⟨g,1,none⟩ v1).setCell ⟨g,2,none⟩ v2) w.heap.size 83 R L d l:=fun {R L d l} ho=>by
  have hne:∀ g',R=some ⟨g',0,none⟩→g' ≠ g:=fun g' e=>by
   rcases ho.at_row with h1 | ⟨g'',h1,h2,_⟩
   ·rw [h1] at e;cases e
   ·rw [h1] at e;injection e with e;injection e with e;omega
  exact (((ho.setFar (p:=⟨g,0,none⟩) hne _).setFar (p:=⟨g,1,none⟩) hne _).setFar (p:=⟨g,2,none⟩) hne _).mono (by omega)
 exact ⟨((hbox.put 0 _).put 1 _).put 2 _,key ho,key hd,((hbel.setCell (p:=⟨g,0,none⟩) hg _).setCell (p:=⟨g,1,none⟩) hg _).setCell (p:=⟨g,2,none⟩) hg _⟩
set_option maxRecDepth 100000 in
set_option maxHeartbeats 800000 in
theorem frac_lowest (s:Bool) (A B:Option Addr) (n c m d:Nat) (xs ys:List Nat) (w:World) (h:Sl eU w A n xs) (hc:n≤c) (hl:L32 xs) (k:Sl eU w B m ys) (kc:m≤d) (kl:L32 ys) (hb:(n + m + 4) * 8≤140737488351232) (hd:val ys ≠ 0) :
 Calls Tryz.prog 27 #[.bool s,.slice A n c,.slice B m d] w (RatPost (mkRat (sgn s (val xs)) (val ys)) w):=by
 have H1:=(((Held.init w).sl h).sl k).new 38 [.bool false,.slice none 0 0,.slice none 0 0]
 have hl1:=limbs_val_len hl
 have hl2:=limbs_val_len kl
 rw [h.len] at hl1
 rw [k.len] at hl2
 have hsx:=H1.has.2.2.1
 have hsy:=H1.has.2.1
 clear h k
 obtain ⟨q,hq⟩:∃ q,q=mkRat (sgn s (val xs)) (val ys):=⟨_,rfl⟩
 rw [← hq]
 obtain ⟨hqn,hqd⟩:=mk_lowest s (val xs) hd
 rw [← hq] at hqn hqd
 have hg0:Nat.gcd (val xs) (val ys) ≠ 0:=fun e=>hd (Nat.eq_zero_of_gcd_eq_zero_right e)
 have hgl:(limbs (Nat.gcd (val xs) (val ys))).length≤m:=Nat.le_trans (limbs_mono (Nat.gcd_le_right _ (Nat.pos_of_ne_zero hd))) hl2
 obtain ⟨g,hge⟩:∃ g,g=Nat.gcd (val xs) (val ys):=⟨_,rfl⟩
 rw [← hge] at hqn hqd hg0 hgl
 have hgcd:=nat_gcd A B n c m d xs ys _ hsx hc hl hsy kc kl hb
 rw [← hge] at hgcd
 have hn2:sgn s (val xs / g)=q.num:=hqn.symm
 have hd2:val ys / g=q.den:=hqd.symm
 have HQ:=Lib.hid (And.intro hn2 (And.intro hd2 hg0))
 clear hq hqn hqd hg0 hge hn2 hd2 hd
 go_enter Tryz.func27,Tryz.ntmps27
 go_wp2_with fail
 refine hgcd.mono ?_
 rintro e w1 ⟨G,cg,rfl,ho,hb1⟩
 have H2:=H1.step hb1
 have hgr:=H1.has.1.lt
 have hsg:=ho.sl (by omega)
 have hcg:=ho.cap
 have hsx:=H2.has.2.2.1
 clear H1 hb1 hsy hgcd
 go_wp2_with fail
 refine (nat_divmod A G n c _ cg xs (limbs g) _ hsx hc hl hsg hcg (limbs_L32 g) (by omega)).mono ?_
 rintro e w2 ⟨Q2,c2,R2,d2,rfl,hq2,_,hb2⟩
 rw [val_limbs] at hq2 ⊢
 rw [if_neg HQ.out.2.2,if_neg HQ.out.2.2]
 have H3:=H2.step hb2
 have hgr2:=H3.has.1.lt
 have hsg2:=hsg.below (Nat.le_refl _) hb2
 have hsy:=H3.has.2.1
 have hs2:=H2.bel.size
 have HN:=Lib.hid hq2
 have hsn:(limbs (val xs / g)).length≤n:=Nat.le_trans (limbs_mono (Nat.div_le_self _ _)) hl1
 have hdn:(limbs (val ys / g)).length≤m:=Nat.le_trans (limbs_mono (Nat.div_le_self _ _)) hl2
 generalize val xs / g=nn at *
 clear H2 hb2 hq2 hsg hsx ho
 go_wp2_with fail
 refine (nat_divmod B G m d _ cg ys (limbs g) _ hsy kc kl hsg2 hcg (limbs_L32 g) (by omega)).mono ?_
 rintro e w3 ⟨Q3,c3,R3,d3,rfl,hq3,_,hb3⟩
 rw [val_limbs] at hq3 ⊢
 rw [if_neg HQ.out.2.2,if_neg HQ.out.2.2]
 have H4:=H3.step hb3
 have hs3:=H3.bel.size
 have hq2:=HN.out.below (Nat.le_refl _) hb3
 have hsn2:=hq2.sl (by omega)
 have hcn2:=hq2.cap
 have HD:=Lib.hid hq3
 generalize val ys / g=dd at *
 clear H3 hb3 hq3 hsg2 hsy HN hq2
 go_wp2_with fail
 refine (whole_norm s Q2 _ c2 (limbs nn) _ hsn2 hcn2 (limbs_L32 nn) (by omega)).mono ?_
 rintro e w4 ⟨R,cr,rfl,ho,hb4⟩
 rw [val_limbs,HQ.out.1] at ho ⊢
 have H5:=H4.step hb4
 have hs4:=H4.bel.size
 have hd4:=HD.out.below (Nat.le_refl _) hb4
 rw [HQ.out.2.1] at hd4 ⊢
 have hsep:∀ g',R=some ⟨g',0,none⟩→Q3 ≠ some ⟨g',0,none⟩:=fun g' e1 e2=>by
  rcases ho.at_row with h1 | ⟨g1,h1,h2,_⟩
  ·rw [h1] at e1;cases e1
  ·rw [h1] at e1;injection e1 with e1;injection e1 with e1
   rcases HD.out.at_row with h3 | ⟨g2,h3,_,h4⟩
   ·rw [h3] at e2;cases e2
   ·rw [h3] at e2;injection e2 with e2;injection e2 with e2;omega
 have hq:=box3_fin (v0:=.bool (isNeg q.num)) (v1:=.slice R (limbs q.num.natAbs).length cr) (v2:=.slice Q3 (limbs q.den).length c3) (Nat.le_refl _) H5.has.1 H5.bel (ho.mono (by have:=H4.has.1.lt;omega)) (hd4.mono (by have:=hgr2;omega))
 have r0:=H5.has.1.cell 0
 have r1:=H5.has.1.cell 1
 have r2:=H5.has.1.cell 2
 have f0:=H5.has.1.frozen 0
 have f1:=H5.has.1.frozen 1
 have f2:=H5.has.1.frozen 2
 have c0:=hq.1.cell 0
 have c1:=hq.1.cell 1
 have c2':=hq.1.cell 2
 have HF:=Lib.hid (And.intro hq hsep)
 clear hq hsep H5 H4 ho hd4 hb4 hsn2 hcn2 HD
 go_wp2_with fail
 exact bodyPost_ret (v:=.agg #[.bool (isNeg q.num),.slice R (limbs q.num.natAbs).length cr,.slice Q3 (limbs q.den).length c3]) (by simp [results,Tryz.results27,go_sem,c0,c1,c2']) rfl ⟨R,cr,Q3,c3,rfl,HF.out.1.2.1,HF.out.1.2.2.1,HF.out.2,HF.out.1.2.2.2⟩
end Go.Proofs.YtgbmnlmnhbkdbaaGreat
