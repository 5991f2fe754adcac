/- Joined by program out of: FracD, FracE. What each says stands at its own head. -/
import Derived.Test.YtgbmnlmnhbkdbaaGreatFracC
set_option linter.unusedVariables false
set_option linter.unusedSimpArgs false
/- frac.Cmp, walked, over fractions as they stand in memory. Conditions: the limbs read, within Go's bound together. Printed by wip/gen/fraccmp.py. -/
namespace Go.Proofs.YtgbmnlmnhbkdbaaGreat
open Go.RowKit

set_option maxRecDepth 100000 in
set_option maxHeartbeats 4000000 in
theorem frac_cmp (u v:Value) (p q:Rat) (K M:Nat) (w:World) (hu:RatAt w u p K) (hv:RatAt w v q M) (hb:K + M≤1000000000000) :
 Calls Tryz.prog 9 #[u,v] w fun e w'=>e=.returned (.int .i64 (cmpQ p q))∧Below w.heap.size w w':=by
 obtain ⟨s,A,n,c,xs,D,k,e,ds,rfl,a1,a2,a3,a4,a5,a6,rfl,a7⟩:=hu.ex
 obtain ⟨t,B,n',c',ys,E,k',e',es,rfl,b1,b2,b3,b4,b5,b6,rfl,b7⟩:=hv.ex
 clear hu hv
 have l1:=limbs_val_len a3
 have l2:=limbs_val_len b3
 have l3:=limbs_val_len a6
 have l4:=limbs_val_len b6
 rw [a1.len] at l1
 rw [b1.len] at l2
 rw [a4.len] at l3
 rw [b4.len] at l4
 have l6:=und_len (val ds)
 have l7:=und_len (val es)
 have l8:=limbs_mul_len (und (val ds)) (und (val es))
 have l9:=over_len s (val xs) (und (val es))
 have l10:=over_len t (val ys) (und (val ds))
 have l11:=sum_len (sgn s (val xs) * (und (val es):Int)) (sgn t (val ys) * (und (val ds):Int))
 have H1:=(((((Held.init w).sl a1).sl a4).sl b1).sl b4).new 38 [.bool s,.slice A n c,.slice D k e]
 have H2:=H1.new 38 [.bool t,.slice B n' c',.slice E k' e']
 rw [show (w.alloc (.cells [.bool s,.slice A n c,.slice D k e].toArray 38)).heap.size=w.heap.size + 1 from by simp] at H2
 have H:=H2
 clear H1 H2 a1 a4 b1 b4
 obtain ⟨wq,hwq⟩:∃ wq:World,wq=(w.alloc (.cells #[.bool s,.slice A n c,.slice D k e] 38)).alloc (.cells #[.bool t,.slice B n' c',.slice E k' e'] 38):=⟨_,rfl⟩
 rw [← hwq] at H
 go_enter Tryz.func9,Tryz.ntmps9
 go_wp2_with fail
 rw [← hwq]
 clear hwq
 have HG:=H.drew
 clear H
 have ra:RowC wq.drew w.heap.size 38 [.bool s,.slice A n c,.slice D k e]:=HG.has.2.1
 have rb:RowC wq.drew (w.heap.size + 1) 38 [.bool t,.slice B n' c',.slice E k' e']:=HG.has.1
 go_region_held3 (fun w'=>w'.cell? ⟨w.heap.size,0,none⟩=some (.bool s)∧w'.cell? ⟨w.heap.size,1,none⟩=some (.slice A n c)∧w'.cell? ⟨w.heap.size,2,none⟩=some (.slice D k e) ∧
  w'.cell? ⟨w.heap.size + 1,0,none⟩=some (.bool t)∧w'.cell? ⟨w.heap.size + 1,1,none⟩=some (.slice B n' c')∧w'.cell? ⟨w.heap.size + 1,2,none⟩=some (.slice E k' e'))
  (first | exact ⟨ra.cell 0,ra.cell 1,ra.cell 2,rb.cell 0,rb.cell 1,rb.cell 2⟩ | assumption | go_keep)
  (first
    | ((go_at_call 26);(with_reducible refine (frac_under s A D n c k e ds _ (bg HG) a5 a6 (fits4 (by omega))).mono ?_);(rintro e w3 ⟨R3,d3,rfl,ho3,hb1⟩);
       (have hs1:=ho3.sl (by omega));(have hc3:=ho3.cap);(have HG:=(HG.step hb1).sl hs1);(clear hb1 hs1);
       (have ra:RowC _ w.heap.size 38 [.bool s,.slice A n c,.slice D k e]:=(bg HG));(have rb:RowC _ (w.heap.size + 1) 38 [.bool t,.slice B n' c',.slice E k' e']:=(bg HG)))
    | ((go_at_call 25);(with_reducible refine (frac_over s A R1 n c _ d1 xs (limbs (und (val es))) _ (bg HG) a2 a3 (bg HG) hc1 (limbs_L32 _) (fits8 (by omega))).mono ?_);(rintro e w2 ⟨R2,d2,rfl,ho2,hb1⟩);(rw [val_limbs] at ho2 ⊢);
       (have hs1:=ho2.sl (by omega));(have hc2:=ho2.cap);(have HG:=(HG.step hb1).sl hs1);(clear hb1 hs1);
       (have ra:RowC _ w.heap.size 38 [.bool s,.slice A n c,.slice D k e]:=(bg HG));(have rb:RowC _ (w.heap.size + 1) 38 [.bool t,.slice B n' c',.slice E k' e']:=(bg HG)))
    | ((go_at_call 25);(with_reducible refine (frac_over t B R3 n' c' _ d3 ys (limbs (und (val ds))) _ (bg HG) b2 b3 (bg HG) hc3 (limbs_L32 _) (fits8 (by omega))).mono ?_);(rintro e w4 ⟨R4,d4,rfl,ho4,hb1⟩);(rw [val_limbs] at ho4 ⊢);
       (have hs1:=ho4.sl (by omega));(have hc4:=ho4.cap);(have HG:=(HG.step hb1).sl hs1);(clear hb1 hs1);
       (have ra:RowC _ w.heap.size 38 [.bool s,.slice A n c,.slice D k e]:=(bg HG));(have rb:RowC _ (w.heap.size + 1) 38 [.bool t,.slice B n' c',.slice E k' e']:=(bg HG)))
    | ((go_at_call 24);(with_reducible refine (whole_cmp _ _ R2 R4 _ d2 _ d4 (limbs (sgn s (val xs) * (und (val es):Int)).natAbs) (limbs (sgn t (val ys) * (und (val ds):Int)).natAbs) _ (bg HG) hc2 (limbs_L32 _) (bg HG) hc4 (limbs_L32 _)).mono ?_);(rintro e w5 ⟨rfl,hb1⟩);(rw [val_limbs,val_limbs,sgn_isNeg,sgn_isNeg,ratR_cmp]);(have HG:=HG.step hb1);(clear hb1);
       (have ra:RowC _ w.heap.size 38 [.bool s,.slice A n c,.slice D k e]:=(bg HG));(have rb:RowC _ (w.heap.size + 1) 38 [.bool t,.slice B n' c',.slice E k' e']:=(bg HG)))
    | ((go_at_call 26);(with_reducible refine (frac_under t B E n' c' k' e' es _ (bg HG) b5 b6 (fits4 (by omega))).mono ?_);(rintro e w1 ⟨R1,d1,rfl,ho1,hb1⟩);
       (have hs1:=ho1.sl (by omega));(have hc1:=ho1.cap);(have HG:=(HG.step hb1).sl hs1);(clear hb1 hs1);
       (have ra:RowC _ w.heap.size 38 [.bool s,.slice A n c,.slice D k e]:=(bg HG));(have rb:RowC _ (w.heap.size + 1) 38 [.bool t,.slice B n' c',.slice E k' e']:=(bg HG))))
 have HF:=Lib.hid HG.bel
 clear HG ra rb
 go_wp2_with fail
 go_ret
 exact ⟨rfl,HF.out⟩
end Go.Proofs.YtgbmnlmnhbkdbaaGreat
/- frac.New, Of, walked. Conditions: the limbs read, within Go's bound together; Of of small numbers. -/
namespace Go.Proofs.YtgbmnlmnhbkdbaaGreat
open Go.RowKit

def RatOkPost (q:Rat) (w:World) (e:Ending) (w':World):Prop:=
 ∃ R c D d,e=.returned (.tuple #[.agg #[.bool (isNeg q.num),.slice R (limbs q.num.natAbs).length c,.slice D (limbs q.den).length d],.int .i64 0])∧OwnR eU w' w.heap.size 83 R (limbs q.num.natAbs).length c (limbs q.num.natAbs)∧OwnR eU w' w.heap.size 83 D (limbs q.den).length d (limbs q.den) ∧
  (∀ g,R=some ⟨g,0,none⟩→D ≠ some ⟨g,0,none⟩)∧Below w.heap.size w w'
theorem limbs_one {a:Nat} (ha:a < 4294967296):(limbs a).length≤1:=limbs_len (by rw [Nat.pow_one];exact ha)
theorem sgnI_ne {t:Bool} {b:Nat} (hb:b ≠ 0):(sgnI (sgn t b) == 0)=false:=by
 have h1:sgn t b ≠ 0:=fun h=>hb (sgn_eq_zero.1 h)
 have:=sgnI_cases (sgn t b)
 simp
 omega
set_option maxRecDepth 100000 in
set_option maxHeartbeats 800000 in
theorem frac_new (s t:Bool) (A B:Option Addr) (n c m d:Nat) (xs ys:List Nat) (w:World) (h:Sl eU w A n xs) (hc:n≤c) (hl:L32 xs) (k:Sl eU w B m ys) (kc:m≤d) (kl:L32 ys) (hb:(n + m + 4) * 8≤140737488351232) (hd:val ys ≠ 0) :
 Calls Tryz.prog 22 #[.agg #[.bool s,.slice A n c],.agg #[.bool t,.slice B m d]] w (RatOkPost (mkRat (sgn (s != t) (val xs)) (val ys)) w):=by
 have H1:=(((Held.init w).sl h).sl k).new 36 [.bool s,.slice A n c]
 have H2:=H1.new 36 [.bool t,.slice B m d]
 rw [show (w.alloc (.cells [.bool s,.slice A n c].toArray 36)).heap.size=w.heap.size + 1 from by simp] at H2
 have H:=H2.new 38 [.bool false,.slice none 0 0,.slice none 0 0]
 rw [show ((w.alloc (.cells [.bool s,.slice A n c].toArray 36)).alloc (.cells [.bool t,.slice B m d].toArray 36)).heap.size=w.heap.size + 1 + 1 from by simp] at H
 clear H1 H2 h k
 have hsg:=sgnI_ne (t:=t) hd
 have r0:=H.has.2.2.1.cell 0
 have r1:=H.has.2.2.1.cell 1
 have r2:=H.has.2.1.cell 0
 have r3:=H.has.2.1.cell 1
 go_enter Tryz.func22,Tryz.ntmps22
 go_wp2_with fail
 refine (whole_sign t B m d ys _ H.has.2.2.2.1 kc kl).mono ?_
 rintro e w1 ⟨rfl,hb1⟩
 have HA:=H.step hb1
 generalize sgnI (sgn t (val ys))=sg at *
 have r0:=HA.has.2.2.1.cell 0
 have r1:=HA.has.2.2.1.cell 1
 have r2:=HA.has.2.1.cell 0
 have r3:=HA.has.2.1.cell 1
 have HF:=Lib.hid HA
 clear H hb1 HA
 go_wp2_with fail
 refine (frac_lowest (s != t) A B n c m d xs ys _ HF.out.has.2.2.2.2.1 hc hl HF.out.has.2.2.2.1 kc kl hb hd).mono ?_
 rintro e w2 ⟨R,cr,D,dr,rfl,ho,ho2,hsep,hb2⟩
 generalize mkRat (sgn (s != t) (val xs)) (val ys)=q at *
 have H3:=HF.out.step hb2
 have hg:=HF.out.has.1.lt
 have t0:=H3.has.1.cell 0
 have t1:=H3.has.1.cell 1
 have t2:=H3.has.1.cell 2
 have f0:=H3.has.1.frozen 0
 have f1:=H3.has.1.frozen 1
 have f2:=H3.has.1.frozen 2
 have hq:=box3_fin (v0:=.bool (isNeg q.num)) (v1:=.slice R (limbs q.num.natAbs).length cr) (v2:=.slice D (limbs q.den).length dr) (g:=w.heap.size + 1 + 1) (by omega) H3.has.1 H3.bel (ho.mono (by omega)) (ho2.mono (by omega))
 have c0:=hq.1.cell 0
 have c1:=hq.1.cell 1
 have c2':=hq.1.cell 2
 have HQ:=Lib.hid (And.intro hq hsep)
 clear hq hsep H3 ho ho2 hb2 HF
 go_wp2_with fail
 exact bodyPost_ret (v:=.tuple #[.agg #[.bool (isNeg q.num),.slice R (limbs q.num.natAbs).length cr,.slice D (limbs q.den).length dr],.int .i64 0]) (by simp [results,Tryz.results22,go_sem,c0,c1,c2']) rfl ⟨R,cr,D,dr,rfl,HQ.out.1.2.1,HQ.out.1.2.2.1,HQ.out.2,HQ.out.1.2.2.2⟩
set_option maxRecDepth 100000 in
set_option maxHeartbeats 800000 in
theorem frac_of (a b:Nat) (w:World) (ha:a < 4294967296) (hb:b < 4294967296) (hd:b ≠ 0) :
 Calls Tryz.prog 8 #[.int .i64 (a:Int),.int .i64 (b:Int)] w (RatOkPost (mkRat a b) w):=by
 have H:=(Held.init w).new 38 [.bool false,.slice none 0 0,.slice none 0 0]
 have r0:=H.has.1.cell 0
 go_enter Tryz.func8,Tryz.ntmps8
 go_wp2_with fail
 refine (whole_ofI a _ ha).mono ?_
 rintro e w1 ⟨A,c,rfl,ho1,hb1⟩
 have HA:=(H.step hb1).sl (ho1.sl (by rw [Int.natAbs_natCast];have:=limbs_one ha;omega))
 have hc1:=ho1.cap
 clear H hb1 ho1
 go_wp2_with fail
 refine (whole_ofI b _ hb).mono ?_
 rintro e w2 ⟨B,d,rfl,ho2,hb2⟩
 have HB:=(HA.step hb2).sl (ho2.sl (by rw [Int.natAbs_natCast];have:=limbs_one hb;omega))
 have hc2:=ho2.cap
 clear HA hb2 ho2
 have e1:isNeg (a:Int)=false:=by unfold isNeg;simp
 have e2:isNeg (b:Int)=false:=by unfold isNeg;simp
 have l1:(limbs a).length≤1:=limbs_one ha
 have l2:(limbs b).length≤1:=limbs_one hb
 rw [Int.natAbs_natCast] at hc1 hc2
 have hnew:=frac_new false false A B _ c _ d (limbs a) (limbs b) w2 HB.has.2.1 hc1 (limbs_L32 _) HB.has.1 hc2 (limbs_L32 _) (by simp only [Int.natAbs_natCast];omega) (by rw [val_limbs];exact hd)
 rw [show (false != false)=false from rfl,sgn_false,val_limbs,val_limbs] at hnew
 rw [e1,e2]
 have HF:=Lib.hid HB
 have HN:=Lib.hid hnew
 clear HB hnew e1 e2 l1 l2 r0
 go_wp2_with fail
 refine HN.out.mono ?_
 rintro e w3 ⟨R,cr,D,dr,rfl,ho,ho2,hsep,hb2⟩
 generalize mkRat (a:Int) b=q at *
 have H3:=HF.out.step hb2
 have hg:=HF.out.has.2.2.1.lt
 have t0:=H3.has.2.2.1.cell 0
 have t1:=H3.has.2.2.1.cell 1
 have t2:=H3.has.2.2.1.cell 2
 have f0:=H3.has.2.2.1.frozen 0
 have f1:=H3.has.2.2.1.frozen 1
 have f2:=H3.has.2.2.1.frozen 2
 have hq:=box3_fin (v0:=.bool (isNeg q.num)) (v1:=.slice R (limbs q.num.natAbs).length cr) (v2:=.slice D (limbs q.den).length dr) (g:=w.heap.size) (by omega) H3.has.2.2.1 H3.bel (ho.mono (by omega)) (ho2.mono (by omega))
 have c0:=hq.1.cell 0
 have c1:=hq.1.cell 1
 have c2':=hq.1.cell 2
 have HQ:=Lib.hid (And.intro hq hsep)
 clear hq hsep H3 ho ho2 hb2 HF HN
 go_wp2_with fail
 exact bodyPost_ret (v:=.tuple #[.agg #[.bool (isNeg q.num),.slice R (limbs q.num.natAbs).length cr,.slice D (limbs q.den).length dr],.int .i64 0]) (by simp [results,Tryz.results8,go_sem,c0,c1,c2']) rfl ⟨R,cr,D,dr,rfl,HQ.out.1.2.1,HQ.out.1.2.2.1,HQ.out.2,HQ.out.1.2.2.2⟩
end Go.Proofs.YtgbmnlmnhbkdbaaGreat
