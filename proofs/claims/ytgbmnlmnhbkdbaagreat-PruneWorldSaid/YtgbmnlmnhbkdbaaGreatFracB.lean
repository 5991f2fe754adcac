/- frac.Mul and Add, walked, over fractions as they stand in memory. Conditions: the limbs read, within Go's bound together. -/
import Derived.Test.YtgbmnlmnhbkdbaaGreatJ25
set_option linter.unusedVariables false
set_option linter.unusedSimpArgs false
namespace Go.Proofs.YtgbmnlmnhbkdbaaGreat
open Go.RowKit

structure RatAt (w:World) (v:Value) (q:Rat) (K:Nat):Prop where
 ex:∃ s A n c xs D k e ds,v=.agg #[.bool s,.slice A n c,.slice D k e]∧Sl eU w A n xs∧n≤c∧L32 xs∧Sl eU w D k ds∧k≤e∧L32 ds∧q=ratR s (val xs) (val ds)∧n + k≤K
theorem RatAt.below {w w':World} {v:Value} {q:Rat} {K:Nat} (h:RatAt w v q K) {B:Nat} (hB:w.heap.size≤B) (hb:Below B w w'):RatAt w' v q K:=by
 obtain ⟨s,A,n,c,xs,D,k,e,ds,h1,h2,h3,h4,h5,h6⟩:=h.ex
 exact ⟨s,A,n,c,xs,D,k,e,ds,h1,h2.below hB hb,h3,h4,h5.below hB hb,h6⟩
instance {v:Value} {q:Rat} {K:Nat}:Stable (fun w=>RatAt w v q K):=⟨fun hb h=>h.below (Nat.le_refl _) hb⟩
def ratLen (q:Rat):Nat:=(limbs q.num.natAbs).length + (limbs q.den).length
theorem RatPost.at {q:Rat} {w w':World} {e:Ending} (h:RatPost q w e w') (hb:ratLen q≤140737488351232):∃ v,e=.returned v∧RatAt w' v q (ratLen q)∧Below w.heap.size w w':=by
 obtain ⟨R,c,D,d,rfl,h1,h2,_,h3⟩:=h
 unfold ratLen at hb
 exact ⟨_,rfl,⟨_,R,_,c,_,D,_,d,_,rfl,h1.sl (by omega),h1.cap,limbs_L32 _,h2.sl (by omega),h2.cap,limbs_L32 _,by rw [val_limbs,val_limbs];exact (ratR_norm q).symm,Nat.le_refl _⟩,h3⟩
theorem fits4 {x:Nat} (h:x≤4000000000000):x * 4≤140737488351232:=Nat.le_trans (Nat.mul_le_mul_right 4 h) (by decide)
theorem fits8 {x:Nat} (h:x≤4000000000000):x * 8≤140737488351232:=Nat.le_trans (Nat.mul_le_mul_right 8 h) (by decide)
theorem und_len (d:Nat):(limbs (und d)).length≤(limbs d).length + 1:=by
 unfold und
 split
 ·have:(limbs 1).length≤1:=limbs_len (by decide)
  omega
 ·omega
set_option maxRecDepth 100000 in
set_option maxHeartbeats 400000 in
theorem frac_mul (u v:Value) (p q:Rat) (K M:Nat) (w:World) (hu:RatAt w u p K) (hv:RatAt w v q M) (hb:K + M≤1000000000000) :
 Calls Tryz.prog 10 #[u,v] w (RatPost (p * q) w):=by
 obtain ⟨s,A,n,c,xs,D,k,e,ds,rfl,a1,a2,a3,a4,a5,a6,rfl,a7⟩:=hu.ex
 obtain ⟨t,B,n',c',ys,E,k',e',es,rfl,b1,b2,b3,b4,b5,b6,rfl,b7⟩:=hv.ex
 clear hu hv
 have l1:=limbs_val_len a3
 have l2:=limbs_val_len b3
 have l3:=limbs_val_len a6
 have l4:=limbs_val_len b6
 rw [a1.len] at l1
 rw [b1.len] at l2
 rw [a4.len] at l3
 rw [b4.len] at l4
 have l5:=limbs_mul_len (val xs) (val ys)
 have l6:=und_len (val ds)
 have l7:=und_len (val es)
 have l8:=limbs_mul_len (und (val ds)) (und (val es))
 have hpq:=ratR_mul s t (val xs) (val ys) (val ds) (val es)
 rw [← hpq]
 have hne:und (val ds) * und (val es) ≠ 0:=Nat.mul_ne_zero (und_pos _) (und_pos _)
 clear hpq
 have H1:=(((((Held.init w).sl a1).sl a4).sl b1).sl b4).new 38 [.bool s,.slice A n c,.slice D k e]
 have H2:=H1.new 38 [.bool t,.slice B n' c',.slice E k' e']
 rw [show (w.alloc (.cells [.bool s,.slice A n c,.slice D k e].toArray 38)).heap.size=w.heap.size + 1 from by simp] at H2
 have H:=H2.new 38 [.bool false,.slice none 0 0,.slice none 0 0]
 rw [show ((w.alloc (.cells [.bool s,.slice A n c,.slice D k e].toArray 38)).alloc (.cells [.bool t,.slice B n' c',.slice E k' e'].toArray 38)).heap.size=w.heap.size + 1 + 1 from by simp] at H
 clear H1 H2 a1 a4 b1 b4
 obtain ⟨wq,hwq⟩:∃ wq:World,wq=((w.alloc (.cells #[.bool s,.slice A n c,.slice D k e] 38)).alloc (.cells #[.bool t,.slice B n' c',.slice E k' e'] 38)).alloc (.cells #[.bool false,.slice none 0 0,.slice none 0 0] 38):=⟨_,rfl⟩
 rw [← hwq] at H
 have H:=H.drew
 have q1:∀ (w':World) (o o':Nat) (u:Value),(w'.setCell ⟨w.heap.size + 1 + 1,o,none⟩ u).cell? ⟨w.heap.size,o',none⟩=w'.cell? ⟨w.heap.size,o',none⟩:=fun w' o o' u=>cell_farN (by omega)
 have q2:∀ (w':World) (o o':Nat) (u:Value),(w'.setCell ⟨w.heap.size + 1 + 1,o,none⟩ u).cell? ⟨w.heap.size + 1,o',none⟩=w'.cell? ⟨w.heap.size + 1,o',none⟩:=fun w' o o' u=>cell_farN (by omega)
 go_enter Tryz.func10,Tryz.ntmps10
 go_wp2_with fail
 rw [← hwq]
 have r0:wq.cell? ⟨w.heap.size,0,none⟩=some (.bool s):=H.has.2.2.1.cell 0
 have r1:wq.cell? ⟨w.heap.size,1,none⟩=some (.slice A n c):=H.has.2.2.1.cell 1
 have r2:wq.cell? ⟨w.heap.size,2,none⟩=some (.slice D k e):=H.has.2.2.1.cell 2
 have r3:wq.cell? ⟨w.heap.size + 1,0,none⟩=some (.bool t):=H.has.2.1.cell 0
 have r4:wq.cell? ⟨w.heap.size + 1,1,none⟩=some (.slice B n' c'):=H.has.2.1.cell 1
 have r5:wq.cell? ⟨w.heap.size + 1,2,none⟩=some (.slice E k' e'):=H.has.2.1.cell 2
 clear hwq
 go_region_held3 (fun w'=>w'.cell? ⟨w.heap.size,0,none⟩=some (.bool s)∧w'.cell? ⟨w.heap.size,1,none⟩=some (.slice A n c)∧w'.cell? ⟨w.heap.size,2,none⟩=some (.slice D k e) ∧
  w'.cell? ⟨w.heap.size + 1,0,none⟩=some (.bool t)∧w'.cell? ⟨w.heap.size + 1,1,none⟩=some (.slice B n' c')∧w'.cell? ⟨w.heap.size + 1,2,none⟩=some (.slice E k' e'))
  (first | exact ⟨r0,r1,r2,r3,r4,r5⟩ | assumption | go_keep | exact ⟨(q1 _ _ _ _).trans ((q1 _ _ _ _).trans ((q1 _ _ _ _).trans r0)),(q1 _ _ _ _).trans ((q1 _ _ _ _).trans ((q1 _ _ _ _).trans r1)),(q1 _ _ _ _).trans ((q1 _ _ _ _).trans ((q1 _ _ _ _).trans r2)),
      (q2 _ _ _ _).trans ((q2 _ _ _ _).trans ((q2 _ _ _ _).trans r3)),(q2 _ _ _ _).trans ((q2 _ _ _ _).trans ((q2 _ _ _ _).trans r4)),(q2 _ _ _ _).trans ((q2 _ _ _ _).trans ((q2 _ _ _ _).trans r5))⟩)
  (first
    | ((go_at_call 28);(with_reducible refine (nat_mul A B n c n' c' xs ys _ H.has.2.2.2.2.2.2.1 a2 a3 H.has.2.2.2.2.1 b2 b3 (fits4 (by omega))).mono ?_);(rintro e w1 ⟨R1,d1,rfl,ho1,hb1⟩);
       (have hs1:=ho1.sl (by omega));(have hc1:=ho1.cap);(have HA:=(H.step hb1).sl hs1);(clear ho1 hb1 hs1);
       (have r0:=HA.has.2.2.2.1.cell 0);(have r1:=HA.has.2.2.2.1.cell 1);(have r2:=HA.has.2.2.2.1.cell 2);(have r3:=HA.has.2.2.1.cell 0);(have r4:=HA.has.2.2.1.cell 1);(have r5:=HA.has.2.2.1.cell 2))
    | ((go_at_call 26);(with_reducible refine (frac_under s A D n c k e ds _ HA.has.2.2.2.2.2.2.1 a5 a6 (fits4 (by omega))).mono ?_);(rintro e w2 ⟨R2,d2,rfl,ho1,hb1⟩);
       (have hs1:=ho1.sl (by omega));(have hc2:=ho1.cap);(have HB:=(HA.step hb1).sl hs1);(clear ho1 hb1 hs1);
       (have r0:=HB.has.2.2.2.2.1.cell 0);(have r1:=HB.has.2.2.2.2.1.cell 1);(have r2:=HB.has.2.2.2.2.1.cell 2);(have r3:=HB.has.2.2.2.1.cell 0);(have r4:=HB.has.2.2.2.1.cell 1);(have r5:=HB.has.2.2.2.1.cell 2))
    | ((go_at_call 26);(with_reducible refine (frac_under t B E n' c' k' e' es _ HB.has.2.2.2.2.2.1 b5 b6 (fits4 (by omega))).mono ?_);(rintro e w3 ⟨R3,d3,rfl,ho1,hb1⟩);
       (have hs1:=ho1.sl (by omega));(have hc3:=ho1.cap);(have HC:=(HB.step hb1).sl hs1);(clear ho1 hb1 hs1);
       (have r0:=HC.has.2.2.2.2.2.1.cell 0);(have r1:=HC.has.2.2.2.2.2.1.cell 1);(have r2:=HC.has.2.2.2.2.2.1.cell 2);(have r3:=HC.has.2.2.2.2.1.cell 0);(have r4:=HC.has.2.2.2.2.1.cell 1);(have r5:=HC.has.2.2.2.2.1.cell 2))
    | ((go_at_call 28);(with_reducible refine (nat_mul R2 R3 _ d2 _ d3 (limbs (und (val ds))) (limbs (und (val es))) _ HC.has.2.1 hc2 (limbs_L32 _) HC.has.1 hc3 (limbs_L32 _) (fits4 (by omega))).mono ?_);(rintro e w4 ⟨R4,d4,rfl,ho1,hb1⟩);(rw [val_limbs,val_limbs] at ho1 ⊢);
       (have hs1:=ho1.sl (by omega));(have hc4:=ho1.cap);(have HD:=(HC.step hb1).sl hs1);(clear ho1 hb1 hs1);
       (have r0:=HD.has.2.2.2.2.2.2.1.cell 0);(have r1:=HD.has.2.2.2.2.2.2.1.cell 1);(have r2:=HD.has.2.2.2.2.2.2.1.cell 2);(have r3:=HD.has.2.2.2.2.2.1.cell 0);(have r4:=HD.has.2.2.2.2.2.1.cell 1);(have r5:=HD.has.2.2.2.2.2.1.cell 2))
    | ((go_at_call 27);(refine (frac_lowest (s != t) R1 R4 _ d1 _ d4 (limbs (val xs * val ys)) (limbs (und (val ds) * und (val es))) _ HD.has.2.2.2.1 hc1 (limbs_L32 _) HD.has.1 hc4 (limbs_L32 _) (fits8 (by omega)) (by rw [val_limbs];exact hne)).mono ?_);(rintro e w5 ⟨R,cr,D9,dd9,rfl,ho,hd,hsep,hb5⟩);(rw [val_limbs,val_limbs] at ho hd ⊢);(have HE:=HD.step hb5);
       (have r0:=HE.has.2.2.2.2.2.2.1.cell 0);(have r1:=HE.has.2.2.2.2.2.2.1.cell 1);(have r2:=HE.has.2.2.2.2.2.2.1.cell 2);(have r3:=HE.has.2.2.2.2.2.1.cell 0);(have r4:=HE.has.2.2.2.2.2.1.cell 1);(have r5:=HE.has.2.2.2.2.2.1.cell 2);
       (have t0:=HE.has.2.2.2.2.1.cell 0);(have t1:=HE.has.2.2.2.2.1.cell 1);(have t2:=HE.has.2.2.2.2.1.cell 2);(have f0:=HE.has.2.2.2.2.1.frozen 0);(have f1:=HE.has.2.2.2.2.1.frozen 1);(have f2:=HE.has.2.2.2.2.1.frozen 2)))
 all_goals (
  have hg:=HD.has.2.2.2.2.1.lt
  clear r0 r1 r2 r3 r4 r5 f0 f1 f2
  generalize hqq:mkRat (sgn (s != t) (val xs * val ys)) (und (val ds) * und (val es))=q at *
  have hq:=box3_fin (v0:=.bool (isNeg q.num)) (v1:=.slice R (limbs q.num.natAbs).length cr) (v2:=.slice D9 (limbs q.den).length dd9) (g:=w.heap.size + 1 + 1) (by omega) HE.has.2.2.2.2.1 HE.bel (ho.mono (by omega)) (hd.mono (by omega))
  have c0:=hq.1.cell 0
  have c1:=hq.1.cell 1
  have c2':=hq.1.cell 2
  have HF:=Lib.hid (And.intro hq hsep)
  clear hq hsep HE HD HC HB HA H ho hd hqq
  go_wp2_with fail
  exact bodyPost_ret (v:=.agg #[.bool (isNeg q.num),.slice R (limbs q.num.natAbs).length cr,.slice D9 (limbs q.den).length dd9]) (by simp [results,Tryz.results10,go_sem,c0,c1,c2']) rfl ⟨R,cr,D9,dd9,rfl,HF.out.1.2.1,HF.out.1.2.2.1,HF.out.2,HF.out.1.2.2.2⟩)
end Go.Proofs.YtgbmnlmnhbkdbaaGreat
