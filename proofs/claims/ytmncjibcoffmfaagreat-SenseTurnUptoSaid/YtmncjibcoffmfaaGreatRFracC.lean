/- The document's fractions: Mul, Neg, walked. Conditions: the limbs read, within Go's bound together. Printed by wip/gen/rfrac.py. -/
import Derived.Test.YtmncjibcoffmfaaGreatJ15
set_option linter.unusedVariables false
set_option linter.unusedSimpArgs false
namespace Go.Proofs.YtmncjibcoffmfaaGreat
open Go.RowKit

theorem over_lenZZ (s t:Bool) (a b:Nat):(limbs (sgn s a * sgn t b).natAbs).length≤(limbs a).length + (limbs b).length:=by
 rw [Int.natAbs_mul,sgn_natAbs,sgn_natAbs]
 exact limbs_mul_len a b
theorem ratLen_neg (q:Rat):ratLen (-q)=ratLen q:=by
 unfold ratLen
 rw [Rat.neg_num,Rat.neg_den,Int.natAbs_neg]
theorem ratLen_mk (n:Int) {d:Nat} (hd:d ≠ 0):ratLen (mkRat n d)≤(limbs n.natAbs).length + (limbs d).length:=by
 have h:=mk_lowest (isNeg n) n.natAbs hd
 rw [sgn_isNeg] at h
 unfold ratLen
 rw [h.1,h.2,sgn_natAbs]
 have h1:=limbs_mono (Nat.div_le_self n.natAbs (Nat.gcd n.natAbs d))
 have h2:=limbs_mono (Nat.div_le_self d (Nat.gcd n.natAbs d))
 omega
theorem RatAt.len {w:World} {v:Value} {q:Rat} {K:Nat} (h:RatAt w v q K):ratLen q≤K + 1:=by
 obtain ⟨s,A,n,c,xs,D,k,e,ds,_,a1,_,a3,a4,_,a6,rfl,a7⟩:=h.ex
 have l1:=limbs_val_len a3
 have l3:=limbs_val_len a6
 rw [a1.len] at l1
 rw [a4.len] at l3
 have l6:=und_len (val ds)
 have h1:=ratLen_mk (sgn s (val xs)) (und_pos (val ds))
 rw [sgn_natAbs] at h1
 unfold ratR
 omega
set_option maxRecDepth 100000 in
set_option maxHeartbeats 4000000 in
theorem rfrac_mul (u v:Value) (p q:Rat) (K M:Nat) (w:World) (hu:RatAt w u p K) (hv:RatAt w v q M) (hb:K + M≤100000000000) :
 Calls Tryz.prog 39 #[u,v] w (RatPost (p * q) w):=by
 obtain ⟨s,A,n,c,xs,D,k,e,ds,rfl,a1,a2,a3,a4,a5,a6,rfl,a7⟩:=hu.ex
 obtain ⟨t,B,n',c',ys,E,k',e',es,rfl,b1,b2,b3,b4,b5,b6,rfl,b7⟩:=hv.ex
 clear hu hv
 have l1:=limbs_val_len a3
 have l3:=limbs_val_len a6
 rw [a1.len] at l1
 rw [a4.len] at l3
 have l6:=und_len (val ds)
 have l2:=limbs_val_len b3
 have l4:=limbs_val_len b6
 rw [b1.len] at l2
 rw [b4.len] at l4
 have l7:=und_len (val es)
 have l8:=limbs_mul_len (und (val ds)) (und (val es))
 have l9:=over_lenZZ s t (val xs) (val ys)
 have hpq:mkRat (sgn s (val xs) * sgn t (val ys)) (und (val ds) * und (val es))=ratR s (val xs) (val ds) * ratR t (val ys) (val es):=by rw [sgn_mul];exact ratR_mul s t _ _ _ _
 have hne:und (val ds) * und (val es) ≠ 0:=Nat.mul_ne_zero (und_pos _) (und_pos _)
 obtain ⟨z,hz⟩:∃ z,z=ratR s (val xs) (val ds) * ratR t (val ys) (val es):=⟨_,rfl⟩
 rw [← hz] at hpq ⊢
 have HPQ:=Lib.hid hpq
 clear hz hpq
 have H1:=(((((Held.init w).sl a1).sl a4).sl b1).sl b4).new 36 [.bool s,.slice A n c,.slice D k e]
 have H2:=H1.new 36 [.bool t,.slice B n' c',.slice E k' e']
 rw [show (w.alloc (.cells [.bool s,.slice A n c,.slice D k e].toArray 36)).heap.size=w.heap.size + 1 from by simp] at H2
 have H:=H2.new 36 [.bool false,.slice none 0 0,.slice none 0 0]
 rw [show ((w.alloc (.cells [.bool s,.slice A n c,.slice D k e].toArray 36)).alloc (.cells [.bool t,.slice B n' c',.slice E k' e'].toArray 36)).heap.size=w.heap.size + 1 + 1 from by simp] at H
 clear H1 H2 a1 a4 b1 b4
 obtain ⟨wq,hwq⟩:∃ wq:World,wq=((w.alloc (.cells #[.bool s,.slice A n c,.slice D k e] 36)).alloc (.cells #[.bool t,.slice B n' c',.slice E k' e'] 36)).alloc (.cells #[.bool false,.slice none 0 0,.slice none 0 0] 36):=⟨_,rfl⟩
 rw [← hwq] at H
 go_enter Tryz.func39,Tryz.ntmps39
 go_wp2_with fail
 rw [← hwq]
 clear hwq
 have HG:=H.drew
 clear H
 (have ra:RowC wq.drew w.heap.size 36 [.bool s,.slice A n c,.slice D k e]:=(bg HG));(have rb:RowC wq.drew (w.heap.size + 1) 36 [.bool t,.slice B n' c',.slice E k' e']:=(bg HG));(have rc:RowC wq.drew (w.heap.size + 1 + 1) 36 [.bool false,.slice none 0 0,.slice none 0 0]:=(bg HG))
 go_region_held3 (fun w'=>w'.cell? ⟨w.heap.size,0,none⟩=some (.bool s)∧w'.cell? ⟨w.heap.size,1,none⟩=some (.slice A n c)∧w'.cell? ⟨w.heap.size,2,none⟩=some (.slice D k e)∧w'.cell? ⟨w.heap.size + 1,0,none⟩=some (.bool t)∧w'.cell? ⟨w.heap.size + 1,1,none⟩=some (.slice B n' c')∧w'.cell? ⟨w.heap.size + 1,2,none⟩=some (.slice E k' e'))
  (first | exact ⟨ra.cell 0,ra.cell 1,ra.cell 2,rb.cell 0,rb.cell 1,rb.cell 2⟩ | assumption | exact ⟨(cell_farN (by omega)).trans ((cell_farN (by omega)).trans ((cell_farN (by omega)).trans (ra.cell 0))),(cell_farN (by omega)).trans ((cell_farN (by omega)).trans ((cell_farN (by omega)).trans (ra.cell 1))),(cell_farN (by omega)).trans ((cell_farN (by omega)).trans ((cell_farN (by omega)).trans (ra.cell 2))),(cell_farN (by omega)).trans ((cell_farN (by omega)).trans ((cell_farN (by omega)).trans (rb.cell 0))),(cell_farN (by omega)).trans ((cell_farN (by omega)).trans ((cell_farN (by omega)).trans (rb.cell 1))),(cell_farN (by omega)).trans ((cell_farN (by omega)).trans ((cell_farN (by omega)).trans (rb.cell 2)))⟩ | go_keep)
  (first
    | ((go_at_call 33);(with_reducible refine (rint_mul s t A B n c n' c' xs ys _ (bg HG) a2 a3 (bg HG) b2 b3 (fits8 (by omega))).mono ?_);(rintro e w9 ⟨R1,d1,rfl,ho1,hb1⟩);(have hc1:=ho1.cap);(have HG:=(HG.step hb1).sl (ho1.sl (by omega)));(clear hb1);(have ra:RowC _ w.heap.size 36 [.bool s,.slice A n c,.slice D k e]:=(bg HG));(have rb:RowC _ (w.heap.size + 1) 36 [.bool t,.slice B n' c',.slice E k' e']:=(bg HG));(have rc:RowC _ (w.heap.size + 1 + 1) 36 [.bool false,.slice none 0 0,.slice none 0 0]:=(bg HG)))
    | ((go_at_call 35);(with_reducible refine (rfrac_den s A D n c k e ds _ (bg HG) a5 a6 (fits4 (by omega))).mono ?_);(rintro e w9 ⟨R2,d2,rfl,ho2,hb1⟩);(have hc2:=ho2.cap);(have HG:=(HG.step hb1).sl (ho2.sl (by omega)));(clear hb1);(have ra:RowC _ w.heap.size 36 [.bool s,.slice A n c,.slice D k e]:=(bg HG));(have rb:RowC _ (w.heap.size + 1) 36 [.bool t,.slice B n' c',.slice E k' e']:=(bg HG));(have rc:RowC _ (w.heap.size + 1 + 1) 36 [.bool false,.slice none 0 0,.slice none 0 0]:=(bg HG)))
    | ((go_at_call 35);(with_reducible refine (rfrac_den t B E n' c' k' e' es _ (bg HG) b5 b6 (fits4 (by omega))).mono ?_);(rintro e w9 ⟨R3,d3,rfl,ho3,hb1⟩);(have hc3:=ho3.cap);(have HG:=(HG.step hb1).sl (ho3.sl (by omega)));(clear hb1);(have ra:RowC _ w.heap.size 36 [.bool s,.slice A n c,.slice D k e]:=(bg HG));(have rb:RowC _ (w.heap.size + 1) 36 [.bool t,.slice B n' c',.slice E k' e']:=(bg HG));(have rc:RowC _ (w.heap.size + 1 + 1) 36 [.bool false,.slice none 0 0,.slice none 0 0]:=(bg HG)))
    | ((go_at_call 64);(with_reducible refine (rnat_mul R2 R3 _ d2 _ d3 (limbs (und (val ds))) (limbs (und (val es))) _ (bg HG) hc2 (limbs_L32 _) (bg HG) hc3 (limbs_L32 _) (fits4 (by omega))).mono ?_);(rintro e w9 ⟨R4,d4,rfl,ho4,hb1⟩);(rw [val_limbs,val_limbs] at ho4 ⊢);(have hc4:=ho4.cap);(have HG:=(HG.step hb1).sl (ho4.sl (by omega)));(clear hb1);(have ra:RowC _ w.heap.size 36 [.bool s,.slice A n c,.slice D k e]:=(bg HG));(have rb:RowC _ (w.heap.size + 1) 36 [.bool t,.slice B n' c',.slice E k' e']:=(bg HG));(have rc:RowC _ (w.heap.size + 1 + 1) 36 [.bool false,.slice none 0 0,.slice none 0 0]:=(bg HG)))
    | ((go_at_call 69);(refine (rfrac_lowest _ R1 R4 _ d1 _ d4 (limbs (sgn s (val xs) * sgn t (val ys)).natAbs) (limbs (und (val ds) * und (val es))) _ (bg HG) hc1 (limbs_L32 _) (bg HG) hc4 (limbs_L32 _) (by omega) (by rw [val_limbs];exact hne)).mono ?_);(rintro e w9 ⟨R,cr,D9,dd9,rfl,ho,hd,hsep,hb1⟩);(rw [val_limbs,val_limbs,sgn_isNeg,HPQ.out] at ho hd ⊢);(have hlo:=rc.lt);(have HG:=HG.step hb1);(clear hb1);(have ra:RowC _ w.heap.size 36 [.bool s,.slice A n c,.slice D k e]:=(bg HG));(have rb:RowC _ (w.heap.size + 1) 36 [.bool t,.slice B n' c',.slice E k' e']:=(bg HG));(have rc:RowC _ (w.heap.size + 1 + 1) 36 [.bool false,.slice none 0 0,.slice none 0 0]:=(bg HG));(have t0:=rc.cell 0);(have t1:=rc.cell 1);(have t2:=rc.cell 2);(have f0:=rc.frozen 0);(have f1:=rc.frozen 1);(have f2:=rc.frozen 2)))
 all_goals (
  have hg:=rc.lt
  have hgl:=hlo
  have hq:=box3_fin (v0:=.bool (isNeg z.num)) (v1:=.slice R (limbs z.num.natAbs).length cr) (v2:=.slice D9 (limbs z.den).length dd9) (g:=w.heap.size + 1 + 1) (by omega) rc HG.bel (ho.mono (by omega)) (hd.mono (by omega))
  have c0:=hq.1.cell 0
  have c1:=hq.1.cell 1
  have c2':=hq.1.cell 2
  have HFF:=Lib.hid (And.intro hq hsep)
  clear hq hsep HG ho hd ra rb rc f0 f1 f2 t0 t1 t2
  go_wp2_with fail
  exact bodyPost_ret (v:=.agg #[.bool (isNeg z.num),.slice R (limbs z.num.natAbs).length cr,.slice D9 (limbs z.den).length dd9]) (by simp [results,Tryz.results39,go_sem,c0,c1,c2']) rfl ⟨R,cr,D9,dd9,rfl,HFF.out.1.2.1,HFF.out.1.2.2.1,HFF.out.2,HFF.out.1.2.2.2⟩)
set_option maxRecDepth 100000 in
set_option maxHeartbeats 4000000 in
theorem rfrac_neg (u:Value) (p:Rat) (K:Nat) (w:World) (hu:RatAt w u p K) (hb:K≤200000000000) :
 Calls Tryz.prog 71 #[u] w (RatPost (-p) w):=by
 obtain ⟨s,A,n,c,xs,D,k,e,ds,rfl,a1,a2,a3,a4,a5,a6,rfl,a7⟩:=hu.ex
 clear hu
 have l1:=limbs_val_len a3
 have l3:=limbs_val_len a6
 rw [a1.len] at l1
 rw [a4.len] at l3
 have l6:=und_len (val ds)
 have hpq:mkRat (sgn (!s) (val xs)) (und (val ds))=-ratR s (val xs) (val ds):=ratR_neg s (val xs) (val ds)
 have hne:und (val ds) ≠ 0:=und_pos _
 have l9:(limbs (sgn (!s) (val xs)).natAbs).length≤(limbs (val xs)).length:=by rw [sgn_natAbs];exact Nat.le_refl _
 obtain ⟨z,hz⟩:∃ z,z=-ratR s (val xs) (val ds):=⟨_,rfl⟩
 rw [← hz] at hpq ⊢
 have HPQ:=Lib.hid hpq
 clear hz hpq
 have H1:=(((Held.init w).sl a1).sl a4).new 36 [.bool s,.slice A n c,.slice D k e]
 have H:=H1.new 36 [.bool false,.slice none 0 0,.slice none 0 0]
 rw [show (w.alloc (.cells [.bool s,.slice A n c,.slice D k e].toArray 36)).heap.size=w.heap.size + 1 from by simp] at H
 clear H1 a1 a4
 obtain ⟨wq,hwq⟩:∃ wq:World,wq=(w.alloc (.cells #[.bool s,.slice A n c,.slice D k e] 36)).alloc (.cells #[.bool false,.slice none 0 0,.slice none 0 0] 36):=⟨_,rfl⟩
 rw [← hwq] at H
 go_enter Tryz.func71,Tryz.ntmps71
 go_wp2_with fail
 rw [← hwq]
 clear hwq
 have HG:=H.drew
 clear H
 (have ra:RowC wq.drew w.heap.size 36 [.bool s,.slice A n c,.slice D k e]:=(bg HG));(have rc:RowC wq.drew (w.heap.size + 1) 36 [.bool false,.slice none 0 0,.slice none 0 0]:=(bg HG))
 go_region_held3 (fun w'=>w'.cell? ⟨w.heap.size,0,none⟩=some (.bool s)∧w'.cell? ⟨w.heap.size,1,none⟩=some (.slice A n c)∧w'.cell? ⟨w.heap.size,2,none⟩=some (.slice D k e))
  (first | exact ⟨ra.cell 0,ra.cell 1,ra.cell 2⟩ | assumption | exact ⟨(cell_farN (by omega)).trans ((cell_farN (by omega)).trans ((cell_farN (by omega)).trans (ra.cell 0))),(cell_farN (by omega)).trans ((cell_farN (by omega)).trans ((cell_farN (by omega)).trans (ra.cell 1))),(cell_farN (by omega)).trans ((cell_farN (by omega)).trans ((cell_farN (by omega)).trans (ra.cell 2)))⟩ | go_keep)
  (first
    | ((go_at_call 101);(with_reducible refine (rint_neg s A n c xs _ (bg HG) a2 a3 (fits4 (by omega))).mono ?_);(rintro e w9 ⟨R1,d1,rfl,ho1,hb1⟩);(have hc1:=ho1.cap);(have HG:=(HG.step hb1).sl (ho1.sl (by omega)));(clear hb1);(have ra:RowC _ w.heap.size 36 [.bool s,.slice A n c,.slice D k e]:=(bg HG));(have rc:RowC _ (w.heap.size + 1) 36 [.bool false,.slice none 0 0,.slice none 0 0]:=(bg HG)))
    | ((go_at_call 35);(with_reducible refine (rfrac_den s A D n c k e ds _ (bg HG) a5 a6 (fits4 (by omega))).mono ?_);(rintro e w9 ⟨R2,d2,rfl,ho2,hb1⟩);(have hc2:=ho2.cap);(have HG:=(HG.step hb1).sl (ho2.sl (by omega)));(clear hb1);(have ra:RowC _ w.heap.size 36 [.bool s,.slice A n c,.slice D k e]:=(bg HG));(have rc:RowC _ (w.heap.size + 1) 36 [.bool false,.slice none 0 0,.slice none 0 0]:=(bg HG)))
    | ((go_at_call 69);(refine (rfrac_lowest _ R1 R2 _ d1 _ d2 (limbs (sgn (!s) (val xs)).natAbs) (limbs (und (val ds))) _ (bg HG) hc1 (limbs_L32 _) (bg HG) hc2 (limbs_L32 _) (by omega) (by rw [val_limbs];exact hne)).mono ?_);(rintro e w9 ⟨R,cr,D9,dd9,rfl,ho,hd,hsep,hb1⟩);(rw [val_limbs,val_limbs,sgn_isNeg,HPQ.out] at ho hd ⊢);(have hlo:=rc.lt);(have HG:=HG.step hb1);(clear hb1);(have ra:RowC _ w.heap.size 36 [.bool s,.slice A n c,.slice D k e]:=(bg HG));(have rc:RowC _ (w.heap.size + 1) 36 [.bool false,.slice none 0 0,.slice none 0 0]:=(bg HG));(have t0:=rc.cell 0);(have t1:=rc.cell 1);(have t2:=rc.cell 2);(have f0:=rc.frozen 0);(have f1:=rc.frozen 1);(have f2:=rc.frozen 2)))
 all_goals (
  have hg:=rc.lt
  have hgl:=hlo
  have hq:=box3_fin (v0:=.bool (isNeg z.num)) (v1:=.slice R (limbs z.num.natAbs).length cr) (v2:=.slice D9 (limbs z.den).length dd9) (g:=w.heap.size + 1) (by omega) rc HG.bel (ho.mono (by omega)) (hd.mono (by omega))
  have c0:=hq.1.cell 0
  have c1:=hq.1.cell 1
  have c2':=hq.1.cell 2
  have HFF:=Lib.hid (And.intro hq hsep)
  clear hq hsep HG ho hd ra rc f0 f1 f2 t0 t1 t2
  go_wp2_with fail
  exact bodyPost_ret (v:=.agg #[.bool (isNeg z.num),.slice R (limbs z.num.natAbs).length cr,.slice D9 (limbs z.den).length dd9]) (by simp [results,Tryz.results71,go_sem,c0,c1,c2']) rfl ⟨R,cr,D9,dd9,rfl,HFF.out.1.2.1,HFF.out.1.2.2.1,HFF.out.2,HFF.out.1.2.2.2⟩)
end Go.Proofs.YtmncjibcoffmfaaGreat
