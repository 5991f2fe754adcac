/- frac.Add, walked, over fractions as they stand in memory. Conditions: the limbs read, within Go's bound together. -/
import Derived.Test.YtgbmnlmnhbkdbaaGreatFracB
set_option linter.unusedVariables false
set_option linter.unusedSimpArgs false
namespace Go.Proofs.YtgbmnlmnhbkdbaaGreat
open Go.RowKit

theorem over_len (s:Bool) (a u:Nat):(limbs (sgn s a * (u:Int)).natAbs).length≤(limbs a).length + (limbs u).length:=by
 rw [Int.natAbs_mul,sgn_natAbs,Int.natAbs_natCast]
 exact limbs_mul_len a u
theorem sum_len (a b:Int):(limbs (a + b).natAbs).length≤(limbs a.natAbs).length + (limbs b.natAbs).length + 1:=
 Nat.le_trans (limbs_mono (Int.natAbs_add_le a b)) (limbs_add_len _ _)
set_option maxRecDepth 100000 in
set_option maxHeartbeats 4000000000 in
theorem frac_add (u v:Value) (p q:Rat) (K M:Nat) (w:World) (hu:RatAt w u p K) (hv:RatAt w v q M) (hb:K + M≤1000000000000) :
 Calls Tryz.prog 17 #[u,v] w (RatPost (p + q) w):=by
 obtain ⟨s,A,n,c,xs,D,k,e,ds,rfl,a1,a2,a3,a4,a5,a6,rfl,a7⟩:=hu.ex
 obtain ⟨t,B,n',c',ys,E,k',e',es,rfl,b1,b2,b3,b4,b5,b6,rfl,b7⟩:=hv.ex
 clear hu hv
 have l1:=limbs_val_len a3
 have l2:=limbs_val_len b3
 have l3:=limbs_val_len a6
 have l4:=limbs_val_len b6
 rw [a1.len] at l1
 rw [b1.len] at l2
 rw [a4.len] at l3
 rw [b4.len] at l4
 have l6:=und_len (val ds)
 have l7:=und_len (val es)
 have l8:=limbs_mul_len (und (val ds)) (und (val es))
 have l9:=over_len s (val xs) (und (val es))
 have l10:=over_len t (val ys) (und (val ds))
 have l11:=sum_len (sgn s (val xs) * (und (val es):Int)) (sgn t (val ys) * (und (val ds):Int))
 have hpq:=ratR_add s t (val xs) (val ys) (val ds) (val es)
 rw [← hpq]
 have hne:und (val ds) * und (val es) ≠ 0:=Nat.mul_ne_zero (und_pos _) (und_pos _)
 clear hpq
 have H1:=(((((Held.init w).sl a1).sl a4).sl b1).sl b4).new 38 [.bool s,.slice A n c,.slice D k e]
 have H2:=H1.new 38 [.bool t,.slice B n' c',.slice E k' e']
 rw [show (w.alloc (.cells [.bool s,.slice A n c,.slice D k e].toArray 38)).heap.size=w.heap.size + 1 from by simp] at H2
 have H:=H2.new 38 [.bool false,.slice none 0 0,.slice none 0 0]
 rw [show ((w.alloc (.cells [.bool s,.slice A n c,.slice D k e].toArray 38)).alloc (.cells [.bool t,.slice B n' c',.slice E k' e'].toArray 38)).heap.size=w.heap.size + 1 + 1 from by simp] at H
 clear H1 H2 a1 a4 b1 b4
 obtain ⟨wq,hwq⟩:∃ wq:World,wq=((w.alloc (.cells #[.bool s,.slice A n c,.slice D k e] 38)).alloc (.cells #[.bool t,.slice B n' c',.slice E k' e'] 38)).alloc (.cells #[.bool false,.slice none 0 0,.slice none 0 0] 38):=⟨_,rfl⟩
 rw [← hwq] at H
 go_enter Tryz.func17,Tryz.ntmps17
 go_wp2_with fail
 rw [← hwq]
 clear hwq
 have HQ:=H
 have HG:=H.drew
 clear H
 have ra:RowC wq.drew w.heap.size 38 [.bool s,.slice A n c,.slice D k e]:=HG.has.2.2.1
 have rb:RowC wq.drew (w.heap.size + 1) 38 [.bool t,.slice B n' c',.slice E k' e']:=HG.has.2.1
 have rc:RowC wq.drew (w.heap.size + 1 + 1) 38 [.bool false,.slice none 0 0,.slice none 0 0]:=HG.has.1
 go_region_held3 (fun w'=>w'.cell? ⟨w.heap.size,0,none⟩=some (.bool s)∧w'.cell? ⟨w.heap.size,1,none⟩=some (.slice A n c)∧w'.cell? ⟨w.heap.size,2,none⟩=some (.slice D k e) ∧
  w'.cell? ⟨w.heap.size + 1,0,none⟩=some (.bool t)∧w'.cell? ⟨w.heap.size + 1,1,none⟩=some (.slice B n' c')∧w'.cell? ⟨w.heap.size + 1,2,none⟩=some (.slice E k' e'))
  (first | exact ⟨ra.cell 0,ra.cell 1,ra.cell 2,rb.cell 0,rb.cell 1,rb.cell 2⟩ | assumption | exact ⟨(ra.alloc _).cell 0,(ra.alloc _).cell 1,(ra.alloc _).cell 2,(rb.alloc _).cell 0,(rb.alloc _).cell 1,(rb.alloc _).cell 2⟩ | exact ⟨(cell_farN (by omega)).trans ((cell_farN (by omega)).trans (ra.cell 0)),(cell_farN (by omega)).trans ((cell_farN (by omega)).trans (ra.cell 1)),(cell_farN (by omega)).trans ((cell_farN (by omega)).trans (ra.cell 2)),(cell_farN (by omega)).trans ((cell_farN (by omega)).trans (rb.cell 0)),(cell_farN (by omega)).trans ((cell_farN (by omega)).trans (rb.cell 1)),(cell_farN (by omega)).trans ((cell_farN (by omega)).trans (rb.cell 2))⟩ | exact ⟨(cell_farN (by omega)).trans ((cell_farN (by omega)).trans ((ra.alloc _).cell 0)),(cell_farN (by omega)).trans ((cell_farN (by omega)).trans ((ra.alloc _).cell 1)),(cell_farN (by omega)).trans ((cell_farN (by omega)).trans ((ra.alloc _).cell 2)),(cell_farN (by omega)).trans ((cell_farN (by omega)).trans ((rb.alloc _).cell 0)),(cell_farN (by omega)).trans ((cell_farN (by omega)).trans ((rb.alloc _).cell 1)),(cell_farN (by omega)).trans ((cell_farN (by omega)).trans ((rb.alloc _).cell 2))⟩ | go_keep)
  (first
    | ((go_at_call 26);(first | (with_reducible refine (frac_under s A D n c k e ds _ (bg HG) a5 a6 (fits4 (by omega))).mono ?_) | ((have hglt:=rc.lt);(have HI:=HG);(have HJ:=(Held.init w2).new 36 [.bool false,.slice none 0 0]);(have HG:=HG.new 36 [.bool false,.slice none 0 0]);(obtain ⟨g,hge⟩:∃ g,g=w2.heap.size:=⟨_,rfl⟩);(rw [← hge] at HJ HG hglt);(try rw [← hge]);(have HGE:=Lib.hid hge);(clear hge);(with_reducible refine (frac_under s A D n c k e ds _ (bg HG) a5 a6 (fits4 (by omega))).mono ?_)));(rintro e w3 ⟨R3,d3,rfl,ho3,hb1⟩);
       (have hs1:=ho3.sl (by omega));(have hc3:=ho3.cap);(have HG:=(HG.step hb1).sl hs1);(try have HJ:=HJ.step hb1);(try have hgl:=HJ.has.1.lt);(clear hb1 hs1);
       (have ra:RowC _ w.heap.size 38 [.bool s,.slice A n c,.slice D k e]:=(bg HG));(have rb:RowC _ (w.heap.size + 1) 38 [.bool t,.slice B n' c',.slice E k' e']:=(bg HG));(have rc:RowC _ (w.heap.size + 1 + 1) 38 [.bool false,.slice none 0 0,.slice none 0 0]:=(bg HG)))
    | ((go_at_call 25);(first | (with_reducible refine (frac_over s A R1 n c _ d1 xs (limbs (und (val es))) _ (bg HG) a2 a3 (bg HG) hc1 (limbs_L32 _) (fits8 (by omega))).mono ?_) | ((have hglt:=rc.lt);(have HI:=HG);(have HJ:=(Held.init w1).new 36 [.bool false,.slice none 0 0]);(have HG:=HG.new 36 [.bool false,.slice none 0 0]);(obtain ⟨g,hge⟩:∃ g,g=w1.heap.size:=⟨_,rfl⟩);(rw [← hge] at HJ HG hglt);(try rw [← hge]);(have HGE:=Lib.hid hge);(clear hge);(with_reducible refine (frac_over s A R1 n c _ d1 xs (limbs (und (val es))) _ (bg HG) a2 a3 (bg HG) hc1 (limbs_L32 _) (fits8 (by omega))).mono ?_)));(rintro e w2 ⟨R2,d2,rfl,ho2,hb1⟩);(rw [val_limbs] at ho2 ⊢);
       (have hs1:=ho2.sl (by omega));(have hc2:=ho2.cap);(have HG:=(HG.step hb1).sl hs1);(try have HJ:=HJ.step hb1);(try have hgl:=HJ.has.1.lt);(clear hb1 hs1);
       (have ra:RowC _ w.heap.size 38 [.bool s,.slice A n c,.slice D k e]:=(bg HG));(have rb:RowC _ (w.heap.size + 1) 38 [.bool t,.slice B n' c',.slice E k' e']:=(bg HG));(have rc:RowC _ (w.heap.size + 1 + 1) 38 [.bool false,.slice none 0 0,.slice none 0 0]:=(bg HG)))
    | ((go_at_call 25);(first | (with_reducible refine (frac_over t B R3 n' c' _ d3 ys (limbs (und (val ds))) _ (bg HG) b2 b3 (bg HG) hc3 (limbs_L32 _) (fits8 (by omega))).mono ?_) | ((have hglt:=rc.lt);(have HI:=HG);(have HJ:=(Held.init w3).new 36 [.bool false,.slice none 0 0]);(have HG:=HG.new 36 [.bool false,.slice none 0 0]);(obtain ⟨g,hge⟩:∃ g,g=w3.heap.size:=⟨_,rfl⟩);(rw [← hge] at HJ HG hglt);(try rw [← hge]);(have HGE:=Lib.hid hge);(clear hge);(with_reducible refine (frac_over t B R3 n' c' _ d3 ys (limbs (und (val ds))) _ (bg HG) b2 b3 (bg HG) hc3 (limbs_L32 _) (fits8 (by omega))).mono ?_)));(rintro e w4 ⟨R4,d4,rfl,ho4,hb1⟩);(rw [val_limbs] at ho4 ⊢);
       (have hs1:=ho4.sl (by omega));(have hc4:=ho4.cap);(have HG:=(HG.step hb1).sl hs1);(try have HJ:=HJ.step hb1);(try have hgl:=HJ.has.1.lt);(clear hb1 hs1);
       (have ra:RowC _ w.heap.size 38 [.bool s,.slice A n c,.slice D k e]:=(bg HG));(have rb:RowC _ (w.heap.size + 1) 38 [.bool t,.slice B n' c',.slice E k' e']:=(bg HG));(have rc:RowC _ (w.heap.size + 1 + 1) 38 [.bool false,.slice none 0 0,.slice none 0 0]:=(bg HG)))
    | ((go_at_call 31);(first | (with_reducible refine (whole_add _ _ R2 R4 _ d2 _ d4 (limbs (sgn s (val xs) * (und (val es):Int)).natAbs) (limbs (sgn t (val ys) * (und (val ds):Int)).natAbs) _ (bg HG) hc2 (limbs_L32 _) (bg HG) hc4 (limbs_L32 _) (fits8 (by omega))).mono ?_) | ((have hglt:=rc.lt);(have HI:=HG);(have HJ:=(Held.init w4).new 36 [.bool false,.slice none 0 0]);(have HG:=HG.new 36 [.bool false,.slice none 0 0]);(obtain ⟨g,hge⟩:∃ g,g=w4.heap.size:=⟨_,rfl⟩);(rw [← hge] at HJ HG hglt);(try rw [← hge]);(have HGE:=Lib.hid hge);(clear hge);(with_reducible refine (whole_add _ _ R2 R4 _ d2 _ d4 (limbs (sgn s (val xs) * (und (val es):Int)).natAbs) (limbs (sgn t (val ys) * (und (val ds):Int)).natAbs) _ (bg HG) hc2 (limbs_L32 _) (bg HG) hc4 (limbs_L32 _) (fits8 (by omega))).mono ?_)));(rintro e w5 ⟨R5,d5,rfl,ho5,hb1⟩);(rw [val_limbs,val_limbs,sgn_isNeg,sgn_isNeg] at ho5 ⊢);
       (have hs1:=ho5.sl (by omega));(have hc5:=ho5.cap);(have HG:=(HG.step hb1).sl hs1);(try have HJ:=HJ.step hb1);(try have hgl:=HJ.has.1.lt);(clear hb1 hs1);
       (have ra:RowC _ w.heap.size 38 [.bool s,.slice A n c,.slice D k e]:=(bg HG));(have rb:RowC _ (w.heap.size + 1) 38 [.bool t,.slice B n' c',.slice E k' e']:=(bg HG));(have rc:RowC _ (w.heap.size + 1 + 1) 38 [.bool false,.slice none 0 0,.slice none 0 0]:=(bg HG));
       (try (have rg:RowC _ _ 36 [.bool false,.slice none 0 0]:=(bg HJ);have t0:=rg.cell 0;have t1:=rg.cell 1;have f0:=rg.frozen 0;have f1:=rg.frozen 1));(have hl5:=rc.lt))
    | ((go_at_call 26);(first | (with_reducible refine (frac_under t B E n' c' k' e' es _ (bg HG) b5 b6 (fits4 (by omega))).mono ?_) | ((have hglt:w.heap.size + 1 + 1 < wq.heap.size:=rc.lt);(have HI:=HQ);(have HJ:=(Held.init wq).new 36 [.bool false,.slice none 0 0]);(have HJ:=HJ.drew);(have HG:=(HQ.new 36 [.bool false,.slice none 0 0]).drew);(obtain ⟨g,hge⟩:∃ g,g=wq.heap.size:=⟨_,rfl⟩);(rw [← hge] at HJ HG hglt);(try rw [← hge]);(have HGE:=Lib.hid hge);(clear hge);(with_reducible refine (frac_under t B E n' c' k' e' es _ (bg HG) b5 b6 (fits4 (by omega))).mono ?_)));(rintro e w1 ⟨R1,d1,rfl,ho1,hb1⟩);
       (have hs1:=ho1.sl (by omega));(have hc1:=ho1.cap);(have HG:=(HG.step hb1).sl hs1);(try have HJ:=HJ.step hb1);(try have hgl:=HJ.has.1.lt);(clear hb1 hs1);
       (have ra:RowC _ w.heap.size 38 [.bool s,.slice A n c,.slice D k e]:=(bg HG));(have rb:RowC _ (w.heap.size + 1) 38 [.bool t,.slice B n' c',.slice E k' e']:=(bg HG));(have rc:RowC _ (w.heap.size + 1 + 1) 38 [.bool false,.slice none 0 0,.slice none 0 0]:=(bg HG))))
 all_goals (
  generalize hz:sgn s (val xs) * (und (val es):Int) + sgn t (val ys) * (und (val ds):Int)=z at *
  clear ra rb rc
  first
  | (have hq:=box2_fin (v0:=.bool (isNeg z)) (v1:=.slice R5 (limbs z.natAbs).length d5) (Nat.le_of_eq HGE.out.symm) HJ.has.1 HJ.bel (ho5.mono (by first | omega | (simp;have:=HGE.out;omega)))
     have HF:=((HI.step hq.2.2).sl (hq.2.1.sl (by omega))).row hq.1
     obtain ⟨W,hW⟩:∃ W,W=(w5.setCell ⟨g,0,none⟩ (.bool (isNeg z))).setCell ⟨g,1,none⟩ (.slice R5 (limbs z.natAbs).length d5):=⟨_,rfl⟩
     rw [← hW] at HF ⊢
     have HWW:=Lib.hid hW
     clear hq hW)
  | (have HF:=HG.new 36 [.bool (isNeg z),.slice R5 (limbs z.natAbs).length d5]
     have hglt:=hl5
     obtain ⟨g,hge⟩:∃ g,g=w5.heap.size:=⟨_,rfl⟩
     rw [← hge] at HF hglt
     rw [← hge]
     obtain ⟨W,hW⟩:∃ W,W=w5.alloc (.cells #[.bool (isNeg z),.slice R5 (limbs z.natAbs).length d5] 36):=⟨_,rfl⟩
     rw [← hW] at HF ⊢
     have HGE:=Lib.hid hge
     have HWW:=Lib.hid hW
     clear hge hW)
  have HG:=HF
  clear HF
  have ra:RowC W w.heap.size 38 [.bool s,.slice A n c,.slice D k e]:=(bg HG)
  have rb:RowC W (w.heap.size + 1) 38 [.bool t,.slice B n' c',.slice E k' e']:=(bg HG)
  have rc:RowC W (w.heap.size + 1 + 1) 38 [.bool false,.slice none 0 0,.slice none 0 0]:=(bg HG)
  have rg:RowC W g 36 [.bool (isNeg z),.slice R5 (limbs z.natAbs).length d5]:=(bg HG)
  have HG:=HG.drew
  go_wp2_with fail
  go_region_held3 (fun w'=>w'.cell? ⟨g,0,none⟩=some (.bool (isNeg z))∧w'.cell? ⟨g,1,none⟩=some (.slice R5 (limbs z.natAbs).length d5)∧w'.cell? ⟨w.heap.size,0,none⟩=some (.bool s)∧w'.cell? ⟨w.heap.size,1,none⟩=some (.slice A n c)∧w'.cell? ⟨w.heap.size,2,none⟩=some (.slice D k e) ∧
   w'.cell? ⟨w.heap.size + 1,0,none⟩=some (.bool t)∧w'.cell? ⟨w.heap.size + 1,1,none⟩=some (.slice B n' c')∧w'.cell? ⟨w.heap.size + 1,2,none⟩=some (.slice E k' e'))
   (first | exact ⟨rg.cell 0,rg.cell 1,ra.cell 0,ra.cell 1,ra.cell 2,rb.cell 0,rb.cell 1,rb.cell 2⟩ | assumption | exact ⟨(cell_farN (by omega)).trans ((cell_farN (by omega)).trans ((cell_farN (by omega)).trans (rg.cell 0))),(cell_farN (by omega)).trans ((cell_farN (by omega)).trans ((cell_farN (by omega)).trans (rg.cell 1))),(cell_farN (by omega)).trans ((cell_farN (by omega)).trans ((cell_farN (by omega)).trans (ra.cell 0))),(cell_farN (by omega)).trans ((cell_farN (by omega)).trans ((cell_farN (by omega)).trans (ra.cell 1))),(cell_farN (by omega)).trans ((cell_farN (by omega)).trans ((cell_farN (by omega)).trans (ra.cell 2))),(cell_farN (by omega)).trans ((cell_farN (by omega)).trans ((cell_farN (by omega)).trans (rb.cell 0))),(cell_farN (by omega)).trans ((cell_farN (by omega)).trans ((cell_farN (by omega)).trans (rb.cell 1))),(cell_farN (by omega)).trans ((cell_farN (by omega)).trans ((cell_farN (by omega)).trans (rb.cell 2)))⟩ | go_keep)
   (first
   | ((go_at_call 26);(with_reducible refine (frac_under s A D n c k e ds _ (bg HG) a5 a6 (fits4 (by omega))).mono ?_);(rintro e y6 ⟨Q6,e6,rfl,ho6,hb1⟩);
      (have hs1:=ho6.sl (by omega));(have hc6:=ho6.cap);(have HG:=(HG.step hb1).sl hs1);(clear hb1 hs1);
      (have ra:RowC _ w.heap.size 38 [.bool s,.slice A n c,.slice D k e]:=(bg HG));(have rb:RowC _ (w.heap.size + 1) 38 [.bool t,.slice B n' c',.slice E k' e']:=(bg HG));(have rc:RowC _ (w.heap.size + 1 + 1) 38 [.bool false,.slice none 0 0,.slice none 0 0]:=(bg HG));(have rg:RowC _ g 36 [.bool (isNeg z),.slice R5 (limbs z.natAbs).length d5]:=(bg HG)))
   | ((go_at_call 26);(with_reducible refine (frac_under t B E n' c' k' e' es _ (bg HG) b5 b6 (fits4 (by omega))).mono ?_);(rintro e y7 ⟨Q7,e7,rfl,ho7,hb1⟩);
      (have hs1:=ho7.sl (by omega));(have hc7:=ho7.cap);(have HG:=(HG.step hb1).sl hs1);(clear hb1 hs1);
      (have ra:RowC _ w.heap.size 38 [.bool s,.slice A n c,.slice D k e]:=(bg HG));(have rb:RowC _ (w.heap.size + 1) 38 [.bool t,.slice B n' c',.slice E k' e']:=(bg HG));(have rc:RowC _ (w.heap.size + 1 + 1) 38 [.bool false,.slice none 0 0,.slice none 0 0]:=(bg HG));(have rg:RowC _ g 36 [.bool (isNeg z),.slice R5 (limbs z.natAbs).length d5]:=(bg HG)))
   | ((go_at_call 28);(with_reducible refine (nat_mul Q6 Q7 _ e6 _ e7 (limbs (und (val ds))) (limbs (und (val es))) _ (bg HG) hc6 (limbs_L32 _) (bg HG) hc7 (limbs_L32 _) (fits4 (by omega))).mono ?_);(rintro e y8 ⟨Q8,e8,rfl,ho8,hb1⟩);(rw [val_limbs,val_limbs] at ho8 ⊢);
      (have hs1:=ho8.sl (by omega));(have hc8:=ho8.cap);(have HG:=(HG.step hb1).sl hs1);(clear hb1 hs1);
      (have ra:RowC _ w.heap.size 38 [.bool s,.slice A n c,.slice D k e]:=(bg HG));(have rb:RowC _ (w.heap.size + 1) 38 [.bool t,.slice B n' c',.slice E k' e']:=(bg HG));(have rc:RowC _ (w.heap.size + 1 + 1) 38 [.bool false,.slice none 0 0,.slice none 0 0]:=(bg HG));(have rg:RowC _ g 36 [.bool (isNeg z),.slice R5 (limbs z.natAbs).length d5]:=(bg HG)))
   | ((go_at_call 27);(refine (frac_lowest _ R5 Q8 _ d5 _ e8 (limbs z.natAbs) (limbs (und (val ds) * und (val es))) _ (bg HG) hc5 (limbs_L32 _) (bg HG) hc8 (limbs_L32 _) (fits8 (by omega)) (by rw [val_limbs];exact hne)).mono ?_);(rintro e y9 ⟨R,cr,D9,dd9,rfl,ho,hd,hsep,hb5⟩);(rw [val_limbs,val_limbs,sgn_isNeg] at ho hd ⊢);(have hg:=rc.lt);(have HG:=HG.step hb5);
      (have ra:RowC _ w.heap.size 38 [.bool s,.slice A n c,.slice D k e]:=(bg HG));(have rb:RowC _ (w.heap.size + 1) 38 [.bool t,.slice B n' c',.slice E k' e']:=(bg HG));(have rc:RowC _ (w.heap.size + 1 + 1) 38 [.bool false,.slice none 0 0,.slice none 0 0]:=(bg HG));(have rg:RowC _ g 36 [.bool (isNeg z),.slice R5 (limbs z.natAbs).length d5]:=(bg HG));
      (have t0:=rc.cell 0);(have t1:=rc.cell 1);(have t2:=rc.cell 2);(have f0:=rc.frozen 0);(have f1:=rc.frozen 1);(have f2:=rc.frozen 2)))
  generalize hqq:mkRat z (und (val ds) * und (val es))=q at *
  have hq:=box3_fin (v0:=.bool (isNeg q.num)) (v1:=.slice R (limbs q.num.natAbs).length cr) (v2:=.slice D9 (limbs q.den).length dd9) (g:=w.heap.size + 1 + 1) (by omega) rc HG.bel (ho.mono (by omega)) (hd.mono (by omega))
  have c0:=hq.1.cell 0
  have c1:=hq.1.cell 1
  have c2':=hq.1.cell 2
  have HFF:=Lib.hid (And.intro hq hsep)
  clear hq hsep HG ho hd hqq ra rb rc rg f0 f1 f2 t0 t1 t2
  go_wp2_with fail
  exact bodyPost_ret (v:=.agg #[.bool (isNeg q.num),.slice R (limbs q.num.natAbs).length cr,.slice D9 (limbs q.den).length dd9]) (by simp [results,Tryz.results17,go_sem,c0,c1,c2']) rfl ⟨R,cr,D9,dd9,rfl,HFF.out.1.2.1,HFF.out.1.2.2.1,HFF.out.2,HFF.out.1.2.2.2⟩)
end Go.Proofs.YtgbmnlmnhbkdbaaGreat
