/- Joined by program out of: RFracD, RFracE. What each says stands at its own head. -/
import Derived.Test.YtmncjibcoffmfaaGreatRFracC
import Derived.Test.YtmncjibcoffmfaaGreatJ3
set_option linter.unusedVariables false
set_option linter.unusedSimpArgs false
/- The document's fractions: Add, walked. Conditions: the limbs read, within Go's bound together. Printed by wip/gen/rfrac.py. -/
namespace Go.Proofs.YtmncjibcoffmfaaGreat
open Go.RowKit

theorem box2_put {w w1:World} {g:Nat} {v0 v1 u0 u1:Value} (hg:w.heap.size≤g) (hbox:RowC w1 g 34 [u0,u1]) (hbel:Below w.heap.size w w1) :
 RowC ((w1.setCell ⟨g,0,none⟩ v0).setCell ⟨g,1,none⟩ v1) g 34 [v0,v1]∧Below w.heap.size w ((w1.setCell ⟨g,0,none⟩ v0).setCell ⟨g,1,none⟩ v1):=
 ⟨(hbox.put 0 _).put 1 _,(hbel.setCell (p:=⟨g,0,none⟩) hg _).setCell (p:=⟨g,1,none⟩) hg _⟩
set_option maxRecDepth 100000 in
set_option maxHeartbeats 4000000 in
theorem rfrac_add (u v:Value) (p q:Rat) (K M:Nat) (w:World) (hu:RatAt w u p K) (hv:RatAt w v q M) (hb:K + M≤100000000000) :
 Calls Tryz.prog 70 #[u,v] w (RatPost (p + q) w):=by
 obtain ⟨s,A,n,c,xs,D,k,e,ds,rfl,a1,a2,a3,a4,a5,a6,rfl,a7⟩:=hu.ex
 obtain ⟨t,B,n',c',ys,E,k',e',es,rfl,b1,b2,b3,b4,b5,b6,rfl,b7⟩:=hv.ex
 clear hu hv
 have l1:=limbs_val_len a3
 have l3:=limbs_val_len a6
 rw [a1.len] at l1
 rw [a4.len] at l3
 have l6:=und_len (val ds)
 have l2:=limbs_val_len b3
 have l4:=limbs_val_len b6
 rw [b1.len] at l2
 rw [b4.len] at l4
 have l7:=und_len (val es)
 have l8:=limbs_mul_len (und (val ds)) (und (val es))
 have l9:=over_lenZ s (val xs) (und (val es))
 have l10:=over_lenZ t (val ys) (und (val ds))
 have l11:=sum_len (sgn s (val xs) * sgn false (und (val es))) (sgn t (val ys) * sgn false (und (val ds)))
 have hpq:=ratR_add s t (val xs) (val ys) (val ds) (val es)
 have hne:und (val ds) * und (val es) ≠ 0:=Nat.mul_ne_zero (und_pos _) (und_pos _)
 obtain ⟨z,hz⟩:∃ z,z=ratR s (val xs) (val ds) + ratR t (val ys) (val es):=⟨_,rfl⟩
 rw [← hz] at hpq ⊢
 obtain ⟨z1,hz1⟩:∃ z1,z1=sgn s (val xs) * sgn false (und (val es)):=⟨_,rfl⟩
 obtain ⟨z2,hz2⟩:∃ z2,z2=sgn t (val ys) * sgn false (und (val ds)):=⟨_,rfl⟩
 rw [show sgn s (val xs) * (und (val es):Int)=z1 from hz1.symm,show sgn t (val ys) * (und (val ds):Int)=z2 from hz2.symm] at hpq
 rw [← hz1] at l9 l11
 rw [← hz2] at l10 l11
 have HPQ:=Lib.hid hpq
 have HZ1:=Lib.hid hz1
 have HZ2:=Lib.hid hz2
 clear hz hpq hz1 hz2
 have H1:=(((((Held.init w).sl a1).sl a4).sl b1).sl b4).new 36 [.bool s,.slice A n c,.slice D k e]
 have H2:=H1.new 36 [.bool t,.slice B n' c',.slice E k' e']
 rw [show (w.alloc (.cells [.bool s,.slice A n c,.slice D k e].toArray 36)).heap.size=w.heap.size + 1 from by simp] at H2
 have H:=H2.new 36 [.bool false,.slice none 0 0,.slice none 0 0]
 rw [show ((w.alloc (.cells [.bool s,.slice A n c,.slice D k e].toArray 36)).alloc (.cells [.bool t,.slice B n' c',.slice E k' e'].toArray 36)).heap.size=w.heap.size + 1 + 1 from by simp] at H
 clear H1 H2 a1 a4 b1 b4
 obtain ⟨wq,hwq⟩:∃ wq:World,wq=((w.alloc (.cells #[.bool s,.slice A n c,.slice D k e] 36)).alloc (.cells #[.bool t,.slice B n' c',.slice E k' e'] 36)).alloc (.cells #[.bool false,.slice none 0 0,.slice none 0 0] 36):=⟨_,rfl⟩
 rw [← hwq] at H
 have HQ:=H
 go_enter Tryz.func70,Tryz.ntmps70
 go_upto_region 1 with fail
 rw [← hwq]
 clear hwq
 go_cut [5] from 7 to 12 (fun v wx=>∃ (g1:Nat) (Q1:Option Addr) (e1:Nat),v=.pointer (some ⟨g1,0,none⟩)∧w.heap.size + 1 + 1 < g1∧(limbs z1.natAbs).length≤e1∧Below w.heap.size w wx∧RowC wx g1 34 [.bool (isNeg z1),.slice Q1 (limbs z1.natAbs).length e1]∧Sl eU wx Q1 (limbs z1.natAbs).length (limbs z1.natAbs)∧RowC wx (w.heap.size + 1 + 1) 36 [.bool false,.slice none 0 0,.slice none 0 0]∧RowC wx (w.heap.size + 1) 36 [.bool t,.slice B n' c',.slice E k' e']∧RowC wx w.heap.size 36 [.bool s,.slice A n c,.slice D k e]∧Sl eU wx E k' es∧Sl eU wx B n' ys∧Sl eU wx D k ds∧Sl eU wx A n xs)
 case first=>as_aux_lemma =>
  have HG:=HQ.drew
  (have ra:RowC wq.drew w.heap.size 36 [.bool s,.slice A n c,.slice D k e]:=(bg HG));(have rb:RowC wq.drew (w.heap.size + 1) 36 [.bool t,.slice B n' c',.slice E k' e']:=(bg HG));(have rc:RowC wq.drew (w.heap.size + 1 + 1) 36 [.bool false,.slice none 0 0,.slice none 0 0]:=(bg HG))
  refine wp_region_held_drew (S:=(fun w'=>w'.cell? ⟨w.heap.size,0,none⟩=some (.bool s)∧w'.cell? ⟨w.heap.size,1,none⟩=some (.slice A n c)∧w'.cell? ⟨w.heap.size,2,none⟩=some (.slice D k e)∧w'.cell? ⟨w.heap.size + 1,0,none⟩=some (.bool t)∧w'.cell? ⟨w.heap.size + 1,1,none⟩=some (.slice B n' c')∧w'.cell? ⟨w.heap.size + 1,2,none⟩=some (.slice E k' e'))) (by kernel_rfl) ?hS1 (fun hHeld=>?rest1)
  case hS1=>(first | exact ⟨ra.cell 0,ra.cell 1,ra.cell 2,rb.cell 0,rb.cell 1,rb.cell 2⟩ | assumption | go_keep)
  refine tk 0 rfl ?_
  try simp only [Act.put,sp]
  refine tk 1 rfl ?_
  try simp only [Act.put,sp]
  refine tk 2 rfl ?_
  try simp only [Act.put,sp]
  refine wpAnyH_ready (rs:=[3,6]) (by kernel_rfl) (by simp) (consM rfl (fun K hK=>?step6) (consL rfl (fun K hK=>?step7)))
  case step6 =>
   (go_simp;(refine (rfrac_den t B E n' c' k' e' es _ (bg HG) b5 b6 (fits4 (by omega))).mono ?_);(rintro e y0 ⟨R,d1,rfl,ho1,hb1⟩);(have hc1:=ho1.cap);(have HG:=(HG.step hb1).sl (ho1.sl (by omega)));(clear hb1);(have ra:RowC _ w.heap.size 36 [.bool s,.slice A n c,.slice D k e]:=(bg HG));(have rb:RowC _ (w.heap.size + 1) 36 [.bool t,.slice B n' c',.slice E k' e']:=(bg HG));(have rc:RowC _ (w.heap.size + 1 + 1) 36 [.bool false,.slice none 0 0,.slice none 0 0]:=(bg HG)))
   refine hK.out _ _ ?hS6 (fun hHeld=>?rest6)
   case hS6=>(first | exact ⟨ra.cell 0,ra.cell 1,ra.cell 2,rb.cell 0,rb.cell 1,rb.cell 2⟩ | assumption | go_keep)
   clear hK K
   try simp only [Act.put,sp]
   refine wpAnyH_ready (rs:=[4,6]) (by kernel_rfl) (by simp) (consM rfl (fun K hK=>?step9) (consL rfl (fun K hK=>?step10)))
   case step9 =>
    (go_simp;(refine (rfrac_whole _ _ _ _).mono ?_);(rintro e y1 ⟨rfl,hb1⟩); (have HG:=HG.step hb1);(clear hb1);(have ra:RowC _ w.heap.size 36 [.bool s,.slice A n c,.slice D k e]:=(bg HG));(have rb:RowC _ (w.heap.size + 1) 36 [.bool t,.slice B n' c',.slice E k' e']:=(bg HG));(have rc:RowC _ (w.heap.size + 1 + 1) 36 [.bool false,.slice none 0 0,.slice none 0 0]:=(bg HG)))
    refine hK.out _ _ ?hS9 (fun hHeld=>?rest9)
    case hS9=>(first | exact ⟨ra.cell 0,ra.cell 1,ra.cell 2,rb.cell 0,rb.cell 1,rb.cell 2⟩ | assumption | go_keep)
    clear hK K
    try simp only [Act.put,sp]
    refine wpAnyH_ready (rs:=[5,6]) (by kernel_rfl) (by simp) (consM rfl (fun K hK=>?step12) (consL rfl (fun K hK=>?step13)))
    case step12 =>
     (go_simp;(refine (rint_mul s false A R n c _ d1 xs (limbs (und (val es))) _ (bg HG) a2 a3 (bg HG) hc1 (limbs_L32 _) (fits8 (by omega))).mono ?_);(rintro e y2 ⟨R2,d2,rfl,ho2,hb1⟩);(rw [val_limbs,← HZ1.out] at ho2 ⊢);(have hc2:=ho2.cap);(have HG:=(HG.step hb1).sl (ho2.sl (by omega)));(clear hb1);(have ra:RowC _ w.heap.size 36 [.bool s,.slice A n c,.slice D k e]:=(bg HG));(have rb:RowC _ (w.heap.size + 1) 36 [.bool t,.slice B n' c',.slice E k' e']:=(bg HG));(have rc:RowC _ (w.heap.size + 1 + 1) 36 [.bool false,.slice none 0 0,.slice none 0 0]:=(bg HG)))
     refine hK.out _ _ ?hS12 (fun hHeld=>?rest12)
     case hS12=>(first | exact ⟨ra.cell 0,ra.cell 1,ra.cell 2,rb.cell 0,rb.cell 1,rb.cell 2⟩ | assumption | go_keep)
     clear hK K
     try simp only [Act.put,sp]
     refine wpAnyH_ready (rs:=[6]) (by kernel_rfl) (by simp) (consL rfl (fun K hK=>?step14))
     (go_simp;(have hgw:=rc.lt);(have HI:=HG);(have HJ:=(Held.init y2).new 34 [.bool false,.slice none 0 0]);(have HG:=HG.new 34 [.bool false,.slice none 0 0]);(obtain ⟨g,hge⟩:∃ g,g=y2.heap.size:=⟨_,rfl⟩);(obtain ⟨ya,hya⟩:∃ y,y=y2.alloc (.cells #[.bool false,.slice none 0 0] 34):=⟨_,rfl⟩);(rw [← hge] at HJ HG hgw ⊢);(rw [← hya] at HJ HG ⊢);(have HGE:=Lib.hid hge);(have hgl:=HJ.has.1.lt);(clear hge hya);(have ra:RowC _ w.heap.size 36 [.bool s,.slice A n c,.slice D k e]:=(bg HG));(have rb:RowC _ (w.heap.size + 1) 36 [.bool t,.slice B n' c',.slice E k' e']:=(bg HG));(have rc:RowC _ (w.heap.size + 1 + 1) 36 [.bool false,.slice none 0 0,.slice none 0 0]:=(bg HG)))
     refine hK.out _ _ ?hS14 (fun hHeld=>?rest14)
     case hS14=>(first | exact ⟨ra.cell 0,ra.cell 1,ra.cell 2,rb.cell 0,rb.cell 1,rb.cell 2⟩ | assumption | go_keep)
     clear hK K
     try simp only [Act.put,sp]
     refine wpAnyH_ready (rs:=[7]) (by kernel_rfl) (by simp) (consL rfl (fun K hK=>?step15))
     ((have t0:=HJ.has.1.cell 0);(have t1:=HJ.has.1.cell 1);(have f0:=HJ.has.1.frozen 0);(have f1:=HJ.has.1.frozen 1);go_simp;(clear t0 t1 f0 f1);(obtain ⟨wz,hwz⟩:∃ wz,wz=((ya.setCell ⟨g,0,none⟩ (.bool (isNeg z1))).setCell ⟨g,1,none⟩ (.slice R2 (limbs z1.natAbs).length d2)):=⟨_,rfl⟩);(rw [← hwz]);(have hq:=box2_put (v0:=.bool (isNeg z1)) (v1:=.slice R2 (limbs z1.natAbs).length d2) (Nat.le_of_eq HGE.out.symm) HJ.has.1 HJ.bel);(rw [← hwz] at hq);(have HF:=(HI.step hq.2).row hq.1);(clear hwz);(have ra:RowC wz w.heap.size 36 [.bool s,.slice A n c,.slice D k e]:=(bg HF));(have rb:RowC wz (w.heap.size + 1) 36 [.bool t,.slice B n' c',.slice E k' e']:=(bg HF)))
     refine hK.out _ _ ?hS15 (fun hHeld=>?rest15)
     case hS15=>(first | exact ⟨ra.cell 0,ra.cell 1,ra.cell 2,rb.cell 0,rb.cell 1,rb.cell 2⟩ | assumption | go_keep)
     clear hK K
     try simp only [Act.put,sp]
     refine wpAnyH_done (by kernel_rfl) ?_ _
     go_simp
     go_simp
     (try go_wp2_with fail)
     go_meet
     case rel=>exact ⟨g,R2,d2,rfl,hgw,hc2,HF.bel,(bg HF),(bg HF),(bg HF),(bg HF),(bg HF),(bg HF),(bg HF),(bg HF),(bg HF)⟩
    case step13 =>
     (go_simp;(have hgw:=rc.lt);(have HI:=HG);(have HJ:=(Held.init y1).new 34 [.bool false,.slice none 0 0]);(have HG:=HG.new 34 [.bool false,.slice none 0 0]);(obtain ⟨g,hge⟩:∃ g,g=y1.heap.size:=⟨_,rfl⟩);(obtain ⟨ya,hya⟩:∃ y,y=y1.alloc (.cells #[.bool false,.slice none 0 0] 34):=⟨_,rfl⟩);(rw [← hge] at HJ HG hgw ⊢);(rw [← hya] at HJ HG ⊢);(have HGE:=Lib.hid hge);(have hgl:=HJ.has.1.lt);(clear hge hya);(have ra:RowC _ w.heap.size 36 [.bool s,.slice A n c,.slice D k e]:=(bg HG));(have rb:RowC _ (w.heap.size + 1) 36 [.bool t,.slice B n' c',.slice E k' e']:=(bg HG));(have rc:RowC _ (w.heap.size + 1 + 1) 36 [.bool false,.slice none 0 0,.slice none 0 0]:=(bg HG)))
     refine hK.out _ _ ?hS13 (fun hHeld=>?rest13)
     case hS13=>(first | exact ⟨ra.cell 0,ra.cell 1,ra.cell 2,rb.cell 0,rb.cell 1,rb.cell 2⟩ | assumption | go_keep)
     clear hK K
     try simp only [Act.put,sp]
     refine wpAnyH_ready (rs:=[5]) (by kernel_rfl) (by simp) (consL rfl (fun K hK=>?step16))
     (go_simp;(refine (rint_mul s false A R n c _ d1 xs (limbs (und (val es))) _ (bg HG) a2 a3 (bg HG) hc1 (limbs_L32 _) (fits8 (by omega))).mono ?_);(rintro e y2 ⟨R2,d2,rfl,ho2,hb1⟩);(rw [val_limbs,← HZ1.out] at ho2 ⊢);(have hc2:=ho2.cap);(have HG:=(HG.step hb1).sl (ho2.sl (by omega)));(have HJ:=HJ.step hb1);(have hgl:=HJ.has.1.lt);(clear hb1);(have ra:RowC _ w.heap.size 36 [.bool s,.slice A n c,.slice D k e]:=(bg HG));(have rb:RowC _ (w.heap.size + 1) 36 [.bool t,.slice B n' c',.slice E k' e']:=(bg HG));(have rc:RowC _ (w.heap.size + 1 + 1) 36 [.bool false,.slice none 0 0,.slice none 0 0]:=(bg HG)))
     refine hK.out _ _ ?hS16 (fun hHeld=>?rest16)
     case hS16=>(first | exact ⟨ra.cell 0,ra.cell 1,ra.cell 2,rb.cell 0,rb.cell 1,rb.cell 2⟩ | assumption | go_keep)
     clear hK K
     try simp only [Act.put,sp]
     refine wpAnyH_ready (rs:=[7]) (by kernel_rfl) (by simp) (consL rfl (fun K hK=>?step17))
     ((have t0:=HJ.has.1.cell 0);(have t1:=HJ.has.1.cell 1);(have f0:=HJ.has.1.frozen 0);(have f1:=HJ.has.1.frozen 1);go_simp;(clear t0 t1 f0 f1);(obtain ⟨wz,hwz⟩:∃ wz,wz=((y2.setCell ⟨g,0,none⟩ (.bool (isNeg z1))).setCell ⟨g,1,none⟩ (.slice R2 (limbs z1.natAbs).length d2)):=⟨_,rfl⟩);(rw [← hwz]);(have hq:=box2_fin (v0:=.bool (isNeg z1)) (v1:=.slice R2 (limbs z1.natAbs).length d2) (Nat.le_of_eq HGE.out.symm) HJ.has.1 HJ.bel (ho2.mono (by omega)));(rw [← hwz] at hq);(have HF:=((HI.step hq.2.2).sl (hq.2.1.sl (by omega))).row hq.1);(clear hwz);(have ra:RowC wz w.heap.size 36 [.bool s,.slice A n c,.slice D k e]:=(bg HF));(have rb:RowC wz (w.heap.size + 1) 36 [.bool t,.slice B n' c',.slice E k' e']:=(bg HF)))
     refine hK.out _ _ ?hS17 (fun hHeld=>?rest17)
     case hS17=>(first | exact ⟨ra.cell 0,ra.cell 1,ra.cell 2,rb.cell 0,rb.cell 1,rb.cell 2⟩ | assumption | go_keep)
     clear hK K
     try simp only [Act.put,sp]
     refine wpAnyH_done (by kernel_rfl) ?_ _
     go_simp
     go_simp
     (try go_wp2_with fail)
     go_meet
     case rel=>exact ⟨g,R2,d2,rfl,hgw,hc2,HF.bel,(bg HF),(bg HF),(bg HF),(bg HF),(bg HF),(bg HF),(bg HF),(bg HF),(bg HF)⟩
   case step10 =>
    (go_simp;(have hgw:=rc.lt);(have HI:=HG);(have HJ:=(Held.init y0).new 34 [.bool false,.slice none 0 0]);(have HG:=HG.new 34 [.bool false,.slice none 0 0]);(obtain ⟨g,hge⟩:∃ g,g=y0.heap.size:=⟨_,rfl⟩);(obtain ⟨ya,hya⟩:∃ y,y=y0.alloc (.cells #[.bool false,.slice none 0 0] 34):=⟨_,rfl⟩);(rw [← hge] at HJ HG hgw ⊢);(rw [← hya] at HJ HG ⊢);(have HGE:=Lib.hid hge);(have hgl:=HJ.has.1.lt);(clear hge hya);(have ra:RowC _ w.heap.size 36 [.bool s,.slice A n c,.slice D k e]:=(bg HG));(have rb:RowC _ (w.heap.size + 1) 36 [.bool t,.slice B n' c',.slice E k' e']:=(bg HG));(have rc:RowC _ (w.heap.size + 1 + 1) 36 [.bool false,.slice none 0 0,.slice none 0 0]:=(bg HG)))
    refine hK.out _ _ ?hS10 (fun hHeld=>?rest10)
    case hS10=>(first | exact ⟨ra.cell 0,ra.cell 1,ra.cell 2,rb.cell 0,rb.cell 1,rb.cell 2⟩ | assumption | go_keep)
    clear hK K
    try simp only [Act.put,sp]
    refine wpAnyH_ready (rs:=[4]) (by kernel_rfl) (by simp) (consL rfl (fun K hK=>?step18))
    (go_simp;(refine (rfrac_whole _ _ _ _).mono ?_);(rintro e y1 ⟨rfl,hb1⟩); (have HG:=HG.step hb1);(have HJ:=HJ.step hb1);(have hgl:=HJ.has.1.lt);(clear hb1);(have ra:RowC _ w.heap.size 36 [.bool s,.slice A n c,.slice D k e]:=(bg HG));(have rb:RowC _ (w.heap.size + 1) 36 [.bool t,.slice B n' c',.slice E k' e']:=(bg HG));(have rc:RowC _ (w.heap.size + 1 + 1) 36 [.bool false,.slice none 0 0,.slice none 0 0]:=(bg HG)))
    refine hK.out _ _ ?hS18 (fun hHeld=>?rest18)
    case hS18=>(first | exact ⟨ra.cell 0,ra.cell 1,ra.cell 2,rb.cell 0,rb.cell 1,rb.cell 2⟩ | assumption | go_keep)
    clear hK K
    try simp only [Act.put,sp]
    refine wpAnyH_ready (rs:=[5]) (by kernel_rfl) (by simp) (consL rfl (fun K hK=>?step19))
    (go_simp;(refine (rint_mul s false A R n c _ d1 xs (limbs (und (val es))) _ (bg HG) a2 a3 (bg HG) hc1 (limbs_L32 _) (fits8 (by omega))).mono ?_);(rintro e y2 ⟨R2,d2,rfl,ho2,hb1⟩);(rw [val_limbs,← HZ1.out] at ho2 ⊢);(have hc2:=ho2.cap);(have HG:=(HG.step hb1).sl (ho2.sl (by omega)));(have HJ:=HJ.step hb1);(have hgl:=HJ.has.1.lt);(clear hb1);(have ra:RowC _ w.heap.size 36 [.bool s,.slice A n c,.slice D k e]:=(bg HG));(have rb:RowC _ (w.heap.size + 1) 36 [.bool t,.slice B n' c',.slice E k' e']:=(bg HG));(have rc:RowC _ (w.heap.size + 1 + 1) 36 [.bool false,.slice none 0 0,.slice none 0 0]:=(bg HG)))
    refine hK.out _ _ ?hS19 (fun hHeld=>?rest19)
    case hS19=>(first | exact ⟨ra.cell 0,ra.cell 1,ra.cell 2,rb.cell 0,rb.cell 1,rb.cell 2⟩ | assumption | go_keep)
    clear hK K
    try simp only [Act.put,sp]
    refine wpAnyH_ready (rs:=[7]) (by kernel_rfl) (by simp) (consL rfl (fun K hK=>?step20))
    ((have t0:=HJ.has.1.cell 0);(have t1:=HJ.has.1.cell 1);(have f0:=HJ.has.1.frozen 0);(have f1:=HJ.has.1.frozen 1);go_simp;(clear t0 t1 f0 f1);(obtain ⟨wz,hwz⟩:∃ wz,wz=((y2.setCell ⟨g,0,none⟩ (.bool (isNeg z1))).setCell ⟨g,1,none⟩ (.slice R2 (limbs z1.natAbs).length d2)):=⟨_,rfl⟩);(rw [← hwz]);(have hq:=box2_fin (v0:=.bool (isNeg z1)) (v1:=.slice R2 (limbs z1.natAbs).length d2) (Nat.le_of_eq HGE.out.symm) HJ.has.1 HJ.bel (ho2.mono (by omega)));(rw [← hwz] at hq);(have HF:=((HI.step hq.2.2).sl (hq.2.1.sl (by omega))).row hq.1);(clear hwz);(have ra:RowC wz w.heap.size 36 [.bool s,.slice A n c,.slice D k e]:=(bg HF));(have rb:RowC wz (w.heap.size + 1) 36 [.bool t,.slice B n' c',.slice E k' e']:=(bg HF)))
    refine hK.out _ _ ?hS20 (fun hHeld=>?rest20)
    case hS20=>(first | exact ⟨ra.cell 0,ra.cell 1,ra.cell 2,rb.cell 0,rb.cell 1,rb.cell 2⟩ | assumption | go_keep)
    clear hK K
    try simp only [Act.put,sp]
    refine wpAnyH_done (by kernel_rfl) ?_ _
    go_simp
    go_simp
    (try go_wp2_with fail)
    go_meet
    case rel=>exact ⟨g,R2,d2,rfl,hgw,hc2,HF.bel,(bg HF),(bg HF),(bg HF),(bg HF),(bg HF),(bg HF),(bg HF),(bg HF),(bg HF)⟩
  case step7 =>
   (go_simp;(have hgw:w.heap.size + 1 + 1 < wq.heap.size:=rc.lt);(have HI:=HQ);(have HJ:=((Held.init wq).new 34 [.bool false,.slice none 0 0]).drew);(have HG:=(HQ.new 34 [.bool false,.slice none 0 0]).drew);(obtain ⟨g,hge⟩:∃ g,g=wq.heap.size:=⟨_,rfl⟩);(obtain ⟨ya,hya⟩:∃ y,y=(wq.alloc (.cells #[.bool false,.slice none 0 0] 34)).drew:=⟨_,rfl⟩);(rw [← hge] at HJ HG hgw ⊢);(rw [← hya] at HJ HG ⊢);(have HGE:=Lib.hid hge);(have hgl:=HJ.has.1.lt);(clear hge hya);(have ra:RowC _ w.heap.size 36 [.bool s,.slice A n c,.slice D k e]:=(bg HG));(have rb:RowC _ (w.heap.size + 1) 36 [.bool t,.slice B n' c',.slice E k' e']:=(bg HG));(have rc:RowC _ (w.heap.size + 1 + 1) 36 [.bool false,.slice none 0 0,.slice none 0 0]:=(bg HG)))
   refine hK.out _ _ ?hS7 (fun hHeld=>?rest7)
   case hS7=>(first | exact ⟨ra.cell 0,ra.cell 1,ra.cell 2,rb.cell 0,rb.cell 1,rb.cell 2⟩ | assumption | go_keep)
   clear hK K
   try simp only [Act.put,sp]
   refine wpAnyH_ready (rs:=[3]) (by kernel_rfl) (by simp) (consL rfl (fun K hK=>?step21))
   (go_simp;(refine (rfrac_den t B E n' c' k' e' es _ (bg HG) b5 b6 (fits4 (by omega))).mono ?_);(rintro e y0 ⟨R,d1,rfl,ho1,hb1⟩);(have hc1:=ho1.cap);(have HG:=(HG.step hb1).sl (ho1.sl (by omega)));(have HJ:=HJ.step hb1);(have hgl:=HJ.has.1.lt);(clear hb1);(have ra:RowC _ w.heap.size 36 [.bool s,.slice A n c,.slice D k e]:=(bg HG));(have rb:RowC _ (w.heap.size + 1) 36 [.bool t,.slice B n' c',.slice E k' e']:=(bg HG));(have rc:RowC _ (w.heap.size + 1 + 1) 36 [.bool false,.slice none 0 0,.slice none 0 0]:=(bg HG)))
   refine hK.out _ _ ?hS21 (fun hHeld=>?rest21)
   case hS21=>(first | exact ⟨ra.cell 0,ra.cell 1,ra.cell 2,rb.cell 0,rb.cell 1,rb.cell 2⟩ | assumption | go_keep)
   clear hK K
   try simp only [Act.put,sp]
   refine wpAnyH_ready (rs:=[4]) (by kernel_rfl) (by simp) (consL rfl (fun K hK=>?step22))
   (go_simp;(refine (rfrac_whole _ _ _ _).mono ?_);(rintro e y1 ⟨rfl,hb1⟩); (have HG:=HG.step hb1);(have HJ:=HJ.step hb1);(have hgl:=HJ.has.1.lt);(clear hb1);(have ra:RowC _ w.heap.size 36 [.bool s,.slice A n c,.slice D k e]:=(bg HG));(have rb:RowC _ (w.heap.size + 1) 36 [.bool t,.slice B n' c',.slice E k' e']:=(bg HG));(have rc:RowC _ (w.heap.size + 1 + 1) 36 [.bool false,.slice none 0 0,.slice none 0 0]:=(bg HG)))
   refine hK.out _ _ ?hS22 (fun hHeld=>?rest22)
   case hS22=>(first | exact ⟨ra.cell 0,ra.cell 1,ra.cell 2,rb.cell 0,rb.cell 1,rb.cell 2⟩ | assumption | go_keep)
   clear hK K
   try simp only [Act.put,sp]
   refine wpAnyH_ready (rs:=[5]) (by kernel_rfl) (by simp) (consL rfl (fun K hK=>?step23))
   (go_simp;(refine (rint_mul s false A R n c _ d1 xs (limbs (und (val es))) _ (bg HG) a2 a3 (bg HG) hc1 (limbs_L32 _) (fits8 (by omega))).mono ?_);(rintro e y2 ⟨R2,d2,rfl,ho2,hb1⟩);(rw [val_limbs,← HZ1.out] at ho2 ⊢);(have hc2:=ho2.cap);(have HG:=(HG.step hb1).sl (ho2.sl (by omega)));(have HJ:=HJ.step hb1);(have hgl:=HJ.has.1.lt);(clear hb1);(have ra:RowC _ w.heap.size 36 [.bool s,.slice A n c,.slice D k e]:=(bg HG));(have rb:RowC _ (w.heap.size + 1) 36 [.bool t,.slice B n' c',.slice E k' e']:=(bg HG));(have rc:RowC _ (w.heap.size + 1 + 1) 36 [.bool false,.slice none 0 0,.slice none 0 0]:=(bg HG)))
   refine hK.out _ _ ?hS23 (fun hHeld=>?rest23)
   case hS23=>(first | exact ⟨ra.cell 0,ra.cell 1,ra.cell 2,rb.cell 0,rb.cell 1,rb.cell 2⟩ | assumption | go_keep)
   clear hK K
   try simp only [Act.put,sp]
   refine wpAnyH_ready (rs:=[7]) (by kernel_rfl) (by simp) (consL rfl (fun K hK=>?step24))
   ((have t0:=HJ.has.1.cell 0);(have t1:=HJ.has.1.cell 1);(have f0:=HJ.has.1.frozen 0);(have f1:=HJ.has.1.frozen 1);go_simp;(clear t0 t1 f0 f1);(obtain ⟨wz,hwz⟩:∃ wz,wz=((y2.setCell ⟨g,0,none⟩ (.bool (isNeg z1))).setCell ⟨g,1,none⟩ (.slice R2 (limbs z1.natAbs).length d2)):=⟨_,rfl⟩);(rw [← hwz]);(have hq:=box2_fin (v0:=.bool (isNeg z1)) (v1:=.slice R2 (limbs z1.natAbs).length d2) (Nat.le_of_eq HGE.out.symm) HJ.has.1 HJ.bel (ho2.mono (by omega)));(rw [← hwz] at hq);(have HF:=((HI.step hq.2.2).sl (hq.2.1.sl (by omega))).row hq.1);(clear hwz);(have ra:RowC wz w.heap.size 36 [.bool s,.slice A n c,.slice D k e]:=(bg HF));(have rb:RowC wz (w.heap.size + 1) 36 [.bool t,.slice B n' c',.slice E k' e']:=(bg HF)))
   refine hK.out _ _ ?hS24 (fun hHeld=>?rest24)
   case hS24=>(first | exact ⟨ra.cell 0,ra.cell 1,ra.cell 2,rb.cell 0,rb.cell 1,rb.cell 2⟩ | assumption | go_keep)
   clear hK K
   try simp only [Act.put,sp]
   refine wpAnyH_done (by kernel_rfl) ?_ _
   go_simp
   go_simp
   (try go_wp2_with fail)
   go_meet
   case rel=>exact ⟨g,R2,d2,rfl,hgw,hc2,HF.bel,(bg HF),(bg HF),(bg HF),(bg HF),(bg HF),(bg HF),(bg HF),(bg HF),(bg HF)⟩

 case rest =>
  obtain ⟨g1,Q1,e1,rfl,hg1,he1,hbel1,k1,k2,k3,k4,k5,k6,k7,k8,k9⟩:=hcut
  clear HQ H
  have HQ:Held w (fun wx=>RowC wx g1 34 [.bool (isNeg z1),.slice Q1 (limbs z1.natAbs).length e1]∧Sl eU wx Q1 (limbs z1.natAbs).length (limbs z1.natAbs)∧RowC wx (w.heap.size + 1 + 1) 36 [.bool false,.slice none 0 0,.slice none 0 0]∧RowC wx (w.heap.size + 1) 36 [.bool t,.slice B n' c',.slice E k' e']∧RowC wx w.heap.size 36 [.bool s,.slice A n c,.slice D k e]∧Sl eU wx E k' es∧Sl eU wx B n' ys∧Sl eU wx D k ds∧Sl eU wx A n xs∧True) wc:=⟨hbel1,k1,k2,k3,k4,k5,k6,k7,k8,k9,trivial⟩
  obtain ⟨wo,hwo⟩:∃ wo:World,wo=wc:=⟨_,rfl⟩
  subst hwo
  clear hbel1 k1 k2 k3 k4 k5 k6 k7 k8 k9
  go_upto_region 2 with fail
  go_cut [6] from 13 to 18 (fun v wx=>∃ (g2:Nat) (Q2:Option Addr) (e2:Nat),v=.pointer (some ⟨g2,0,none⟩)∧w.heap.size + 1 + 1 < g2∧(limbs z2.natAbs).length≤e2∧Below w.heap.size w wx∧RowC wx g2 34 [.bool (isNeg z2),.slice Q2 (limbs z2.natAbs).length e2]∧Sl eU wx Q2 (limbs z2.natAbs).length (limbs z2.natAbs)∧RowC wx g1 34 [.bool (isNeg z1),.slice Q1 (limbs z1.natAbs).length e1]∧Sl eU wx Q1 (limbs z1.natAbs).length (limbs z1.natAbs)∧RowC wx (w.heap.size + 1 + 1) 36 [.bool false,.slice none 0 0,.slice none 0 0]∧RowC wx (w.heap.size + 1) 36 [.bool t,.slice B n' c',.slice E k' e']∧RowC wx w.heap.size 36 [.bool s,.slice A n c,.slice D k e]∧Sl eU wx E k' es∧Sl eU wx B n' ys∧Sl eU wx D k ds∧Sl eU wx A n xs)
  case first=>as_aux_lemma =>
   have HG:=HQ.drew
   (have ra:RowC wo.drew w.heap.size 36 [.bool s,.slice A n c,.slice D k e]:=(bg HG));(have rb:RowC wo.drew (w.heap.size + 1) 36 [.bool t,.slice B n' c',.slice E k' e']:=(bg HG));(have rc:RowC wo.drew (w.heap.size + 1 + 1) 36 [.bool false,.slice none 0 0,.slice none 0 0]:=(bg HG))
   refine wp_region_held_drew (S:=(fun w'=>w'.cell? ⟨w.heap.size,0,none⟩=some (.bool s)∧w'.cell? ⟨w.heap.size,1,none⟩=some (.slice A n c)∧w'.cell? ⟨w.heap.size,2,none⟩=some (.slice D k e)∧w'.cell? ⟨w.heap.size + 1,0,none⟩=some (.bool t)∧w'.cell? ⟨w.heap.size + 1,1,none⟩=some (.slice B n' c')∧w'.cell? ⟨w.heap.size + 1,2,none⟩=some (.slice E k' e'))) (by kernel_rfl) ?hS25 (fun hHeld=>?rest25)
   case hS25=>(first | exact ⟨ra.cell 0,ra.cell 1,ra.cell 2,rb.cell 0,rb.cell 1,rb.cell 2⟩ | assumption | go_keep)
   refine tk 0 rfl ?_
   try simp only [Act.put,sp]
   refine tk 1 rfl ?_
   try simp only [Act.put,sp]
   refine tk 2 rfl ?_
   try simp only [Act.put,sp]
   refine wpAnyH_ready (rs:=[3,6]) (by kernel_rfl) (by simp) (consM rfl (fun K hK=>?step30) (consL rfl (fun K hK=>?step31)))
   case step30 =>
    (go_simp;(refine (rfrac_den s A D n c k e ds _ (bg HG) a5 a6 (fits4 (by omega))).mono ?_);(rintro e y0 ⟨R,d1,rfl,ho1,hb1⟩);(have hc1:=ho1.cap);(have HG:=(HG.step hb1).sl (ho1.sl (by omega)));(clear hb1);(have ra:RowC _ w.heap.size 36 [.bool s,.slice A n c,.slice D k e]:=(bg HG));(have rb:RowC _ (w.heap.size + 1) 36 [.bool t,.slice B n' c',.slice E k' e']:=(bg HG));(have rc:RowC _ (w.heap.size + 1 + 1) 36 [.bool false,.slice none 0 0,.slice none 0 0]:=(bg HG)))
    refine hK.out _ _ ?hS30 (fun hHeld=>?rest30)
    case hS30=>(first | exact ⟨ra.cell 0,ra.cell 1,ra.cell 2,rb.cell 0,rb.cell 1,rb.cell 2⟩ | assumption | go_keep)
    clear hK K
    try simp only [Act.put,sp]
    refine wpAnyH_ready (rs:=[4,6]) (by kernel_rfl) (by simp) (consM rfl (fun K hK=>?step33) (consL rfl (fun K hK=>?step34)))
    case step33 =>
     (go_simp;(refine (rfrac_whole _ _ _ _).mono ?_);(rintro e y1 ⟨rfl,hb1⟩); (have HG:=HG.step hb1);(clear hb1);(have ra:RowC _ w.heap.size 36 [.bool s,.slice A n c,.slice D k e]:=(bg HG));(have rb:RowC _ (w.heap.size + 1) 36 [.bool t,.slice B n' c',.slice E k' e']:=(bg HG));(have rc:RowC _ (w.heap.size + 1 + 1) 36 [.bool false,.slice none 0 0,.slice none 0 0]:=(bg HG)))
     refine hK.out _ _ ?hS33 (fun hHeld=>?rest33)
     case hS33=>(first | exact ⟨ra.cell 0,ra.cell 1,ra.cell 2,rb.cell 0,rb.cell 1,rb.cell 2⟩ | assumption | go_keep)
     clear hK K
     try simp only [Act.put,sp]
     refine wpAnyH_ready (rs:=[5,6]) (by kernel_rfl) (by simp) (consM rfl (fun K hK=>?step36) (consL rfl (fun K hK=>?step37)))
     case step36 =>
      (go_simp;(refine (rint_mul t false B R n' c' _ d1 ys (limbs (und (val ds))) _ (bg HG) b2 b3 (bg HG) hc1 (limbs_L32 _) (fits8 (by omega))).mono ?_);(rintro e y2 ⟨R2,d2,rfl,ho2,hb1⟩);(rw [val_limbs,← HZ2.out] at ho2 ⊢);(have hc2:=ho2.cap);(have HG:=(HG.step hb1).sl (ho2.sl (by omega)));(clear hb1);(have ra:RowC _ w.heap.size 36 [.bool s,.slice A n c,.slice D k e]:=(bg HG));(have rb:RowC _ (w.heap.size + 1) 36 [.bool t,.slice B n' c',.slice E k' e']:=(bg HG));(have rc:RowC _ (w.heap.size + 1 + 1) 36 [.bool false,.slice none 0 0,.slice none 0 0]:=(bg HG)))
      refine hK.out _ _ ?hS36 (fun hHeld=>?rest36)
      case hS36=>(first | exact ⟨ra.cell 0,ra.cell 1,ra.cell 2,rb.cell 0,rb.cell 1,rb.cell 2⟩ | assumption | go_keep)
      clear hK K
      try simp only [Act.put,sp]
      refine wpAnyH_ready (rs:=[6]) (by kernel_rfl) (by simp) (consL rfl (fun K hK=>?step38))
      (go_simp;(have hgw:=rc.lt);(have HI:=HG);(have HJ:=(Held.init y2).new 34 [.bool false,.slice none 0 0]);(have HG:=HG.new 34 [.bool false,.slice none 0 0]);(obtain ⟨g,hge⟩:∃ g,g=y2.heap.size:=⟨_,rfl⟩);(obtain ⟨ya,hya⟩:∃ y,y=y2.alloc (.cells #[.bool false,.slice none 0 0] 34):=⟨_,rfl⟩);(rw [← hge] at HJ HG hgw ⊢);(rw [← hya] at HJ HG ⊢);(have HGE:=Lib.hid hge);(have hgl:=HJ.has.1.lt);(clear hge hya);(have ra:RowC _ w.heap.size 36 [.bool s,.slice A n c,.slice D k e]:=(bg HG));(have rb:RowC _ (w.heap.size + 1) 36 [.bool t,.slice B n' c',.slice E k' e']:=(bg HG));(have rc:RowC _ (w.heap.size + 1 + 1) 36 [.bool false,.slice none 0 0,.slice none 0 0]:=(bg HG)))
      refine hK.out _ _ ?hS38 (fun hHeld=>?rest38)
      case hS38=>(first | exact ⟨ra.cell 0,ra.cell 1,ra.cell 2,rb.cell 0,rb.cell 1,rb.cell 2⟩ | assumption | go_keep)
      clear hK K
      try simp only [Act.put,sp]
      refine wpAnyH_ready (rs:=[7]) (by kernel_rfl) (by simp) (consL rfl (fun K hK=>?step39))
      ((have t0:=HJ.has.1.cell 0);(have t1:=HJ.has.1.cell 1);(have f0:=HJ.has.1.frozen 0);(have f1:=HJ.has.1.frozen 1);go_simp;(clear t0 t1 f0 f1);(obtain ⟨wz,hwz⟩:∃ wz,wz=((ya.setCell ⟨g,0,none⟩ (.bool (isNeg z2))).setCell ⟨g,1,none⟩ (.slice R2 (limbs z2.natAbs).length d2)):=⟨_,rfl⟩);(rw [← hwz]);(have hq:=box2_put (v0:=.bool (isNeg z2)) (v1:=.slice R2 (limbs z2.natAbs).length d2) (Nat.le_of_eq HGE.out.symm) HJ.has.1 HJ.bel);(rw [← hwz] at hq);(have HF:=(HI.step hq.2).row hq.1);(clear hwz);(have ra:RowC wz w.heap.size 36 [.bool s,.slice A n c,.slice D k e]:=(bg HF));(have rb:RowC wz (w.heap.size + 1) 36 [.bool t,.slice B n' c',.slice E k' e']:=(bg HF)))
      refine hK.out _ _ ?hS39 (fun hHeld=>?rest39)
      case hS39=>(first | exact ⟨ra.cell 0,ra.cell 1,ra.cell 2,rb.cell 0,rb.cell 1,rb.cell 2⟩ | assumption | go_keep)
      clear hK K
      try simp only [Act.put,sp]
      refine wpAnyH_done (by kernel_rfl) ?_ _
      go_simp
      go_simp
      (try go_wp2_with fail)
      go_meet
      case rel=>exact ⟨g,R2,d2,rfl,hgw,hc2,HF.bel,(bg HF),(bg HF),(bg HF),(bg HF),(bg HF),(bg HF),(bg HF),(bg HF),(bg HF),(bg HF),(bg HF)⟩
     case step37 =>
      (go_simp;(have hgw:=rc.lt);(have HI:=HG);(have HJ:=(Held.init y1).new 34 [.bool false,.slice none 0 0]);(have HG:=HG.new 34 [.bool false,.slice none 0 0]);(obtain ⟨g,hge⟩:∃ g,g=y1.heap.size:=⟨_,rfl⟩);(obtain ⟨ya,hya⟩:∃ y,y=y1.alloc (.cells #[.bool false,.slice none 0 0] 34):=⟨_,rfl⟩);(rw [← hge] at HJ HG hgw ⊢);(rw [← hya] at HJ HG ⊢);(have HGE:=Lib.hid hge);(have hgl:=HJ.has.1.lt);(clear hge hya);(have ra:RowC _ w.heap.size 36 [.bool s,.slice A n c,.slice D k e]:=(bg HG));(have rb:RowC _ (w.heap.size + 1) 36 [.bool t,.slice B n' c',.slice E k' e']:=(bg HG));(have rc:RowC _ (w.heap.size + 1 + 1) 36 [.bool false,.slice none 0 0,.slice none 0 0]:=(bg HG)))
      refine hK.out _ _ ?hS37 (fun hHeld=>?rest37)
      case hS37=>(first | exact ⟨ra.cell 0,ra.cell 1,ra.cell 2,rb.cell 0,rb.cell 1,rb.cell 2⟩ | assumption | go_keep)
      clear hK K
      try simp only [Act.put,sp]
      refine wpAnyH_ready (rs:=[5]) (by kernel_rfl) (by simp) (consL rfl (fun K hK=>?step40))
      (go_simp;(refine (rint_mul t false B R n' c' _ d1 ys (limbs (und (val ds))) _ (bg HG) b2 b3 (bg HG) hc1 (limbs_L32 _) (fits8 (by omega))).mono ?_);(rintro e y2 ⟨R2,d2,rfl,ho2,hb1⟩);(rw [val_limbs,← HZ2.out] at ho2 ⊢);(have hc2:=ho2.cap);(have HG:=(HG.step hb1).sl (ho2.sl (by omega)));(have HJ:=HJ.step hb1);(have hgl:=HJ.has.1.lt);(clear hb1);(have ra:RowC _ w.heap.size 36 [.bool s,.slice A n c,.slice D k e]:=(bg HG));(have rb:RowC _ (w.heap.size + 1) 36 [.bool t,.slice B n' c',.slice E k' e']:=(bg HG));(have rc:RowC _ (w.heap.size + 1 + 1) 36 [.bool false,.slice none 0 0,.slice none 0 0]:=(bg HG)))
      refine hK.out _ _ ?hS40 (fun hHeld=>?rest40)
      case hS40=>(first | exact ⟨ra.cell 0,ra.cell 1,ra.cell 2,rb.cell 0,rb.cell 1,rb.cell 2⟩ | assumption | go_keep)
      clear hK K
      try simp only [Act.put,sp]
      refine wpAnyH_ready (rs:=[7]) (by kernel_rfl) (by simp) (consL rfl (fun K hK=>?step41))
      ((have t0:=HJ.has.1.cell 0);(have t1:=HJ.has.1.cell 1);(have f0:=HJ.has.1.frozen 0);(have f1:=HJ.has.1.frozen 1);go_simp;(clear t0 t1 f0 f1);(obtain ⟨wz,hwz⟩:∃ wz,wz=((y2.setCell ⟨g,0,none⟩ (.bool (isNeg z2))).setCell ⟨g,1,none⟩ (.slice R2 (limbs z2.natAbs).length d2)):=⟨_,rfl⟩);(rw [← hwz]);(have hq:=box2_fin (v0:=.bool (isNeg z2)) (v1:=.slice R2 (limbs z2.natAbs).length d2) (Nat.le_of_eq HGE.out.symm) HJ.has.1 HJ.bel (ho2.mono (by omega)));(rw [← hwz] at hq);(have HF:=((HI.step hq.2.2).sl (hq.2.1.sl (by omega))).row hq.1);(clear hwz);(have ra:RowC wz w.heap.size 36 [.bool s,.slice A n c,.slice D k e]:=(bg HF));(have rb:RowC wz (w.heap.size + 1) 36 [.bool t,.slice B n' c',.slice E k' e']:=(bg HF)))
      refine hK.out _ _ ?hS41 (fun hHeld=>?rest41)
      case hS41=>(first | exact ⟨ra.cell 0,ra.cell 1,ra.cell 2,rb.cell 0,rb.cell 1,rb.cell 2⟩ | assumption | go_keep)
      clear hK K
      try simp only [Act.put,sp]
      refine wpAnyH_done (by kernel_rfl) ?_ _
      go_simp
      go_simp
      (try go_wp2_with fail)
      go_meet
      case rel=>exact ⟨g,R2,d2,rfl,hgw,hc2,HF.bel,(bg HF),(bg HF),(bg HF),(bg HF),(bg HF),(bg HF),(bg HF),(bg HF),(bg HF),(bg HF),(bg HF)⟩
    case step34 =>
     (go_simp;(have hgw:=rc.lt);(have HI:=HG);(have HJ:=(Held.init y0).new 34 [.bool false,.slice none 0 0]);(have HG:=HG.new 34 [.bool false,.slice none 0 0]);(obtain ⟨g,hge⟩:∃ g,g=y0.heap.size:=⟨_,rfl⟩);(obtain ⟨ya,hya⟩:∃ y,y=y0.alloc (.cells #[.bool false,.slice none 0 0] 34):=⟨_,rfl⟩);(rw [← hge] at HJ HG hgw ⊢);(rw [← hya] at HJ HG ⊢);(have HGE:=Lib.hid hge);(have hgl:=HJ.has.1.lt);(clear hge hya);(have ra:RowC _ w.heap.size 36 [.bool s,.slice A n c,.slice D k e]:=(bg HG));(have rb:RowC _ (w.heap.size + 1) 36 [.bool t,.slice B n' c',.slice E k' e']:=(bg HG));(have rc:RowC _ (w.heap.size + 1 + 1) 36 [.bool false,.slice none 0 0,.slice none 0 0]:=(bg HG)))
     refine hK.out _ _ ?hS34 (fun hHeld=>?rest34)
     case hS34=>(first | exact ⟨ra.cell 0,ra.cell 1,ra.cell 2,rb.cell 0,rb.cell 1,rb.cell 2⟩ | assumption | go_keep)
     clear hK K
     try simp only [Act.put,sp]
     refine wpAnyH_ready (rs:=[4]) (by kernel_rfl) (by simp) (consL rfl (fun K hK=>?step42))
     (go_simp;(refine (rfrac_whole _ _ _ _).mono ?_);(rintro e y1 ⟨rfl,hb1⟩); (have HG:=HG.step hb1);(have HJ:=HJ.step hb1);(have hgl:=HJ.has.1.lt);(clear hb1);(have ra:RowC _ w.heap.size 36 [.bool s,.slice A n c,.slice D k e]:=(bg HG));(have rb:RowC _ (w.heap.size + 1) 36 [.bool t,.slice B n' c',.slice E k' e']:=(bg HG));(have rc:RowC _ (w.heap.size + 1 + 1) 36 [.bool false,.slice none 0 0,.slice none 0 0]:=(bg HG)))
     refine hK.out _ _ ?hS42 (fun hHeld=>?rest42)
     case hS42=>(first | exact ⟨ra.cell 0,ra.cell 1,ra.cell 2,rb.cell 0,rb.cell 1,rb.cell 2⟩ | assumption | go_keep)
     clear hK K
     try simp only [Act.put,sp]
     refine wpAnyH_ready (rs:=[5]) (by kernel_rfl) (by simp) (consL rfl (fun K hK=>?step43))
     (go_simp;(refine (rint_mul t false B R n' c' _ d1 ys (limbs (und (val ds))) _ (bg HG) b2 b3 (bg HG) hc1 (limbs_L32 _) (fits8 (by omega))).mono ?_);(rintro e y2 ⟨R2,d2,rfl,ho2,hb1⟩);(rw [val_limbs,← HZ2.out] at ho2 ⊢);(have hc2:=ho2.cap);(have HG:=(HG.step hb1).sl (ho2.sl (by omega)));(have HJ:=HJ.step hb1);(have hgl:=HJ.has.1.lt);(clear hb1);(have ra:RowC _ w.heap.size 36 [.bool s,.slice A n c,.slice D k e]:=(bg HG));(have rb:RowC _ (w.heap.size + 1) 36 [.bool t,.slice B n' c',.slice E k' e']:=(bg HG));(have rc:RowC _ (w.heap.size + 1 + 1) 36 [.bool false,.slice none 0 0,.slice none 0 0]:=(bg HG)))
     refine hK.out _ _ ?hS43 (fun hHeld=>?rest43)
     case hS43=>(first | exact ⟨ra.cell 0,ra.cell 1,ra.cell 2,rb.cell 0,rb.cell 1,rb.cell 2⟩ | assumption | go_keep)
     clear hK K
     try simp only [Act.put,sp]
     refine wpAnyH_ready (rs:=[7]) (by kernel_rfl) (by simp) (consL rfl (fun K hK=>?step44))
     ((have t0:=HJ.has.1.cell 0);(have t1:=HJ.has.1.cell 1);(have f0:=HJ.has.1.frozen 0);(have f1:=HJ.has.1.frozen 1);go_simp;(clear t0 t1 f0 f1);(obtain ⟨wz,hwz⟩:∃ wz,wz=((y2.setCell ⟨g,0,none⟩ (.bool (isNeg z2))).setCell ⟨g,1,none⟩ (.slice R2 (limbs z2.natAbs).length d2)):=⟨_,rfl⟩);(rw [← hwz]);(have hq:=box2_fin (v0:=.bool (isNeg z2)) (v1:=.slice R2 (limbs z2.natAbs).length d2) (Nat.le_of_eq HGE.out.symm) HJ.has.1 HJ.bel (ho2.mono (by omega)));(rw [← hwz] at hq);(have HF:=((HI.step hq.2.2).sl (hq.2.1.sl (by omega))).row hq.1);(clear hwz);(have ra:RowC wz w.heap.size 36 [.bool s,.slice A n c,.slice D k e]:=(bg HF));(have rb:RowC wz (w.heap.size + 1) 36 [.bool t,.slice B n' c',.slice E k' e']:=(bg HF)))
     refine hK.out _ _ ?hS44 (fun hHeld=>?rest44)
     case hS44=>(first | exact ⟨ra.cell 0,ra.cell 1,ra.cell 2,rb.cell 0,rb.cell 1,rb.cell 2⟩ | assumption | go_keep)
     clear hK K
     try simp only [Act.put,sp]
     refine wpAnyH_done (by kernel_rfl) ?_ _
     go_simp
     go_simp
     (try go_wp2_with fail)
     go_meet
     case rel=>exact ⟨g,R2,d2,rfl,hgw,hc2,HF.bel,(bg HF),(bg HF),(bg HF),(bg HF),(bg HF),(bg HF),(bg HF),(bg HF),(bg HF),(bg HF),(bg HF)⟩
   case step31 =>
    (go_simp;(have hgw:w.heap.size + 1 + 1 < wo.heap.size:=rc.lt);(have HI:=HQ);(have HJ:=((Held.init wo).new 34 [.bool false,.slice none 0 0]).drew);(have HG:=(HQ.new 34 [.bool false,.slice none 0 0]).drew);(obtain ⟨g,hge⟩:∃ g,g=wo.heap.size:=⟨_,rfl⟩);(obtain ⟨ya,hya⟩:∃ y,y=(wo.alloc (.cells #[.bool false,.slice none 0 0] 34)).drew:=⟨_,rfl⟩);(rw [← hge] at HJ HG hgw ⊢);(rw [← hya] at HJ HG ⊢);(have HGE:=Lib.hid hge);(have hgl:=HJ.has.1.lt);(clear hge hya);(have ra:RowC _ w.heap.size 36 [.bool s,.slice A n c,.slice D k e]:=(bg HG));(have rb:RowC _ (w.heap.size + 1) 36 [.bool t,.slice B n' c',.slice E k' e']:=(bg HG));(have rc:RowC _ (w.heap.size + 1 + 1) 36 [.bool false,.slice none 0 0,.slice none 0 0]:=(bg HG)))
    refine hK.out _ _ ?hS31 (fun hHeld=>?rest31)
    case hS31=>(first | exact ⟨ra.cell 0,ra.cell 1,ra.cell 2,rb.cell 0,rb.cell 1,rb.cell 2⟩ | assumption | go_keep)
    clear hK K
    try simp only [Act.put,sp]
    refine wpAnyH_ready (rs:=[3]) (by kernel_rfl) (by simp) (consL rfl (fun K hK=>?step45))
    (go_simp;(refine (rfrac_den s A D n c k e ds _ (bg HG) a5 a6 (fits4 (by omega))).mono ?_);(rintro e y0 ⟨R,d1,rfl,ho1,hb1⟩);(have hc1:=ho1.cap);(have HG:=(HG.step hb1).sl (ho1.sl (by omega)));(have HJ:=HJ.step hb1);(have hgl:=HJ.has.1.lt);(clear hb1);(have ra:RowC _ w.heap.size 36 [.bool s,.slice A n c,.slice D k e]:=(bg HG));(have rb:RowC _ (w.heap.size + 1) 36 [.bool t,.slice B n' c',.slice E k' e']:=(bg HG));(have rc:RowC _ (w.heap.size + 1 + 1) 36 [.bool false,.slice none 0 0,.slice none 0 0]:=(bg HG)))
    refine hK.out _ _ ?hS45 (fun hHeld=>?rest45)
    case hS45=>(first | exact ⟨ra.cell 0,ra.cell 1,ra.cell 2,rb.cell 0,rb.cell 1,rb.cell 2⟩ | assumption | go_keep)
    clear hK K
    try simp only [Act.put,sp]
    refine wpAnyH_ready (rs:=[4]) (by kernel_rfl) (by simp) (consL rfl (fun K hK=>?step46))
    (go_simp;(refine (rfrac_whole _ _ _ _).mono ?_);(rintro e y1 ⟨rfl,hb1⟩); (have HG:=HG.step hb1);(have HJ:=HJ.step hb1);(have hgl:=HJ.has.1.lt);(clear hb1);(have ra:RowC _ w.heap.size 36 [.bool s,.slice A n c,.slice D k e]:=(bg HG));(have rb:RowC _ (w.heap.size + 1) 36 [.bool t,.slice B n' c',.slice E k' e']:=(bg HG));(have rc:RowC _ (w.heap.size + 1 + 1) 36 [.bool false,.slice none 0 0,.slice none 0 0]:=(bg HG)))
    refine hK.out _ _ ?hS46 (fun hHeld=>?rest46)
    case hS46=>(first | exact ⟨ra.cell 0,ra.cell 1,ra.cell 2,rb.cell 0,rb.cell 1,rb.cell 2⟩ | assumption | go_keep)
    clear hK K
    try simp only [Act.put,sp]
    refine wpAnyH_ready (rs:=[5]) (by kernel_rfl) (by simp) (consL rfl (fun K hK=>?step47))
    (go_simp;(refine (rint_mul t false B R n' c' _ d1 ys (limbs (und (val ds))) _ (bg HG) b2 b3 (bg HG) hc1 (limbs_L32 _) (fits8 (by omega))).mono ?_);(rintro e y2 ⟨R2,d2,rfl,ho2,hb1⟩);(rw [val_limbs,← HZ2.out] at ho2 ⊢);(have hc2:=ho2.cap);(have HG:=(HG.step hb1).sl (ho2.sl (by omega)));(have HJ:=HJ.step hb1);(have hgl:=HJ.has.1.lt);(clear hb1);(have ra:RowC _ w.heap.size 36 [.bool s,.slice A n c,.slice D k e]:=(bg HG));(have rb:RowC _ (w.heap.size + 1) 36 [.bool t,.slice B n' c',.slice E k' e']:=(bg HG));(have rc:RowC _ (w.heap.size + 1 + 1) 36 [.bool false,.slice none 0 0,.slice none 0 0]:=(bg HG)))
    refine hK.out _ _ ?hS47 (fun hHeld=>?rest47)
    case hS47=>(first | exact ⟨ra.cell 0,ra.cell 1,ra.cell 2,rb.cell 0,rb.cell 1,rb.cell 2⟩ | assumption | go_keep)
    clear hK K
    try simp only [Act.put,sp]
    refine wpAnyH_ready (rs:=[7]) (by kernel_rfl) (by simp) (consL rfl (fun K hK=>?step48))
    ((have t0:=HJ.has.1.cell 0);(have t1:=HJ.has.1.cell 1);(have f0:=HJ.has.1.frozen 0);(have f1:=HJ.has.1.frozen 1);go_simp;(clear t0 t1 f0 f1);(obtain ⟨wz,hwz⟩:∃ wz,wz=((y2.setCell ⟨g,0,none⟩ (.bool (isNeg z2))).setCell ⟨g,1,none⟩ (.slice R2 (limbs z2.natAbs).length d2)):=⟨_,rfl⟩);(rw [← hwz]);(have hq:=box2_fin (v0:=.bool (isNeg z2)) (v1:=.slice R2 (limbs z2.natAbs).length d2) (Nat.le_of_eq HGE.out.symm) HJ.has.1 HJ.bel (ho2.mono (by omega)));(rw [← hwz] at hq);(have HF:=((HI.step hq.2.2).sl (hq.2.1.sl (by omega))).row hq.1);(clear hwz);(have ra:RowC wz w.heap.size 36 [.bool s,.slice A n c,.slice D k e]:=(bg HF));(have rb:RowC wz (w.heap.size + 1) 36 [.bool t,.slice B n' c',.slice E k' e']:=(bg HF)))
    refine hK.out _ _ ?hS48 (fun hHeld=>?rest48)
    case hS48=>(first | exact ⟨ra.cell 0,ra.cell 1,ra.cell 2,rb.cell 0,rb.cell 1,rb.cell 2⟩ | assumption | go_keep)
    clear hK K
    try simp only [Act.put,sp]
    refine wpAnyH_done (by kernel_rfl) ?_ _
    go_simp
    go_simp
    (try go_wp2_with fail)
    go_meet
    case rel=>exact ⟨g,R2,d2,rfl,hgw,hc2,HF.bel,(bg HF),(bg HF),(bg HF),(bg HF),(bg HF),(bg HF),(bg HF),(bg HF),(bg HF),(bg HF),(bg HF)⟩

  case rest =>
   obtain ⟨g2,Q2,e2,rfl,hg2,he2,hbel1,k1,k2,k3,k4,k5,k6,k7,k8,k9,k10,k11⟩:=hcut
   clear HQ
   have HG:Held w (fun wx=>RowC wx g2 34 [.bool (isNeg z2),.slice Q2 (limbs z2.natAbs).length e2]∧Sl eU wx Q2 (limbs z2.natAbs).length (limbs z2.natAbs)∧RowC wx g1 34 [.bool (isNeg z1),.slice Q1 (limbs z1.natAbs).length e1]∧Sl eU wx Q1 (limbs z1.natAbs).length (limbs z1.natAbs)∧RowC wx (w.heap.size + 1 + 1) 36 [.bool false,.slice none 0 0,.slice none 0 0]∧RowC wx (w.heap.size + 1) 36 [.bool t,.slice B n' c',.slice E k' e']∧RowC wx w.heap.size 36 [.bool s,.slice A n c,.slice D k e]∧Sl eU wx E k' es∧Sl eU wx B n' ys∧Sl eU wx D k ds∧Sl eU wx A n xs∧True) wc:=⟨hbel1,k1,k2,k3,k4,k5,k6,k7,k8,k9,k10,k11,trivial⟩
   clear hbel1 k1 k2 k3 k4 k5 k6 k7 k8 k9 k10 k11
   go_upto_region 3 with fail
   have HG:=HG.drew
   (have ra:RowC wc.drew w.heap.size 36 [.bool s,.slice A n c,.slice D k e]:=(bg HG));(have rb:RowC wc.drew (w.heap.size + 1) 36 [.bool t,.slice B n' c',.slice E k' e']:=(bg HG));(have rc:RowC wc.drew (w.heap.size + 1 + 1) 36 [.bool false,.slice none 0 0,.slice none 0 0]:=(bg HG));(have rg:RowC wc.drew g1 34 [.bool (isNeg z1),.slice Q1 (limbs z1.natAbs).length e1]:=(bg HG));(have rh:RowC wc.drew g2 34 [.bool (isNeg z2),.slice Q2 (limbs z2.natAbs).length e2]:=(bg HG))
   go_region_held3 (fun w'=>w'.cell? ⟨g1,0,none⟩=some (.bool (isNeg z1))∧w'.cell? ⟨g1,1,none⟩=some (.slice Q1 (limbs z1.natAbs).length e1)∧w'.cell? ⟨g2,0,none⟩=some (.bool (isNeg z2))∧w'.cell? ⟨g2,1,none⟩=some (.slice Q2 (limbs z2.natAbs).length e2)∧w'.cell? ⟨w.heap.size,0,none⟩=some (.bool s)∧w'.cell? ⟨w.heap.size,1,none⟩=some (.slice A n c)∧w'.cell? ⟨w.heap.size,2,none⟩=some (.slice D k e)∧w'.cell? ⟨w.heap.size + 1,0,none⟩=some (.bool t)∧w'.cell? ⟨w.heap.size + 1,1,none⟩=some (.slice B n' c')∧w'.cell? ⟨w.heap.size + 1,2,none⟩=some (.slice E k' e'))
    (first | exact ⟨rg.cell 0,rg.cell 1,rh.cell 0,rh.cell 1,ra.cell 0,ra.cell 1,ra.cell 2,rb.cell 0,rb.cell 1,rb.cell 2⟩ | assumption | exact ⟨(cell_farN (by omega)).trans ((cell_farN (by omega)).trans ((cell_farN (by omega)).trans (rg.cell 0))),(cell_farN (by omega)).trans ((cell_farN (by omega)).trans ((cell_farN (by omega)).trans (rg.cell 1))),(cell_farN (by omega)).trans ((cell_farN (by omega)).trans ((cell_farN (by omega)).trans (rh.cell 0))),(cell_farN (by omega)).trans ((cell_farN (by omega)).trans ((cell_farN (by omega)).trans (rh.cell 1))),(cell_farN (by omega)).trans ((cell_farN (by omega)).trans ((cell_farN (by omega)).trans (ra.cell 0))),(cell_farN (by omega)).trans ((cell_farN (by omega)).trans ((cell_farN (by omega)).trans (ra.cell 1))),(cell_farN (by omega)).trans ((cell_farN (by omega)).trans ((cell_farN (by omega)).trans (ra.cell 2))),(cell_farN (by omega)).trans ((cell_farN (by omega)).trans ((cell_farN (by omega)).trans (rb.cell 0))),(cell_farN (by omega)).trans ((cell_farN (by omega)).trans ((cell_farN (by omega)).trans (rb.cell 1))),(cell_farN (by omega)).trans ((cell_farN (by omega)).trans ((cell_farN (by omega)).trans (rb.cell 2)))⟩ | go_keep)
    (first
      | ((go_at_call 100);(with_reducible refine (rint_add _ _ Q1 Q2 _ e1 _ e2 (limbs z1.natAbs) (limbs z2.natAbs) _ (bg HG) he1 (limbs_L32 _) (bg HG) he2 (limbs_L32 _) (by omega)).mono ?_);(rintro e w9 ⟨R1,d1,rfl,ho1,hb1⟩);(rw [val_limbs,val_limbs,sgn_isNeg,sgn_isNeg] at ho1 ⊢);(have hc1:=ho1.cap);(have HG:=(HG.step hb1).sl (ho1.sl (by omega)));(clear hb1);(have ra:RowC _ w.heap.size 36 [.bool s,.slice A n c,.slice D k e]:=(bg HG));(have rb:RowC _ (w.heap.size + 1) 36 [.bool t,.slice B n' c',.slice E k' e']:=(bg HG));(have rc:RowC _ (w.heap.size + 1 + 1) 36 [.bool false,.slice none 0 0,.slice none 0 0]:=(bg HG));(have rg:RowC _ g1 34 [.bool (isNeg z1),.slice Q1 (limbs z1.natAbs).length e1]:=(bg HG));(have rh:RowC _ g2 34 [.bool (isNeg z2),.slice Q2 (limbs z2.natAbs).length e2]:=(bg HG)))
      | ((go_at_call 35);(with_reducible refine (rfrac_den s A D n c k e ds _ (bg HG) a5 a6 (fits4 (by omega))).mono ?_);(rintro e w9 ⟨R2,d2,rfl,ho2,hb1⟩);(have hc2:=ho2.cap);(have HG:=(HG.step hb1).sl (ho2.sl (by omega)));(clear hb1);(have ra:RowC _ w.heap.size 36 [.bool s,.slice A n c,.slice D k e]:=(bg HG));(have rb:RowC _ (w.heap.size + 1) 36 [.bool t,.slice B n' c',.slice E k' e']:=(bg HG));(have rc:RowC _ (w.heap.size + 1 + 1) 36 [.bool false,.slice none 0 0,.slice none 0 0]:=(bg HG));(have rg:RowC _ g1 34 [.bool (isNeg z1),.slice Q1 (limbs z1.natAbs).length e1]:=(bg HG));(have rh:RowC _ g2 34 [.bool (isNeg z2),.slice Q2 (limbs z2.natAbs).length e2]:=(bg HG)))
      | ((go_at_call 35);(with_reducible refine (rfrac_den t B E n' c' k' e' es _ (bg HG) b5 b6 (fits4 (by omega))).mono ?_);(rintro e w9 ⟨R3,d3,rfl,ho3,hb1⟩);(have hc3:=ho3.cap);(have HG:=(HG.step hb1).sl (ho3.sl (by omega)));(clear hb1);(have ra:RowC _ w.heap.size 36 [.bool s,.slice A n c,.slice D k e]:=(bg HG));(have rb:RowC _ (w.heap.size + 1) 36 [.bool t,.slice B n' c',.slice E k' e']:=(bg HG));(have rc:RowC _ (w.heap.size + 1 + 1) 36 [.bool false,.slice none 0 0,.slice none 0 0]:=(bg HG));(have rg:RowC _ g1 34 [.bool (isNeg z1),.slice Q1 (limbs z1.natAbs).length e1]:=(bg HG));(have rh:RowC _ g2 34 [.bool (isNeg z2),.slice Q2 (limbs z2.natAbs).length e2]:=(bg HG)))
      | ((go_at_call 64);(with_reducible refine (rnat_mul R2 R3 _ d2 _ d3 (limbs (und (val ds))) (limbs (und (val es))) _ (bg HG) hc2 (limbs_L32 _) (bg HG) hc3 (limbs_L32 _) (fits4 (by omega))).mono ?_);(rintro e w9 ⟨R4,d4,rfl,ho4,hb1⟩);(rw [val_limbs,val_limbs] at ho4 ⊢);(have hc4:=ho4.cap);(have HG:=(HG.step hb1).sl (ho4.sl (by omega)));(clear hb1);(have ra:RowC _ w.heap.size 36 [.bool s,.slice A n c,.slice D k e]:=(bg HG));(have rb:RowC _ (w.heap.size + 1) 36 [.bool t,.slice B n' c',.slice E k' e']:=(bg HG));(have rc:RowC _ (w.heap.size + 1 + 1) 36 [.bool false,.slice none 0 0,.slice none 0 0]:=(bg HG));(have rg:RowC _ g1 34 [.bool (isNeg z1),.slice Q1 (limbs z1.natAbs).length e1]:=(bg HG));(have rh:RowC _ g2 34 [.bool (isNeg z2),.slice Q2 (limbs z2.natAbs).length e2]:=(bg HG)))
      | ((go_at_call 69);(refine (rfrac_lowest _ R1 R4 _ d1 _ d4 (limbs (z1 + z2).natAbs) (limbs (und (val ds) * und (val es))) _ (bg HG) hc1 (limbs_L32 _) (bg HG) hc4 (limbs_L32 _) (by omega) (by rw [val_limbs];exact hne)).mono ?_);(rintro e w9 ⟨R,cr,D9,dd9,rfl,ho,hd,hsep,hb1⟩);(rw [val_limbs,val_limbs,sgn_isNeg,HPQ.out] at ho hd ⊢);(have hlo:=rc.lt);(have HG:=HG.step hb1);(clear hb1);(have ra:RowC _ w.heap.size 36 [.bool s,.slice A n c,.slice D k e]:=(bg HG));(have rb:RowC _ (w.heap.size + 1) 36 [.bool t,.slice B n' c',.slice E k' e']:=(bg HG));(have rc:RowC _ (w.heap.size + 1 + 1) 36 [.bool false,.slice none 0 0,.slice none 0 0]:=(bg HG));(have rg:RowC _ g1 34 [.bool (isNeg z1),.slice Q1 (limbs z1.natAbs).length e1]:=(bg HG));(have rh:RowC _ g2 34 [.bool (isNeg z2),.slice Q2 (limbs z2.natAbs).length e2]:=(bg HG));(have t0:=rc.cell 0);(have t1:=rc.cell 1);(have t2:=rc.cell 2);(have f0:=rc.frozen 0);(have f1:=rc.frozen 1);(have f2:=rc.frozen 2)))
   all_goals (
    have hg:=rc.lt
    have hgl:=hlo
    have hq:=box3_fin (v0:=.bool (isNeg z.num)) (v1:=.slice R (limbs z.num.natAbs).length cr) (v2:=.slice D9 (limbs z.den).length dd9) (g:=w.heap.size + 1 + 1) (by omega) rc HG.bel (ho.mono (by omega)) (hd.mono (by omega))
    have c0:=hq.1.cell 0
    have c1:=hq.1.cell 1
    have c2':=hq.1.cell 2
    have HFF:=Lib.hid (And.intro hq hsep)
    clear hq hsep HG ho hd ra rb rc rg rh f0 f1 f2 t0 t1 t2
    go_wp2_with fail
    exact bodyPost_ret (v:=.agg #[.bool (isNeg z.num),.slice R (limbs z.num.natAbs).length cr,.slice D9 (limbs z.den).length dd9]) (by simp [results,Tryz.results70,go_sem,c0,c1,c2']) rfl ⟨R,cr,D9,dd9,rfl,HFF.out.1.2.1,HFF.out.1.2.2.1,HFF.out.2,HFF.out.1.2.2.2⟩)
end Go.Proofs.YtmncjibcoffmfaaGreat
/- The document's fractions: Sub, Div of what is not 0, walked. Conditions: the limbs read, within Go's bound together. Printed by wip/gen/rfrac.py. -/
namespace Go.Proofs.YtmncjibcoffmfaaGreat
open Go.RowKit

theorem box3_put {w w1:World} {g:Nat} {v0 v1 v2 u0 u1 u2:Value} (hg:w.heap.size≤g) (hbox:RowC w1 g 36 [u0,u1,u2]) (hbel:Below w.heap.size w w1) :
 RowC (((w1.setCell ⟨g,0,none⟩ v0).setCell ⟨g,1,none⟩ v1).setCell ⟨g,2,none⟩ v2) g 36 [v0,v1,v2]∧Below w.heap.size w (((w1.setCell ⟨g,0,none⟩ v0).setCell ⟨g,1,none⟩ v1).setCell ⟨g,2,none⟩ v2):=
 ⟨((hbox.put 0 _).put 1 _).put 2 _,((hbel.setCell (p:=⟨g,0,none⟩) hg _).setCell (p:=⟨g,1,none⟩) hg _).setCell (p:=⟨g,2,none⟩) hg _⟩
theorem box3_one {w w1:World} {g:Nat} {v0 v1 v2 u0 u1 u2:Value} {R:Option Addr} {L d:Nat} {l:List Nat} (hg:w.heap.size≤g) (hbox:RowC w1 g 36 [u0,u1,u2]) (hbel:Below w.heap.size w w1) (ho:OwnR eU w1 (g + 1) 54 R L d l) :
 RowC (((w1.setCell ⟨g,0,none⟩ v0).setCell ⟨g,1,none⟩ v1).setCell ⟨g,2,none⟩ v2) g 36 [v0,v1,v2]∧OwnR eU (((w1.setCell ⟨g,0,none⟩ v0).setCell ⟨g,1,none⟩ v1).setCell ⟨g,2,none⟩ v2) w.heap.size 54 R L d l ∧
  Below w.heap.size w (((w1.setCell ⟨g,0,none⟩ v0).setCell ⟨g,1,none⟩ v1).setCell ⟨g,2,none⟩ v2):=by
 have h:=box3_fin (v0:=v0) (v1:=v1) (v2:=v2) hg hbox hbel ho ho
 exact ⟨h.1,h.2.1,h.2.2.2⟩
set_option maxRecDepth 100000 in
set_option maxHeartbeats 4000000 in
theorem rfrac_sub (u v:Value) (p q:Rat) (K M:Nat) (w:World) (hu:RatAt w u p K) (hv:RatAt w v q M) (hb:K + M≤50000000000) :
 Calls Tryz.prog 38 #[u,v] w (RatPost (p - q) w):=by
 have hlen:=hv.len
 rw [← ratLen_neg] at hlen
 have hpq:p + -q=p - q:=(Rat.sub_eq_add_neg p q).symm
 obtain ⟨z,hz⟩:∃ z,z=p - q:=⟨_,rfl⟩
 rw [← hz] at hpq ⊢
 have HPQ:=Lib.hid hpq
 clear hz hpq
 obtain ⟨s,A,n,c,_,D,k,e,_,rfl,_⟩:=hu.ex
 obtain ⟨t,B,n',c',_,E,k',e',_,rfl,_⟩:=hv.ex
 have H1:=(Held.and (Q:=fun w=>RatAt w (.agg #[.bool t,.slice B n' c',.slice E k' e']) q M) (Held.and (Q:=fun w=>RatAt w (.agg #[.bool s,.slice A n c,.slice D k e]) p K) (Held.init w) hu) hv).new 36 [.bool s,.slice A n c,.slice D k e]
 have H2:=H1.new 36 [.bool t,.slice B n' c',.slice E k' e']
 rw [show (w.alloc (.cells [.bool s,.slice A n c,.slice D k e].toArray 36)).heap.size=w.heap.size + 1 from by simp] at H2
 have H:=H2.new 36 [.bool false,.slice none 0 0,.slice none 0 0]
 rw [show ((w.alloc (.cells [.bool s,.slice A n c,.slice D k e].toArray 36)).alloc (.cells [.bool t,.slice B n' c',.slice E k' e'].toArray 36)).heap.size=w.heap.size + 1 + 1 from by simp] at H
 clear H1 H2 hu hv
 obtain ⟨wq,hwq⟩:∃ wq:World,wq=((w.alloc (.cells #[.bool s,.slice A n c,.slice D k e] 36)).alloc (.cells #[.bool t,.slice B n' c',.slice E k' e'] 36)).alloc (.cells #[.bool false,.slice none 0 0,.slice none 0 0] 36):=⟨_,rfl⟩
 rw [← hwq] at H
 go_enter Tryz.func38,Tryz.ntmps38
 go_wp2_with fail
 rw [← hwq]
 clear hwq
 have HG:=H.drew
 clear H
 (have ra:RowC wq.drew w.heap.size 36 [.bool s,.slice A n c,.slice D k e]:=(bg HG));(have rb:RowC wq.drew (w.heap.size + 1) 36 [.bool t,.slice B n' c',.slice E k' e']:=(bg HG));(have rc:RowC wq.drew (w.heap.size + 1 + 1) 36 [.bool false,.slice none 0 0,.slice none 0 0]:=(bg HG))
 go_region_held3 (fun w'=>w'.cell? ⟨w.heap.size,0,none⟩=some (.bool s)∧w'.cell? ⟨w.heap.size,1,none⟩=some (.slice A n c)∧w'.cell? ⟨w.heap.size,2,none⟩=some (.slice D k e)∧w'.cell? ⟨w.heap.size + 1,0,none⟩=some (.bool t)∧w'.cell? ⟨w.heap.size + 1,1,none⟩=some (.slice B n' c')∧w'.cell? ⟨w.heap.size + 1,2,none⟩=some (.slice E k' e'))
  (first | exact ⟨ra.cell 0,ra.cell 1,ra.cell 2,rb.cell 0,rb.cell 1,rb.cell 2⟩ | assumption | exact ⟨(cell_farN (by omega)).trans ((cell_farN (by omega)).trans ((cell_farN (by omega)).trans (ra.cell 0))),(cell_farN (by omega)).trans ((cell_farN (by omega)).trans ((cell_farN (by omega)).trans (ra.cell 1))),(cell_farN (by omega)).trans ((cell_farN (by omega)).trans ((cell_farN (by omega)).trans (ra.cell 2))),(cell_farN (by omega)).trans ((cell_farN (by omega)).trans ((cell_farN (by omega)).trans (rb.cell 0))),(cell_farN (by omega)).trans ((cell_farN (by omega)).trans ((cell_farN (by omega)).trans (rb.cell 1))),(cell_farN (by omega)).trans ((cell_farN (by omega)).trans ((cell_farN (by omega)).trans (rb.cell 2)))⟩ | go_keep)
  (first
    | ((go_at_call 71);(with_reducible refine (rfrac_neg _ q M _ (bg HG) (by omega)).mono ?_);(intro e w9 hp);(obtain ⟨v1,rfl,hv1,hb1⟩:=hp.at (by omega));(have HG:=Held.and (Q:=fun w=>RatAt w v1 (-q) (ratLen (-q))) (HG.step hb1) hv1);(clear hb1 hv1 hp);(have ra:RowC _ w.heap.size 36 [.bool s,.slice A n c,.slice D k e]:=(bg HG));(have rb:RowC _ (w.heap.size + 1) 36 [.bool t,.slice B n' c',.slice E k' e']:=(bg HG));(have rc:RowC _ (w.heap.size + 1 + 1) 36 [.bool false,.slice none 0 0,.slice none 0 0]:=(bg HG)))
    | ((go_at_call 70);(refine (rfrac_add _ v1 p (-q) K (ratLen (-q)) _ (bg HG) (bg HG) (by omega)).mono ?_);(rintro e w9 ⟨R,cr,D9,dd9,rfl,ho,hd,hsep,hb1⟩);(rw [HPQ.out] at ho hd ⊢);(have hlo:=rc.lt);(have HG:=HG.step hb1);(clear hb1);(have ra:RowC _ w.heap.size 36 [.bool s,.slice A n c,.slice D k e]:=(bg HG));(have rb:RowC _ (w.heap.size + 1) 36 [.bool t,.slice B n' c',.slice E k' e']:=(bg HG));(have rc:RowC _ (w.heap.size + 1 + 1) 36 [.bool false,.slice none 0 0,.slice none 0 0]:=(bg HG));(have t0:=rc.cell 0);(have t1:=rc.cell 1);(have t2:=rc.cell 2);(have f0:=rc.frozen 0);(have f1:=rc.frozen 1);(have f2:=rc.frozen 2)))
 all_goals (
  have hg:=rc.lt
  have hgl:=hlo
  have hq:=box3_fin (v0:=.bool (isNeg z.num)) (v1:=.slice R (limbs z.num.natAbs).length cr) (v2:=.slice D9 (limbs z.den).length dd9) (g:=w.heap.size + 1 + 1) (by omega) rc HG.bel (ho.mono (by omega)) (hd.mono (by omega))
  have c0:=hq.1.cell 0
  have c1:=hq.1.cell 1
  have c2':=hq.1.cell 2
  have HFF:=Lib.hid (And.intro hq hsep)
  clear hq hsep HG ho hd ra rb rc f0 f1 f2 t0 t1 t2
  go_wp2_with fail
  exact bodyPost_ret (v:=.agg #[.bool (isNeg z.num),.slice R (limbs z.num.natAbs).length cr,.slice D9 (limbs z.den).length dd9]) (by simp [results,Tryz.results38,go_sem,c0,c1,c2']) rfl ⟨R,cr,D9,dd9,rfl,HFF.out.1.2.1,HFF.out.1.2.2.1,HFF.out.2,HFF.out.1.2.2.2⟩)
set_option maxRecDepth 100000 in
set_option maxHeartbeats 4000000 in
theorem rfrac_div (u v:Value) (p q:Rat) (K M:Nat) (w:World) (hu:RatAt w u p K) (hv:RatAt w v q M) (hb:K + M≤50000000000) (hq0:q ≠ 0) :
 Calls Tryz.prog 40 #[u,v] w (RatOkPost (p / q) w):=by
 have hu2:=hu
 have hsq:(sgnQ q == 0)=false:=by
  have h1:=sgnI_cases q.num
  have h2:q.num ≠ 0:=fun h=>hq0 (Rat.num_eq_zero.1 h)
  unfold sgnQ sgnI
  split <;> simp_all
 have hv2:=hv
 obtain ⟨s,A,n,c,xs,D,k,e,ds,rfl,a1,a2,a3,a4,a5,a6,rfl,a7⟩:=hu.ex
 obtain ⟨t,B,n',c',ys,E,k',e',es,rfl,b1,b2,b3,b4,b5,b6,rfl,b7⟩:=hv.ex
 clear hu hv
 have l1:=limbs_val_len a3
 have l3:=limbs_val_len a6
 rw [a1.len] at l1
 rw [a4.len] at l3
 have l6:=und_len (val ds)
 have l2:=limbs_val_len b3
 have l4:=limbs_val_len b6
 rw [b1.len] at l2
 rw [b4.len] at l4
 have l7:=und_len (val es)
 have hn:val ys ≠ 0:=fun h=>hq0 (ratR_zero.2 h)
 have hpq:ratR s (val xs) (val ds) * ratR t (val (limbs (und (val es)))) (val ys)=ratR s (val xs) (val ds) / ratR t (val ys) (val es):=by rw [val_limbs,← ratR_div s t _ _ _ _ hn,← ratR_mul,und_ne hn]
 have he:(limbs (und (val es))).length + n'≤M + 1:=by omega
 obtain ⟨z,hz⟩:∃ z,z=ratR s (val xs) (val ds) / ratR t (val ys) (val es):=⟨_,rfl⟩
 rw [← hz] at hpq ⊢
 have HPQ:=Lib.hid hpq
 have HUV:=Lib.hid (And.intro hu2 hv2)
 generalize hsg:sgnQ (ratR t (val ys) (val es))=sg at *
 have HSG:=Lib.hid hsg
 clear hz hpq hq0 hn hu2 hv2 hsg
 have H1:=(Held.and (Q:=fun w=>RatAt w (.agg #[.bool t,.slice B n' c',.slice E k' e']) (ratR t (val ys) (val es)) M) (Held.and (Q:=fun w=>RatAt w (.agg #[.bool s,.slice A n c,.slice D k e]) (ratR s (val xs) (val ds)) K) (((((Held.init w).sl a1).sl a4).sl b1).sl b4) HUV.out.1) HUV.out.2).new 36 [.bool s,.slice A n c,.slice D k e]
 have H2:=H1.new 36 [.bool t,.slice B n' c',.slice E k' e']
 rw [show (w.alloc (.cells [.bool s,.slice A n c,.slice D k e].toArray 36)).heap.size=w.heap.size + 1 from by simp] at H2
 have H:=H2.new 36 [.bool false,.slice none 0 0,.slice none 0 0]
 rw [show ((w.alloc (.cells [.bool s,.slice A n c,.slice D k e].toArray 36)).alloc (.cells [.bool t,.slice B n' c',.slice E k' e'].toArray 36)).heap.size=w.heap.size + 1 + 1 from by simp] at H
 clear H1 H2 a1 a4 b1 b4
 obtain ⟨wq,hwq⟩:∃ wq:World,wq=((w.alloc (.cells #[.bool s,.slice A n c,.slice D k e] 36)).alloc (.cells #[.bool t,.slice B n' c',.slice E k' e'] 36)).alloc (.cells #[.bool false,.slice none 0 0,.slice none 0 0] 36):=⟨_,rfl⟩
 rw [← hwq] at H
 have HG:=H
 clear H
 have ra:RowC wq w.heap.size 36 [.bool s,.slice A n c,.slice D k e]:=(bg HG)
 have rb:RowC wq (w.heap.size + 1) 36 [.bool t,.slice B n' c',.slice E k' e']:=(bg HG)
 have r0:=ra.cell 0
 have r1:=ra.cell 1
 have r2:=ra.cell 2
 have r3:=rb.cell 0
 have r4:=rb.cell 1
 have r5:=rb.cell 2
 go_enter Tryz.func40,Tryz.ntmps40
 go_wp2_with fail
 rw [← hwq]
 clear hwq
 refine (rfrac_sign _ _ M _ (show RatAt wq (.agg #[.bool t,.slice B n' c',.slice E k' e']) (ratR t (val ys) (val es)) M from (bg HG)) (by omega)).mono ?_
 rintro e w1 ⟨rfl,hb1⟩
 rw [HSG.out]
 have HQ:=HG.step hb1
 clear HG hb1 r0 r1 r2 r3 r4 r5 ra rb
 go_upto_region 3 with fail
 go_cut [6] from 11 to 20 (fun v wx=>∃ (g1:Nat) (Q1:Option Addr) (e1:Nat),v=.pointer (some ⟨g1,0,none⟩)∧w.heap.size + 1 + 1 < g1∧(limbs (und (val es))).length≤e1∧Below w.heap.size w wx∧RowC wx g1 36 [.bool t,.slice Q1 (limbs (und (val es))).length e1,.slice B n' c']∧Sl eU wx Q1 (limbs (und (val es))).length (limbs (und (val es)))∧RowC wx (w.heap.size + 1 + 1) 36 [.bool false,.slice none 0 0,.slice none 0 0]∧RowC wx (w.heap.size + 1) 36 [.bool t,.slice B n' c',.slice E k' e']∧RowC wx w.heap.size 36 [.bool s,.slice A n c,.slice D k e]∧RatAt wx (.agg #[.bool t,.slice B n' c',.slice E k' e']) (ratR t (val ys) (val es)) M∧RatAt wx (.agg #[.bool s,.slice A n c,.slice D k e]) (ratR s (val xs) (val ds)) K∧Sl eU wx E k' es∧Sl eU wx B n' ys∧Sl eU wx D k ds∧Sl eU wx A n xs)
 case first=>as_aux_lemma =>
  have HG:=HQ.drew
  (have ra:RowC w1.drew w.heap.size 36 [.bool s,.slice A n c,.slice D k e]:=(bg HG));(have rb:RowC w1.drew (w.heap.size + 1) 36 [.bool t,.slice B n' c',.slice E k' e']:=(bg HG));(have rc:RowC w1.drew (w.heap.size + 1 + 1) 36 [.bool false,.slice none 0 0,.slice none 0 0]:=(bg HG))
  refine wp_region_held_drew (S:=(fun w'=>w'.cell? ⟨w.heap.size,0,none⟩=some (.bool s)∧w'.cell? ⟨w.heap.size,1,none⟩=some (.slice A n c)∧w'.cell? ⟨w.heap.size,2,none⟩=some (.slice D k e)∧w'.cell? ⟨w.heap.size + 1,0,none⟩=some (.bool t)∧w'.cell? ⟨w.heap.size + 1,1,none⟩=some (.slice B n' c')∧w'.cell? ⟨w.heap.size + 1,2,none⟩=some (.slice E k' e'))) (by kernel_rfl) ?hS1 (fun hHeld=>?rest1)
  case hS1=>(first | exact ⟨ra.cell 0,ra.cell 1,ra.cell 2,rb.cell 0,rb.cell 1,rb.cell 2⟩ | assumption | go_keep)
  refine tk 0 rfl ?_
  try simp only [Act.put,sp]
  refine tk 1 rfl ?_
  try simp only [Act.put,sp]
  refine tk 2 rfl ?_
  try simp only [Act.put,sp]
  refine tk 3 rfl ?_
  try simp only [Act.put,sp]
  refine tk 6 rfl ?_
  try simp only [Act.put,sp]
  refine tk 7 rfl ?_
  try simp only [Act.put,sp]
  refine tk 8 rfl ?_
  try simp only [Act.put,sp]
  refine wpAnyH_ready (rs:=[4,10]) (by kernel_rfl) (by simp) (consM rfl (fun K hK=>?step10) (consL rfl (fun K hK=>?step11)))
  case step10 =>
   (go_simp;(refine (rfrac_den t B E n' c' k' e' es _ (bg HG) b5 b6 (fits4 (by omega))).mono ?_);(rintro e y0 ⟨R,d1,rfl,ho1,hb1⟩);(have hc1:=ho1.cap);(have HG:=(HG.step hb1).sl (ho1.sl (by omega)));(clear hb1);(have ra:RowC _ w.heap.size 36 [.bool s,.slice A n c,.slice D k e]:=(bg HG));(have rb:RowC _ (w.heap.size + 1) 36 [.bool t,.slice B n' c',.slice E k' e']:=(bg HG));(have rc:RowC _ (w.heap.size + 1 + 1) 36 [.bool false,.slice none 0 0,.slice none 0 0]:=(bg HG)))
   refine hK.out _ _ ?hS10 (fun hHeld=>?rest10)
   case hS10=>(first | exact ⟨ra.cell 0,ra.cell 1,ra.cell 2,rb.cell 0,rb.cell 1,rb.cell 2⟩ | assumption | go_keep)
   clear hK K
   try simp only [Act.put,sp]
   refine tk 5 rfl ?_
   try simp only [Act.put,sp]
   refine tk 9 rfl ?_
   try simp only [Act.put,sp]
   refine wpAnyH_ready (rs:=[10]) (by kernel_rfl) (by simp) (consL rfl (fun K hK=>?step14))
   (go_simp;(have hgw:=rc.lt);(have HI:=HG);(have HJ:=(Held.init y0).new 36 [.bool false,.slice none 0 0,.slice none 0 0]);(have HG:=HG.new 36 [.bool false,.slice none 0 0,.slice none 0 0]);(obtain ⟨g,hge⟩:∃ g,g=y0.heap.size:=⟨_,rfl⟩);(obtain ⟨ya,hya⟩:∃ y,y=y0.alloc (.cells #[.bool false,.slice none 0 0,.slice none 0 0] 36):=⟨_,rfl⟩);(rw [← hge] at HJ HG hgw ⊢);(rw [← hya] at HJ HG ⊢);(have HGE:=Lib.hid hge);(have hgl:=HJ.has.1.lt);(clear hge hya);(have ra:RowC _ w.heap.size 36 [.bool s,.slice A n c,.slice D k e]:=(bg HG));(have rb:RowC _ (w.heap.size + 1) 36 [.bool t,.slice B n' c',.slice E k' e']:=(bg HG));(have rc:RowC _ (w.heap.size + 1 + 1) 36 [.bool false,.slice none 0 0,.slice none 0 0]:=(bg HG)))
   refine hK.out _ _ ?hS14 (fun hHeld=>?rest14)
   case hS14=>(first | exact ⟨ra.cell 0,ra.cell 1,ra.cell 2,rb.cell 0,rb.cell 1,rb.cell 2⟩ | assumption | go_keep)
   clear hK K
   try simp only [Act.put,sp]
   refine wpAnyH_ready (rs:=[11]) (by kernel_rfl) (by simp) (consL rfl (fun K hK=>?step15))
   ((have t0:=HJ.has.1.cell 0);(have t1:=HJ.has.1.cell 1);(have t2:=HJ.has.1.cell 2);(have f0:=HJ.has.1.frozen 0);(have f1:=HJ.has.1.frozen 1);(have f2:=HJ.has.1.frozen 2);go_simp;(clear t0 t1 t2 f0 f1 f2);(obtain ⟨wz,hwz⟩:∃ wz,wz=(((ya.setCell ⟨g,0,none⟩ (.bool t)).setCell ⟨g,1,none⟩ (.slice R (limbs (und (val es))).length d1)).setCell ⟨g,2,none⟩ (.slice B n' c')):=⟨_,rfl⟩);(rw [← hwz]);(have hq:=box3_put (v0:=.bool t) (v1:=.slice R (limbs (und (val es))).length d1) (v2:=.slice B n' c') (Nat.le_of_eq HGE.out.symm) HJ.has.1 HJ.bel);(rw [← hwz] at hq);(have HF:=(HI.step hq.2).row hq.1);(clear hwz);(have ra:RowC wz w.heap.size 36 [.bool s,.slice A n c,.slice D k e]:=(bg HF));(have rb:RowC wz (w.heap.size + 1) 36 [.bool t,.slice B n' c',.slice E k' e']:=(bg HF)))
   refine hK.out _ _ ?hS15 (fun hHeld=>?rest15)
   case hS15=>(first | exact ⟨ra.cell 0,ra.cell 1,ra.cell 2,rb.cell 0,rb.cell 1,rb.cell 2⟩ | assumption | go_keep)
   clear hK K
   try simp only [Act.put,sp]
   refine wpAnyH_done (by kernel_rfl) ?_ _
   go_simp
   go_simp
   (try go_wp2_with fail)
   go_meet
   case rel=>exact ⟨g,R,d1,rfl,hgw,hc1,HF.bel,(bg HF),(bg HF),(bg HF),(bg HF),(bg HF),(bg HF),(bg HF),(bg HF),(bg HF),(bg HF),(bg HF)⟩
  case step11 =>
   (go_simp;(have hgw:w.heap.size + 1 + 1 < w1.heap.size:=rc.lt);(have HI:=HQ);(have HJ:=((Held.init w1).new 36 [.bool false,.slice none 0 0,.slice none 0 0]).drew);(have HG:=(HQ.new 36 [.bool false,.slice none 0 0,.slice none 0 0]).drew);(obtain ⟨g,hge⟩:∃ g,g=w1.heap.size:=⟨_,rfl⟩);(obtain ⟨ya,hya⟩:∃ y,y=(w1.alloc (.cells #[.bool false,.slice none 0 0,.slice none 0 0] 36)).drew:=⟨_,rfl⟩);(rw [← hge] at HJ HG hgw ⊢);(rw [← hya] at HJ HG ⊢);(have HGE:=Lib.hid hge);(have hgl:=HJ.has.1.lt);(clear hge hya);(have ra:RowC _ w.heap.size 36 [.bool s,.slice A n c,.slice D k e]:=(bg HG));(have rb:RowC _ (w.heap.size + 1) 36 [.bool t,.slice B n' c',.slice E k' e']:=(bg HG));(have rc:RowC _ (w.heap.size + 1 + 1) 36 [.bool false,.slice none 0 0,.slice none 0 0]:=(bg HG)))
   refine hK.out _ _ ?hS11 (fun hHeld=>?rest11)
   case hS11=>(first | exact ⟨ra.cell 0,ra.cell 1,ra.cell 2,rb.cell 0,rb.cell 1,rb.cell 2⟩ | assumption | go_keep)
   clear hK K
   try simp only [Act.put,sp]
   refine wpAnyH_ready (rs:=[4]) (by kernel_rfl) (by simp) (consL rfl (fun K hK=>?step16))
   (go_simp;(refine (rfrac_den t B E n' c' k' e' es _ (bg HG) b5 b6 (fits4 (by omega))).mono ?_);(rintro e y0 ⟨R,d1,rfl,ho1,hb1⟩);(have hc1:=ho1.cap);(have HG:=(HG.step hb1).sl (ho1.sl (by omega)));(have HJ:=HJ.step hb1);(have hgl:=HJ.has.1.lt);(clear hb1);(have ra:RowC _ w.heap.size 36 [.bool s,.slice A n c,.slice D k e]:=(bg HG));(have rb:RowC _ (w.heap.size + 1) 36 [.bool t,.slice B n' c',.slice E k' e']:=(bg HG));(have rc:RowC _ (w.heap.size + 1 + 1) 36 [.bool false,.slice none 0 0,.slice none 0 0]:=(bg HG)))
   refine hK.out _ _ ?hS16 (fun hHeld=>?rest16)
   case hS16=>(first | exact ⟨ra.cell 0,ra.cell 1,ra.cell 2,rb.cell 0,rb.cell 1,rb.cell 2⟩ | assumption | go_keep)
   clear hK K
   try simp only [Act.put,sp]
   refine tk 5 rfl ?_
   try simp only [Act.put,sp]
   refine tk 9 rfl ?_
   try simp only [Act.put,sp]
   refine wpAnyH_ready (rs:=[11]) (by kernel_rfl) (by simp) (consL rfl (fun K hK=>?step19))
   ((have t0:=HJ.has.1.cell 0);(have t1:=HJ.has.1.cell 1);(have t2:=HJ.has.1.cell 2);(have f0:=HJ.has.1.frozen 0);(have f1:=HJ.has.1.frozen 1);(have f2:=HJ.has.1.frozen 2);go_simp;(clear t0 t1 t2 f0 f1 f2);(obtain ⟨wz,hwz⟩:∃ wz,wz=(((y0.setCell ⟨g,0,none⟩ (.bool t)).setCell ⟨g,1,none⟩ (.slice R (limbs (und (val es))).length d1)).setCell ⟨g,2,none⟩ (.slice B n' c')):=⟨_,rfl⟩);(rw [← hwz]);(have hq:=box3_one (v0:=.bool t) (v1:=.slice R (limbs (und (val es))).length d1) (v2:=.slice B n' c') (Nat.le_of_eq HGE.out.symm) HJ.has.1 HJ.bel (ho1.mono (by omega)));(rw [← hwz] at hq);(have HF:=((HI.step hq.2.2).sl (hq.2.1.sl (by omega))).row hq.1);(clear hwz);(have ra:RowC wz w.heap.size 36 [.bool s,.slice A n c,.slice D k e]:=(bg HF));(have rb:RowC wz (w.heap.size + 1) 36 [.bool t,.slice B n' c',.slice E k' e']:=(bg HF)))
   refine hK.out _ _ ?hS19 (fun hHeld=>?rest19)
   case hS19=>(first | exact ⟨ra.cell 0,ra.cell 1,ra.cell 2,rb.cell 0,rb.cell 1,rb.cell 2⟩ | assumption | go_keep)
   clear hK K
   try simp only [Act.put,sp]
   refine wpAnyH_done (by kernel_rfl) ?_ _
   go_simp
   go_simp
   (try go_wp2_with fail)
   go_meet
   case rel=>exact ⟨g,R,d1,rfl,hgw,hc1,HF.bel,(bg HF),(bg HF),(bg HF),(bg HF),(bg HF),(bg HF),(bg HF),(bg HF),(bg HF),(bg HF),(bg HF)⟩
 case rest =>
  obtain ⟨g1,Q1,e1,rfl,hg1,he1,hbel1,k1,k2,k3,k4,k5,k6,k7,k8,k9,k10,k11⟩:=hcut
  clear HQ
  have HG:Held w (fun wx=>RowC wx g1 36 [.bool t,.slice Q1 (limbs (und (val es))).length e1,.slice B n' c']∧Sl eU wx Q1 (limbs (und (val es))).length (limbs (und (val es)))∧RowC wx (w.heap.size + 1 + 1) 36 [.bool false,.slice none 0 0,.slice none 0 0]∧RowC wx (w.heap.size + 1) 36 [.bool t,.slice B n' c',.slice E k' e']∧RowC wx w.heap.size 36 [.bool s,.slice A n c,.slice D k e]∧RatAt wx (.agg #[.bool t,.slice B n' c',.slice E k' e']) (ratR t (val ys) (val es)) M∧RatAt wx (.agg #[.bool s,.slice A n c,.slice D k e]) (ratR s (val xs) (val ds)) K∧Sl eU wx E k' es∧Sl eU wx B n' ys∧Sl eU wx D k ds∧Sl eU wx A n xs∧True) wc:=⟨hbel1,k1,k2,k3,k4,k5,k6,k7,k8,k9,k10,k11,trivial⟩
  have hov:RatAt wc (.agg #[.bool t,.slice Q1 (limbs (und (val es))).length e1,.slice B n' c']) (ratR t (val (limbs (und (val es)))) (val ys)) (M + 1):=⟨_,_,_,_,_,_,_,_,_,rfl,k2,he1,limbs_L32 _,(bg HG),b2,b3,rfl,he⟩
  have ra:RowC wc w.heap.size 36 [.bool s,.slice A n c,.slice D k e]:=(bg HG)
  have r0:=ra.cell 0
  have r1:=ra.cell 1
  have r2:=ra.cell 2
  have r3:=k1.cell 0
  have r4:=k1.cell 1
  have r5:=k1.cell 2
  have hm:=rfrac_mul _ _ _ _ K (M + 1) wc (show RatAt wc (.agg #[.bool s,.slice A n c,.slice D k e]) (ratR s (val xs) (val ds)) K from (bg HG)) hov (by omega)
  rw [HPQ.out] at hm
  clear hbel1 k1 k2 k3 k4 k5 k6 k7 k8 k9 k10 k11 hov ra
  go_wp2_with fail
  refine hm.mono ?_
  rintro e w9 ⟨R,cr,D9,dd9,rfl,ho,hd,hsep,hb1⟩
  have rc0:RowC wc (w.heap.size + 1 + 1) 36 [.bool false,.slice none 0 0,.slice none 0 0]:=(bg HG)
  have hlo:=rc0.lt
  have HG:=HG.step hb1
  have rc:=rc0.below' hb1
  have t0:=rc.cell 0
  have t1:=rc.cell 1
  have t2:=rc.cell 2
  have f0:=rc.frozen 0
  have f1:=rc.frozen 1
  have f2:=rc.frozen 2
  have hq:=box3_fin (v0:=.bool (isNeg z.num)) (v1:=.slice R (limbs z.num.natAbs).length cr) (v2:=.slice D9 (limbs z.den).length dd9) (g:=w.heap.size + 1 + 1) (by omega) rc HG.bel (ho.mono (by omega)) (hd.mono (by omega))
  have c0:=hq.1.cell 0
  have c1:=hq.1.cell 1
  have c2':=hq.1.cell 2
  have HFF:=Lib.hid (And.intro hq hsep)
  clear hq hsep HG ho hd rc rc0 hm r0 r1 r2 r3 r4 r5
  go_wp2_with fail
  exact bodyPost_ret (v:=.tuple #[.agg #[.bool (isNeg z.num),.slice R (limbs z.num.natAbs).length cr,.slice D9 (limbs z.den).length dd9],.int .i64 0]) (by simp [results,Tryz.results40,go_sem,c0,c1,c2']) rfl ⟨R,cr,D9,dd9,rfl,HFF.out.1.2.1,HFF.out.1.2.2.1,HFF.out.2,HFF.out.1.2.2.2⟩
end Go.Proofs.YtmncjibcoffmfaaGreat
