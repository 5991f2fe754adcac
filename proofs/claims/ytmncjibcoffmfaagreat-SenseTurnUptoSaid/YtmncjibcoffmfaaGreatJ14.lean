/- Joined by program out of: RIntB, RIntC, RIntD. What each says stands at its own head. -/
import Derived.Test.YtmncjibcoffmfaaGreatJ13
import Derived.Test.YtmncjibcoffmfaaGreatJ10
set_option linter.unusedVariables false
set_option linter.unusedSimpArgs false
/- The document's whole numbers: Mul, Add of one sign, walked. Conditions: the limbs read, within Go's bound together. -/
namespace Go.Proofs.YtmncjibcoffmfaaGreat
open Go.RowKit

set_option maxRecDepth 100000 in
set_option maxHeartbeats 800000 in
theorem rint_mul (s t:Bool) (A B:Option Addr) (n c m d:Nat) (xs ys:List Nat) (w:World) (h:Sl eU w A n xs) (hc:n≤c) (hl:L32 xs) (k:Sl eU w B m ys) (kc:m≤d) (kl:L32 ys) (hb:(n + m + 4) * 8≤140737488351232) :
 Calls Tryz.prog 33 #[.agg #[.bool s,.slice A n c],.agg #[.bool t,.slice B m d]] w (IntPost (sgn s (val xs) * sgn t (val ys)) w):=by
 have hzz:sgn (s != t) (val (limbs (val xs * val ys)))=sgn s (val xs) * sgn t (val ys):=by rw [val_limbs,sgn_mul]
 rw [← hzz]
 clear hzz
 have H1:=(((Held.init w).sl h).sl k).new 34 [.bool s,.slice A n c]
 have H2:=H1.new 34 [.bool t,.slice B m d]
 rw [show (w.alloc (.cells [.bool s,.slice A n c].toArray 34)).heap.size=w.heap.size + 1 from by simp] at H2
 have H3:=H2.new 34 [.bool false,.slice none 0 0]
 rw [show ((w.alloc (.cells [.bool s,.slice A n c].toArray 34)).alloc (.cells [.bool t,.slice B m d].toArray 34)).heap.size=w.heap.size + 1 + 1 from by simp] at H3
 clear H1 H2 h k
 obtain ⟨wq,hwq⟩:∃ wq:World,wq=((w.alloc (.cells #[.bool s,.slice A n c] 34)).alloc (.cells #[.bool t,.slice B m d] 34)).alloc (.cells #[.bool false,.slice none 0 0] 34):=⟨_,rfl⟩
 rw [← hwq] at H3
 have r0:=H3.has.2.2.1.cell 0
 have r1:=H3.has.2.2.1.cell 1
 have r2:=H3.has.2.1.cell 0
 have r3:=H3.has.2.1.cell 1
 have hsx:=H3.has.2.2.2.2.1.drewN 1
 have hsy:=H3.has.2.2.2.1.drewN 1
 have HH:=Lib.hid H3.drew
 have hlm:=limbs_mul_len (val xs) (val ys)
 have hl1:=limbs_val_len hl
 have hl2:=limbs_val_len kl
 rw [H3.has.2.2.2.2.1.len] at hl1
 rw [H3.has.2.2.2.1.len] at hl2
 have hln:(limbs (val xs * val ys)).length * 4≤140737488351232:=by omega
 clear H3 hlm hl1 hl2
 have q1:∀ (w':World) (o o':Nat) (u:Value),(w'.setCell ⟨w.heap.size + 1 + 1,o,none⟩ u).cell? ⟨w.heap.size,o',none⟩=w'.cell? ⟨w.heap.size,o',none⟩:=fun w' o o' u=>cell_farN (by omega)
 have q2:∀ (w':World) (o o':Nat) (u:Value),(w'.setCell ⟨w.heap.size + 1 + 1,o,none⟩ u).cell? ⟨w.heap.size + 1,o',none⟩=w'.cell? ⟨w.heap.size + 1,o',none⟩:=fun w' o o' u=>cell_farN (by omega)
 go_enter Tryz.func33,Tryz.ntmps33
 go_wp2_with fail
 rw [← hwq]
 clear hwq
 go_region_held3 (fun w'=>w'.cell? ⟨w.heap.size,0,none⟩=some (.bool s)∧w'.cell? ⟨w.heap.size,1,none⟩=some (.slice A n c)∧w'.cell? ⟨w.heap.size + 1,0,none⟩=some (.bool t)∧w'.cell? ⟨w.heap.size + 1,1,none⟩=some (.slice B m d))
  (first | exact ⟨r0,r1,r2,r3⟩ | assumption | go_keep | exact ⟨(q1 _ _ _ _).trans ((q1 _ _ _ _).trans r0),(q1 _ _ _ _).trans ((q1 _ _ _ _).trans r1),(q2 _ _ _ _).trans ((q2 _ _ _ _).trans r2),(q2 _ _ _ _).trans ((q2 _ _ _ _).trans r3)⟩)
  (first
    | ((go_at_call 64);(refine (rnat_mul A B n c m d xs ys _ hsx hc hl hsy kc kl (by omega)).mono ?_);(rintro e w1 ⟨R1,d1,rfl,ho1,hb1⟩);
       (have H5:=HH.out.step hb1);(have r0:=H5.has.2.2.1.cell 0);(have r1:=H5.has.2.2.1.cell 1);(have r2:=H5.has.2.1.cell 0);(have r3:=H5.has.2.1.cell 1);
       (have hs1:=ho1.sl (by omega));(have hcp:=ho1.cap))
    | ((go_at_call 63);(refine (rint_make (s != t) R1 (limbs (val xs * val ys)).length d1 (limbs (val xs * val ys)) _ hs1 hcp (limbs_L32 _) hln).mono ?_);(rintro e w2 ⟨R,dr,rfl,ho,hb2⟩);
       (have H6:=H5.step hb2);(have r0:=H6.has.2.2.1.cell 0);(have r1:=H6.has.2.2.1.cell 1);(have r2:=H6.has.2.1.cell 0);(have r3:=H6.has.2.1.cell 1);
       (have r4:=H6.has.1.cell 0);(have r5:=H6.has.1.cell 1);(have f4:=H6.has.1.frozen 0);(have f5:=H6.has.1.frozen 1)))
 all_goals
  generalize sgn (s != t) (val (limbs (val xs * val ys)))=z at *
  have hq:=box2_fin (v0:=.bool (isNeg z)) (v1:=.slice R (limbs z.natAbs).length dr) (by omega) H6.has.1 H6.bel (ho.mono (by have h2:=H5.has.1.lt;omega))
  generalize hL:(limbs z.natAbs).length=L at *
  have HL:=Lib.hid hL
  have c0:=hq.1.cell 0
  have c1:=hq.1.cell 1
  have HQ:=Lib.hid hq
  clear hq H6 H5 ho hb2 hb1 ho1 hL hs1 hcp hln r0 r1 r2 r3 r4 r5 f4 f5
  go_wp2_with fail
  exact bodyPost_ret (v:=.agg #[.bool (isNeg z),.slice R L dr]) (by simp [results,Tryz.results33,go_sem,c0,c1]) rfl ⟨R,dr,by rw [HL.out],by rw [HL.out];exact HQ.out.2.1,HQ.out.2.2⟩
set_option maxRecDepth 100000 in
set_option maxHeartbeats 800000 in
theorem rint_add_same (s:Bool) (A B:Option Addr) (n c m d:Nat) (xs ys:List Nat) (w:World) (h:Sl eU w A n xs) (hc:n≤c) (hl:L32 xs) (k:Sl eU w B m ys) (kc:m≤d) (kl:L32 ys) (hb:(n + m + 4) * 8≤140737488351232) :
 Calls Tryz.prog 100 #[.agg #[.bool s,.slice A n c],.agg #[.bool s,.slice B m d]] w (IntPost (sgn s (val xs + val ys)) w):=by
 have hzz:sgn s (val (limbs (val xs + val ys)))=sgn s (val xs + val ys):=by rw [val_limbs]
 rw [← hzz]
 clear hzz
 have H1:=(((Held.init w).sl h).sl k).new 34 [.bool s,.slice A n c]
 have H2:=H1.new 34 [.bool s,.slice B m d]
 rw [show (w.alloc (.cells [.bool s,.slice A n c].toArray 34)).heap.size=w.heap.size + 1 from by simp] at H2
 have H3:=H2.new 34 [.bool false,.slice none 0 0]
 rw [show ((w.alloc (.cells [.bool s,.slice A n c].toArray 34)).alloc (.cells [.bool s,.slice B m d].toArray 34)).heap.size=w.heap.size + 1 + 1 from by simp] at H3
 clear H1 H2 h k
 obtain ⟨wq,hwq⟩:∃ wq:World,wq=((w.alloc (.cells #[.bool s,.slice A n c] 34)).alloc (.cells #[.bool s,.slice B m d] 34)).alloc (.cells #[.bool false,.slice none 0 0] 34):=⟨_,rfl⟩
 rw [← hwq] at H3
 have r0:=H3.has.2.2.1.cell 0
 have r1:=H3.has.2.2.1.cell 1
 have r2:=H3.has.2.1.cell 0
 have r3:=H3.has.2.1.cell 1
 have hsx:=H3.has.2.2.2.2.1.drewN 1
 have hsy:=H3.has.2.2.2.1.drewN 1
 have HH:=Lib.hid H3.drew
 have hlm:=limbs_add_len (val xs) (val ys)
 have hl1:=limbs_val_len hl
 have hl2:=limbs_val_len kl
 rw [H3.has.2.2.2.2.1.len] at hl1
 rw [H3.has.2.2.2.1.len] at hl2
 have hln:(limbs (val xs + val ys)).length * 4≤140737488351232:=by omega
 clear H3 hlm hl1 hl2 hc kc
 have q1:∀ (w':World) (o o':Nat) (u:Value),(w'.setCell ⟨w.heap.size + 1 + 1,o,none⟩ u).cell? ⟨w.heap.size,o',none⟩=w'.cell? ⟨w.heap.size,o',none⟩:=fun w' o o' u=>cell_farN (by omega)
 have q2:∀ (w':World) (o o':Nat) (u:Value),(w'.setCell ⟨w.heap.size + 1 + 1,o,none⟩ u).cell? ⟨w.heap.size + 1,o',none⟩=w'.cell? ⟨w.heap.size + 1,o',none⟩:=fun w' o o' u=>cell_farN (by omega)
 go_enter Tryz.func100,Tryz.ntmps100
 go_wp2_with fail
 rw [← hwq]
 clear hwq
 go_region_held3 (fun w'=>w'.cell? ⟨w.heap.size,0,none⟩=some (.bool s)∧w'.cell? ⟨w.heap.size,1,none⟩=some (.slice A n c)∧w'.cell? ⟨w.heap.size + 1,0,none⟩=some (.bool s)∧w'.cell? ⟨w.heap.size + 1,1,none⟩=some (.slice B m d))
  (first | exact ⟨r0,r1,r2,r3⟩ | assumption | go_keep | exact ⟨(q1 _ _ _ _).trans ((q1 _ _ _ _).trans r0),(q1 _ _ _ _).trans ((q1 _ _ _ _).trans r1),(q2 _ _ _ _).trans ((q2 _ _ _ _).trans r2),(q2 _ _ _ _).trans ((q2 _ _ _ _).trans r3)⟩)
  (first
    | ((go_at_call 103);(refine (rnat_add A B n c m d xs ys _ hsx hl hsy kl hb).mono ?_);(rintro e w1 ⟨R1,d1,rfl,ho1,hb1⟩);
       (have H5:=HH.out.step hb1);(have r0:=H5.has.2.2.1.cell 0);(have r1:=H5.has.2.2.1.cell 1);(have r2:=H5.has.2.1.cell 0);(have r3:=H5.has.2.1.cell 1);
       (have hs1:=ho1.sl (by omega));(have hcp:=ho1.cap))
    | ((go_at_call 63);(refine (rint_make s R1 (limbs (val xs + val ys)).length d1 (limbs (val xs + val ys)) _ hs1 hcp (limbs_L32 _) hln).mono ?_);(rintro e w2 ⟨R,dr,rfl,ho,hb2⟩);
       (have H6:=H5.step hb2);(have r0:=H6.has.2.2.1.cell 0);(have r1:=H6.has.2.2.1.cell 1);(have r2:=H6.has.2.1.cell 0);(have r3:=H6.has.2.1.cell 1);
       (have r4:=H6.has.1.cell 0);(have r5:=H6.has.1.cell 1);(have f4:=H6.has.1.frozen 0);(have f5:=H6.has.1.frozen 1)))
 all_goals
  generalize sgn s (val (limbs (val xs + val ys)))=z at *
  have hq:=box2_fin (v0:=.bool (isNeg z)) (v1:=.slice R (limbs z.natAbs).length dr) (by omega) H6.has.1 H6.bel (ho.mono (by have h2:=H5.has.1.lt;omega))
  generalize hL:(limbs z.natAbs).length=L at *
  have HL:=Lib.hid hL
  have c0:=hq.1.cell 0
  have c1:=hq.1.cell 1
  have HQ:=Lib.hid hq
  clear hq H6 H5 ho hb2 hb1 ho1 hL hs1 hcp hln r0 r1 r2 r3 r4 r5 f4 f5
  go_wp2_with fail
  exact bodyPost_ret (v:=.agg #[.bool (isNeg z),.slice R L dr]) (by simp [results,Tryz.results100,go_sem,c0,c1]) rfl ⟨R,dr,by rw [HL.out],by rw [HL.out];exact HQ.out.2.1,HQ.out.2.2⟩
set_option maxRecDepth 100000 in
set_option maxHeartbeats 800000 in
theorem rint_add_diff (s t:Bool) (hst:¬ s=t) (A B:Option Addr) (n c m d:Nat) (xs ys:List Nat) (w:World) (h:Sl eU w A n xs) (hl:L32 xs) (k:Sl eU w B m ys) (kl:L32 ys) (hb:n + m≤1000000000000) :
 Calls Tryz.prog 100 #[.agg #[.bool s,.slice A n c],.agg #[.bool t,.slice B m d]] w (IntPost (sgn s (val xs) + sgn t (val ys)) w):=by
 have H1:=(((Held.init w).sl h).sl k).new 34 [.bool s,.slice A n c]
 have H2:=H1.new 34 [.bool t,.slice B m d]
 rw [show (w.alloc (.cells [.bool s,.slice A n c].toArray 34)).heap.size=w.heap.size + 1 from by simp] at H2
 have H3:=H2.new 34 [.bool false,.slice none 0 0]
 rw [show ((w.alloc (.cells [.bool s,.slice A n c].toArray 34)).alloc (.cells [.bool t,.slice B m d].toArray 34)).heap.size=w.heap.size + 1 + 1 from by simp] at H3
 have hl1:=limbs_val_len hl
 have hl2:=limbs_val_len kl
 rw [h.len] at hl1
 rw [k.len] at hl2
 clear H1 H2 h k
 have r0:=H3.has.2.2.1.cell 0
 have r1:=H3.has.2.2.1.cell 1
 have r2:=H3.has.2.1.cell 0
 have r3:=H3.has.2.1.cell 1
 have e1:(s == t)=false:=beq_eq_false_iff_ne.2 hst
 have e2:decide (s=t)=false:=decide_eq_false hst
 have HST:=Lib.hid hst
 clear hst
 go_enter Tryz.func100,Tryz.ntmps100
 go_wp2_with fail
 refine (rnat_sub A B n c m d xs ys _ H3.has.2.2.2.2.1 hl H3.has.2.2.2.1 kl (rfits8 (by omega))).mono ?_
 intro e w4 hp
 rcases hp with ⟨hlt,rfl,rfl⟩ | ⟨hge,R1,k1,rfl,o1,hb1⟩
 ·go_wp2_with fail
  refine (rnat_sub B A m d n c ys xs _ H3.has.2.2.2.1 kl H3.has.2.2.2.2.1 hl (rfits8 (by omega))).mono ?_
  intro e w5 hp
  rcases hp with ⟨hbad,_⟩ | ⟨_,R1,k1,rfl,o1,hb1⟩
  ·omega
  ·have H4:=H3.step hb1
   have hz:=sgn_add_lt HST.out hlt
   have HZZ:=Lib.hid hz
   have hls:=limbs_mono (show val ys - val xs≤val ys by omega)
   have s1:=o1.sl (by omega)
   have hcp:=o1.cap
   have r0:=H4.has.2.2.1.cell 0
   have r1:=H4.has.2.2.1.cell 1
   have r2:=H4.has.2.1.cell 0
   have r3:=H4.has.2.1.cell 1
   have hln:(limbs (val ys - val xs)).length * 4≤140737488351232:=by omega
   clear hz o1 hb1 H3
   go_wp2_with fail
   refine (rint_make t R1 (limbs (val ys - val xs)).length k1 (limbs (val ys - val xs)) _ s1 hcp (limbs_L32 _) hln).mono ?_
   rintro e w6 ⟨R,dr,rfl,ho,hb6⟩
   rw [val_limbs] at ho ⊢
   have H6:=H4.step hb6
   generalize sgn t (val ys - val xs)=z at *
   have hq:=box2_fin (v0:=.bool (isNeg z)) (v1:=.slice R (limbs z.natAbs).length dr) (by omega) H6.has.1 H6.bel (ho.mono (by have h2:=H4.has.1.lt;omega))
   generalize hL:(limbs z.natAbs).length=L at *
   have HL:=Lib.hid hL
   have r4:=H6.has.1.cell 0
   have r5:=H6.has.1.cell 1
   have f4:=H6.has.1.frozen 0
   have f5:=H6.has.1.frozen 1
   have c0:=hq.1.cell 0
   have c1:=hq.1.cell 1
   have HQ:=Lib.hid hq
   clear hq H6 H4 ho hb6 hL s1 hcp hln
   go_wp2_with fail
   exact bodyPost_ret (v:=.agg #[.bool (isNeg z),.slice R L dr]) (by simp [results,Tryz.results100,go_sem,c0,c1]) rfl ⟨R,dr,by rw [← HZZ.out,HL.out],by rw [← HZZ.out,HL.out];exact HQ.out.2.1,HQ.out.2.2⟩
 ·have H4:=H3.step hb1
  have hz:=sgn_add_ge HST.out hge
  have HZZ:=Lib.hid hz
  have hls:=limbs_mono (show val xs - val ys≤val xs by omega)
  have s1:=o1.sl (by omega)
  have hcp:=o1.cap
  have r0:=H4.has.2.2.1.cell 0
  have r1:=H4.has.2.2.1.cell 1
  have r2:=H4.has.2.1.cell 0
  have r3:=H4.has.2.1.cell 1
  have hln:(limbs (val xs - val ys)).length * 4≤140737488351232:=by omega
  clear hz o1 hb1 H3
  go_wp2_with fail
  refine (rint_make s R1 (limbs (val xs - val ys)).length k1 (limbs (val xs - val ys)) _ s1 hcp (limbs_L32 _) hln).mono ?_
  rintro e w6 ⟨R,dr,rfl,ho,hb6⟩
  rw [val_limbs] at ho ⊢
  have H6:=H4.step hb6
  generalize sgn s (val xs - val ys)=z at *
  have hq:=box2_fin (v0:=.bool (isNeg z)) (v1:=.slice R (limbs z.natAbs).length dr) (by omega) H6.has.1 H6.bel (ho.mono (by have h2:=H4.has.1.lt;omega))
  generalize hL:(limbs z.natAbs).length=L at *
  have HL:=Lib.hid hL
  have r4:=H6.has.1.cell 0
  have r5:=H6.has.1.cell 1
  have f4:=H6.has.1.frozen 0
  have f5:=H6.has.1.frozen 1
  have c0:=hq.1.cell 0
  have c1:=hq.1.cell 1
  have HQ:=Lib.hid hq
  clear hq H6 H4 ho hb6 hL s1 hcp hln
  go_wp2_with fail
  exact bodyPost_ret (v:=.agg #[.bool (isNeg z),.slice R L dr]) (by simp [results,Tryz.results100,go_sem,c0,c1]) rfl ⟨R,dr,by rw [← HZZ.out,HL.out],by rw [← HZZ.out,HL.out];exact HQ.out.2.1,HQ.out.2.2⟩
end Go.Proofs.YtmncjibcoffmfaaGreat
/- The document's whole numbers: Add, Sub, Cmp, walked. Conditions: the limbs read, within Go's bound together. -/
namespace Go.Proofs.YtmncjibcoffmfaaGreat
open Go.RowKit

theorem rint_add (s t:Bool) (A B:Option Addr) (n c m d:Nat) (xs ys:List Nat) (w:World) (h:Sl eU w A n xs) (hc:n≤c) (hl:L32 xs) (k:Sl eU w B m ys) (kc:m≤d) (kl:L32 ys) (hb:n + m≤1000000000000) :
 Calls Tryz.prog 100 #[.agg #[.bool s,.slice A n c],.agg #[.bool t,.slice B m d]] w (IntPost (sgn s (val xs) + sgn t (val ys)) w):=by
 by_cases hst:s=t
 ·subst hst
  rw [← sgn_add_same]
  exact rint_add_same s A B n c m d xs ys w h hc hl k kc kl (rfits8 (by omega))
 ·exact rint_add_diff s t hst A B n c m d xs ys w h hl k kl hb
set_option maxRecDepth 100000 in
set_option maxHeartbeats 800000 in
theorem rint_sub (s t:Bool) (A B:Option Addr) (n c m d:Nat) (xs ys:List Nat) (w:World) (h:Sl eU w A n xs) (hc:n≤c) (hl:L32 xs) (k:Sl eU w B m ys) (kc:m≤d) (kl:L32 ys) (hb:n + m≤1000000000000) :
 Calls Tryz.prog 62 #[.agg #[.bool s,.slice A n c],.agg #[.bool t,.slice B m d]] w (IntPost (sgn s (val xs) - sgn t (val ys)) w):=by
 obtain ⟨z1,hz1⟩:∃ z1,z1=sgn (!t) (val ys):=⟨_,rfl⟩
 have hzz:sgn s (val xs) + sgn (isNeg z1) (val (limbs z1.natAbs))=sgn s (val xs) - sgn t (val ys):=by rw [val_limbs,sgn_isNeg,hz1,sgn_not];omega
 rw [← hzz]
 have hl2:=limbs_val_len kl
 rw [k.len] at hl2
 have hla:z1.natAbs=val ys:=by rw [hz1,sgn_natAbs]
 have hlz:(limbs z1.natAbs).length≤m:=by rw [hla];exact hl2
 clear hzz hl2 hla
 have hneg:=fun w' h'=>rint_neg t B m d ys w' h' kc kl (by omega)
 rw [← hz1] at hneg
 have HNEG:=Lib.hid hneg
 clear hneg hz1
 have H1:=(((Held.init w).sl h).sl k).new 34 [.bool s,.slice A n c]
 have H2:=H1.new 34 [.bool t,.slice B m d]
 rw [show (w.alloc (.cells [.bool s,.slice A n c].toArray 34)).heap.size=w.heap.size + 1 from by simp] at H2
 have H3:=H2.new 34 [.bool false,.slice none 0 0]
 rw [show ((w.alloc (.cells [.bool s,.slice A n c].toArray 34)).alloc (.cells [.bool t,.slice B m d].toArray 34)).heap.size=w.heap.size + 1 + 1 from by simp] at H3
 clear H1 H2 h k
 obtain ⟨wq,hwq⟩:∃ wq:World,wq=((w.alloc (.cells #[.bool s,.slice A n c] 34)).alloc (.cells #[.bool t,.slice B m d] 34)).alloc (.cells #[.bool false,.slice none 0 0] 34):=⟨_,rfl⟩
 rw [← hwq] at H3
 have r0:=H3.has.2.2.1.cell 0
 have r1:=H3.has.2.2.1.cell 1
 have r2:=H3.has.2.1.cell 0
 have r3:=H3.has.2.1.cell 1
 have hsy:=H3.has.2.2.2.1.drewN 1
 have HH:=Lib.hid H3.drew
 clear H3
 have q1:∀ (w':World) (o o':Nat) (u:Value),(w'.setCell ⟨w.heap.size + 1 + 1,o,none⟩ u).cell? ⟨w.heap.size,o',none⟩=w'.cell? ⟨w.heap.size,o',none⟩:=fun w' o o' u=>cell_farN (by omega)
 have q2:∀ (w':World) (o o':Nat) (u:Value),(w'.setCell ⟨w.heap.size + 1 + 1,o,none⟩ u).cell? ⟨w.heap.size + 1,o',none⟩=w'.cell? ⟨w.heap.size + 1,o',none⟩:=fun w' o o' u=>cell_farN (by omega)
 go_enter Tryz.func62,Tryz.ntmps62
 go_wp2_with fail
 rw [← hwq]
 clear hwq
 go_region_held3 (fun w'=>w'.cell? ⟨w.heap.size,0,none⟩=some (.bool s)∧w'.cell? ⟨w.heap.size,1,none⟩=some (.slice A n c)∧w'.cell? ⟨w.heap.size + 1,0,none⟩=some (.bool t)∧w'.cell? ⟨w.heap.size + 1,1,none⟩=some (.slice B m d))
  (first | exact ⟨r0,r1,r2,r3⟩ | assumption | go_keep | exact ⟨(q1 _ _ _ _).trans ((q1 _ _ _ _).trans r0),(q1 _ _ _ _).trans ((q1 _ _ _ _).trans r1),(q2 _ _ _ _).trans ((q2 _ _ _ _).trans r2),(q2 _ _ _ _).trans ((q2 _ _ _ _).trans r3)⟩)
  (first
    | ((go_at_call 101);(refine (HNEG.out _ hsy).mono ?_);(rintro e w1 ⟨R1,d1,rfl,ho1,hb1⟩);
       (have H5:=HH.out.step hb1);(have r0:=H5.has.2.2.1.cell 0);(have r1:=H5.has.2.2.1.cell 1);(have r2:=H5.has.2.1.cell 0);(have r3:=H5.has.2.1.cell 1);
       (have hs1:=ho1.sl (by omega));(have hcp:=ho1.cap);(have hsx:=H5.has.2.2.2.2.1))
    | ((go_at_call 100);(refine (rint_add s (isNeg z1) A R1 n c (limbs z1.natAbs).length d1 xs (limbs z1.natAbs) _ hsx hc hl hs1 hcp (limbs_L32 _) (by omega)).mono ?_);(rintro e w2 ⟨R,dr,rfl,ho,hb2⟩);
       (have H6:=H5.step hb2);(have r0:=H6.has.2.2.1.cell 0);(have r1:=H6.has.2.2.1.cell 1);(have r2:=H6.has.2.1.cell 0);(have r3:=H6.has.2.1.cell 1);
       (have r4:=H6.has.1.cell 0);(have r5:=H6.has.1.cell 1);(have f4:=H6.has.1.frozen 0);(have f5:=H6.has.1.frozen 1)))
 all_goals
  generalize sgn s (val xs) + sgn (isNeg z1) (val (limbs z1.natAbs))=z at *
  have hq:=box2_fin (v0:=.bool (isNeg z)) (v1:=.slice R (limbs z.natAbs).length dr) (by omega) H6.has.1 H6.bel (ho.mono (by have h2:=H5.has.1.lt;omega))
  generalize hL:(limbs z.natAbs).length=L at *
  have HL:=Lib.hid hL
  have c0:=hq.1.cell 0
  have c1:=hq.1.cell 1
  have HQ:=Lib.hid hq
  clear hq H6 H5 ho hb2 hb1 ho1 hL hs1 hcp r0 r1 r2 r3 r4 r5 f4 f5
  go_wp2_with fail
  exact bodyPost_ret (v:=.agg #[.bool (isNeg z),.slice R L dr]) (by simp [results,Tryz.results62,go_sem,c0,c1]) rfl ⟨R,dr,by rw [HL.out],by rw [HL.out];exact HQ.out.2.1,HQ.out.2.2⟩
set_option maxRecDepth 100000 in
set_option maxHeartbeats 800000 in
theorem rint_cmp (s t:Bool) (A B:Option Addr) (n c m d:Nat) (xs ys:List Nat) (w:World) (h:Sl eU w A n xs) (hc:n≤c) (hl:L32 xs) (k:Sl eU w B m ys) (kc:m≤d) (kl:L32 ys) (hb:n + m≤1000000000000) :
 Calls Tryz.prog 32 #[.agg #[.bool s,.slice A n c],.agg #[.bool t,.slice B m d]] w fun e w'=>e=.returned (.int .i64 (cmpZ (sgn s (val xs)) (sgn t (val ys))))∧Below w.heap.size w w':=by
 have hl1:=limbs_val_len hl
 have hl2:=limbs_val_len kl
 rw [h.len] at hl1
 rw [k.len] at hl2
 have hlz:(limbs (sgn s (val xs) - sgn t (val ys)).natAbs).length≤n + m + 1:=by
  have h1:(sgn s (val xs) - sgn t (val ys)).natAbs≤val xs + val ys:=by
   have e1:=sgn_natAbs s (val xs)
   have e2:=sgn_natAbs t (val ys)
   omega
  have h2:=limbs_mono h1
  have h3:=limbs_add_len (val xs) (val ys)
  omega
 have H1:=(((Held.init w).sl h).sl k).new 34 [.bool s,.slice A n c]
 have H2:=H1.new 34 [.bool t,.slice B m d]
 rw [show (w.alloc (.cells [.bool s,.slice A n c].toArray 34)).heap.size=w.heap.size + 1 from by simp] at H2
 have r0:=H2.has.2.1.cell 0
 have r1:=H2.has.2.1.cell 1
 have r2:=H2.has.1.cell 0
 have r3:=H2.has.1.cell 1
 have HC:=Lib.hid (cmpZ_sub (sgn s (val xs)) (sgn t (val ys)))
 clear H1 h k hl1 hl2
 go_enter Tryz.func32,Tryz.ntmps32
 go_wp2_with fail
 refine (rint_sub s t A B n c m d xs ys _ H2.has.2.2.2.1 hc hl H2.has.2.2.1 kc kl hb).mono ?_
 rintro e w1 ⟨R,dr,rfl,ho,hb1⟩
 generalize hzv:sgn s (val xs) - sgn t (val ys)=z at *
 have HZ:=Lib.hid hzv
 have H3:=H2.step hb1
 have hs1:=ho.sl (by omega)
 have hcp:=ho.cap
 clear hzv ho hb1 H2 r0 r1 r2 r3
 go_wp2_with fail
 refine (rint_sign (isNeg z) R (limbs z.natAbs).length dr (limbs z.natAbs) _ hs1 hcp (limbs_L32 _) (by omega)).mono ?_
 rintro e w2 ⟨rfl,hb2⟩
 have HB:=Lib.hid (H3.step hb2).bel
 rw [val_limbs,sgn_isNeg]
 clear H3 hb2 hs1
 go_wp2_with fail
 go_ret
 exact ⟨by rw [HC.out];rfl,HB.out⟩
end Go.Proofs.YtmncjibcoffmfaaGreat
/- The document's whole numbers: Of, walked, of small naturals. Condition: below 2^32. -/
namespace Go.Proofs.YtmncjibcoffmfaaGreat
open Go.RowKit

set_option maxRecDepth 100000 in
set_option maxHeartbeats 400000 in
theorem rint_of (k:Nat) (w:World) (h:k < 4294967296):Calls Tryz.prog 68 #[.int .i64 (k:Int)] w (IntPost (k:Int) w):=by
 have H2:=(Held.init w).new 34 [.bool false,.slice none 0 0]
 have hk:(0:Int)≤(k:Nat):=by omega
 have hk2:(k:Int) < 4294967296:=by omega
 have hs:sgn false (val (limbs k))=(k:Int):=by rw [val_limbs];rfl
 have HS:=Lib.hid hs
 clear hs
 go_enter Tryz.func68,Tryz.ntmps68
 go_wp2_with fail
 refine (rnat_of k _ (by rw [bB_eq];omega)).mono ?_
 rintro e w1 ⟨R1,d1,rfl,ho1,hb1⟩
 have H3:=H2.step hb1
 have hlen:=limbs_len (n:=k) (k:=1) (by rw [Nat.pow_one,bB_eq];exact h)
 have hsl:=ho1.sl (by omega)
 have hcap:=ho1.cap
 clear H2 ho1 hb1
 go_wp2_with fail
 refine (rint_make false R1 (limbs k).length d1 (limbs k) _ hsl hcap (limbs_L32 k) (by omega)).mono ?_
 rintro e w2 ⟨R,d,rfl,ho,hb1⟩
 rw [HS.out] at ho ⊢
 have H4:=H3.step hb1
 have hq:=box2_fin (v0:=.bool (isNeg (k:Int))) (v1:=.slice R (limbs (k:Int).natAbs).length d) (by omega) H4.has.1 H4.bel (ho.mono (by have h2:=H3.has.1.lt;omega))
 have r0:=H4.has.1.cell 0
 have r1:=H4.has.1.cell 1
 have f0:=H4.has.1.frozen 0
 have f1:=H4.has.1.frozen 1
 have hn:isNeg (k:Int)=false:=by unfold isNeg;simp
 rw [hn] at hq ⊢
 generalize hL:(limbs (k:Int).natAbs).length=L at *
 have HL:=Lib.hid (And.intro hL hn)
 have c0:=hq.1.cell 0
 have c1:=hq.1.cell 1
 have HQ:=Lib.hid hq
 clear hq H4 H3 hsl ho hb1 hL hn hlen hcap
 go_wp2_with fail
 exact bodyPost_ret (v:=.agg #[.bool false,.slice R L d]) (by simp [results,Tryz.results68,go_sem,c0,c1]) rfl ⟨R,d,by rw [HL.out.1,HL.out.2],by rw [HL.out.1];exact HQ.out.2.1,HQ.out.2.2⟩
end Go.Proofs.YtmncjibcoffmfaaGreat
