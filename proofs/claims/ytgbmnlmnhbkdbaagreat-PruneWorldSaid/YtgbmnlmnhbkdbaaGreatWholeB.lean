/- whole.Mul, Add, Cmp, walked. Conditions: the limbs read, within Go's bound together. -/
import Derived.Test.YtgbmnlmnhbkdbaaGreatJ24
import Derived.Deep.RegionHeld3
import Derived.StillTailTactics
set_option linter.unusedVariables false
set_option linter.unusedSimpArgs false
namespace Go.Proofs.YtgbmnlmnhbkdbaaGreat
open Go.RowKit

theorem cell_farN {w:World} {g h o o':Nat} {u:Value} (hne:g ≠ h):(w.setCell ⟨h,o,none⟩ u).cell? ⟨g,o',none⟩=w.cell? ⟨g,o',none⟩:=by
 simp only [World.cell?,Below.heap_setCell w ⟨h,o,none⟩ u g hne]
theorem limbs_mul_len (a b:Nat):(limbs (a * b)).length≤(limbs a).length + (limbs b).length:=by
 refine limbs_len ?_
 rw [Nat.pow_add]
 exact Nat.mul_lt_mul'' (limbs_lt a) (limbs_lt b)
set_option maxRecDepth 100000 in
set_option maxHeartbeats 800000 in
theorem whole_mul (s t:Bool) (A B:Option Addr) (n c m d:Nat) (xs ys:List Nat) (w:World) (h:Sl eU w A n xs) (hc:n≤c) (hl:L32 xs) (k:Sl eU w B m ys) (kc:m≤d) (kl:L32 ys) (hb:(n + m + 4) * 8≤140737488351232) :
 Calls Tryz.prog 42 #[.agg #[.bool s,.slice A n c],.agg #[.bool t,.slice B m d]] w (IntPost (sgn s (val xs) * sgn t (val ys)) w):=by
 have hzz:sgn (s != t) (val (limbs (val xs * val ys)))=sgn s (val xs) * sgn t (val ys):=by rw [val_limbs,sgn_mul]
 rw [← hzz]
 clear hzz
 have H1:=(((Held.init w).sl h).sl k).new 36 [.bool s,.slice A n c]
 have H2:=H1.new 36 [.bool t,.slice B m d]
 rw [show (w.alloc (.cells [.bool s,.slice A n c].toArray 36)).heap.size=w.heap.size + 1 from by simp] at H2
 have H3:=H2.new 36 [.bool false,.slice none 0 0]
 rw [show ((w.alloc (.cells [.bool s,.slice A n c].toArray 36)).alloc (.cells [.bool t,.slice B m d].toArray 36)).heap.size=w.heap.size + 1 + 1 from by simp] at H3
 clear H1 H2 h k
 obtain ⟨wq,hwq⟩:∃ wq:World,wq=((w.alloc (.cells #[.bool s,.slice A n c] 36)).alloc (.cells #[.bool t,.slice B m d] 36)).alloc (.cells #[.bool false,.slice none 0 0] 36):=⟨_,rfl⟩
 rw [← hwq] at H3
 have r0:=H3.has.2.2.1.cell 0
 have r1:=H3.has.2.2.1.cell 1
 have r2:=H3.has.2.1.cell 0
 have r3:=H3.has.2.1.cell 1
 have hsx:=H3.has.2.2.2.2.1.drewN 1
 have hsy:=H3.has.2.2.2.1.drewN 1
 have HH:=Lib.hid H3.drew
 have hlm:=limbs_mul_len (val xs) (val ys)
 have hl1:=limbs_val_len hl
 have hl2:=limbs_val_len kl
 rw [H3.has.2.2.2.2.1.len] at hl1
 rw [H3.has.2.2.2.1.len] at hl2
 have hln:(limbs (val xs * val ys)).length * 4≤140737488351232:=by omega
 clear H3 hlm hl1 hl2
 have q1:∀ (w':World) (o o':Nat) (u:Value),(w'.setCell ⟨w.heap.size + 1 + 1,o,none⟩ u).cell? ⟨w.heap.size,o',none⟩=w'.cell? ⟨w.heap.size,o',none⟩:=fun w' o o' u=>cell_farN (by omega)
 have q2:∀ (w':World) (o o':Nat) (u:Value),(w'.setCell ⟨w.heap.size + 1 + 1,o,none⟩ u).cell? ⟨w.heap.size + 1,o',none⟩=w'.cell? ⟨w.heap.size + 1,o',none⟩:=fun w' o o' u=>cell_farN (by omega)
 go_enter Tryz.func42,Tryz.ntmps42
 go_wp2_with fail
 rw [← hwq]
 clear hwq
 go_region_held3 (fun w'=>w'.cell? ⟨w.heap.size,0,none⟩=some (.bool s)∧w'.cell? ⟨w.heap.size,1,none⟩=some (.slice A n c)∧w'.cell? ⟨w.heap.size + 1,0,none⟩=some (.bool t)∧w'.cell? ⟨w.heap.size + 1,1,none⟩=some (.slice B m d))
  (first | exact ⟨r0,r1,r2,r3⟩ | assumption | go_keep | exact ⟨(q1 _ _ _ _).trans ((q1 _ _ _ _).trans r0),(q1 _ _ _ _).trans ((q1 _ _ _ _).trans r1),(q2 _ _ _ _).trans ((q2 _ _ _ _).trans r2),(q2 _ _ _ _).trans ((q2 _ _ _ _).trans r3)⟩)
  (first
    | ((go_at_call 28);(refine (nat_mul A B n c m d xs ys _ hsx hc hl hsy kc kl (by omega)).mono ?_);(rintro e w1 ⟨R1,d1,rfl,ho1,hb1⟩);
       (have H5:=HH.out.step hb1);(have r0:=H5.has.2.2.1.cell 0);(have r1:=H5.has.2.2.1.cell 1);(have r2:=H5.has.2.1.cell 0);(have r3:=H5.has.2.1.cell 1);
       (have hs1:=ho1.sl (by omega));(have hcp:=ho1.cap))
    | ((go_at_call 39);(refine (whole_of (s != t) R1 (limbs (val xs * val ys)).length d1 (limbs (val xs * val ys)) _ hs1 hcp (limbs_L32 _) hln).mono ?_);(rintro e w2 ⟨R,dr,rfl,ho,hb2⟩);
       (have H6:=H5.step hb2);(have r0:=H6.has.2.2.1.cell 0);(have r1:=H6.has.2.2.1.cell 1);(have r2:=H6.has.2.1.cell 0);(have r3:=H6.has.2.1.cell 1);
       (have r4:=H6.has.1.cell 0);(have r5:=H6.has.1.cell 1);(have f4:=H6.has.1.frozen 0);(have f5:=H6.has.1.frozen 1)))
 all_goals
  generalize sgn (s != t) (val (limbs (val xs * val ys)))=z at *
  have hq:=box2_fin (v0:=.bool (isNeg z)) (v1:=.slice R (limbs z.natAbs).length dr) (by omega) H6.has.1 H6.bel (ho.mono (by have h2:=H5.has.1.lt;omega))
  generalize hL:(limbs z.natAbs).length=L at *
  have HL:=Lib.hid hL
  have c0:=hq.1.cell 0
  have c1:=hq.1.cell 1
  have HQ:=Lib.hid hq
  clear hq H6 H5 ho hb2 hb1 ho1 hL hs1 hcp hln r0 r1 r2 r3 r4 r5 f4 f5
  go_wp2_with fail
  exact bodyPost_ret (v:=.agg #[.bool (isNeg z),.slice R L dr]) (by simp [results,Tryz.results42,go_sem,c0,c1]) rfl ⟨R,dr,by rw [HL.out],by rw [HL.out];exact HQ.out.2.1,HQ.out.2.2⟩
theorem limbs_add_len (a b:Nat):(limbs (a + b)).length≤(limbs a).length + (limbs b).length + 1:=by
 refine limbs_len ?_
 have h1:=limbs_lt a
 have h2:=limbs_lt b
 have h3:bB ^ (limbs a).length≤bB ^ ((limbs a).length + (limbs b).length):=Nat.pow_le_pow_right bB_pos (by omega)
 have h4:bB ^ (limbs b).length≤bB ^ ((limbs a).length + (limbs b).length):=Nat.pow_le_pow_right bB_pos (by omega)
 rw [Nat.pow_succ]
 have h5:bB ^ ((limbs a).length + (limbs b).length) * 2≤bB ^ ((limbs a).length + (limbs b).length) * bB:=Nat.mul_le_mul_left _ (by rw [bB_eq];omega)
 omega
theorem sgn_add_same (s:Bool) (a b:Nat):sgn s (a + b)=sgn s a + sgn s b:=by unfold sgn;split <;> omega
theorem sgn_add_ge {s t:Bool} (h:¬ s=t) {a b:Nat} (hab:b≤a):sgn s (a - b)=sgn s a + sgn t b:=by
 unfold sgn
 cases s <;> cases t <;> simp at h ⊢ <;> omega
theorem sgn_add_lt {s t:Bool} (h:¬ s=t) {a b:Nat} (hab:a < b):sgn t (b - a)=sgn s a + sgn t b:=by
 unfold sgn
 cases s <;> cases t <;> simp at h ⊢ <;> omega
set_option maxRecDepth 100000 in
set_option maxHeartbeats 800000 in
theorem whole_add (s t:Bool) (A B:Option Addr) (n c m d:Nat) (xs ys:List Nat) (w:World) (h:Sl eU w A n xs) (hc:n≤c) (hl:L32 xs) (k:Sl eU w B m ys) (kc:m≤d) (kl:L32 ys) (hb:(n + m + 4) * 8≤140737488351232) :
 Calls Tryz.prog 31 #[.agg #[.bool s,.slice A n c],.agg #[.bool t,.slice B m d]] w (IntPost (sgn s (val xs) + sgn t (val ys)) w):=by
 have H1:=(((Held.init w).sl h).sl k).new 36 [.bool s,.slice A n c]
 have H2:=H1.new 36 [.bool t,.slice B m d]
 rw [show (w.alloc (.cells [.bool s,.slice A n c].toArray 36)).heap.size=w.heap.size + 1 from by simp] at H2
 have H3:=H2.new 36 [.bool false,.slice none 0 0]
 rw [show ((w.alloc (.cells [.bool s,.slice A n c].toArray 36)).alloc (.cells [.bool t,.slice B m d].toArray 36)).heap.size=w.heap.size + 1 + 1 from by simp] at H3
 clear H1 H2
 have r0:=H3.has.2.2.1.cell 0
 have r1:=H3.has.2.2.1.cell 1
 have r2:=H3.has.2.1.cell 0
 have r3:=H3.has.2.1.cell 1
 have hsx:=H3.has.2.2.2.2.1
 have hsy:=H3.has.2.2.2.1
 have hln:=limbs_add_len (val xs) (val ys)
 have hl1:=limbs_val_len hl
 have hl2:=limbs_val_len kl
 rw [h.len] at hl1
 rw [k.len] at hl2
 clear h k
 obtain ⟨z,hz⟩:∃ z,z=sgn s (val xs) + sgn t (val ys):=⟨_,rfl⟩
 rw [← hz]
 have HZ:=Lib.hid hz
 clear hz
 go_enter Tryz.func31,Tryz.ntmps31
 by_cases hst:s=t
 ·subst hst
  have hzz:sgn s (val (limbs (val xs + val ys)))=z:=by rw [val_limbs,sgn_add_same,HZ.out]
  have HZZ:=Lib.hid hzz
  have hss:(s == s)=true:=by simp
  clear hzz
  obtain ⟨wq,hwq⟩:∃ wq:World,wq=((w.alloc (.cells #[.bool s,.slice A n c] 36)).alloc (.cells #[.bool s,.slice B m d] 36)).alloc (.cells #[.bool false,.slice none 0 0] 36):=⟨_,rfl⟩
  rw [← hwq] at H3 hsx hsy r0 r1 r2 r3
  have q1:∀ (w':World) (o o':Nat) (u:Value),(w'.setCell ⟨w.heap.size + 1 + 1,o,none⟩ u).cell? ⟨w.heap.size,o',none⟩=w'.cell? ⟨w.heap.size,o',none⟩:=fun w' o o' u=>cell_farN (by omega)
  have q2:∀ (w':World) (o o':Nat) (u:Value),(w'.setCell ⟨w.heap.size + 1 + 1,o,none⟩ u).cell? ⟨w.heap.size + 1,o',none⟩=w'.cell? ⟨w.heap.size + 1,o',none⟩:=fun w' o o' u=>cell_farN (by omega)
  have hsx:=hsx.drewN 1
  have hsy:=hsy.drewN 1
  have HH:=Lib.hid H3.drew
  clear H3
  rw [hwq] at r0 r1 r2 r3
  go_wp2_with fail
  rw [← hwq] at r0 r1 r2 r3 ⊢
  clear hwq
  go_region_held3 (fun w'=>w'.cell? ⟨w.heap.size,0,none⟩=some (.bool s)∧w'.cell? ⟨w.heap.size,1,none⟩=some (.slice A n c)∧w'.cell? ⟨w.heap.size + 1,1,none⟩=some (.slice B m d))
   (first | exact ⟨r0,r1,r3⟩ | assumption | go_keep | exact ⟨(q1 _ _ _ _).trans ((q1 _ _ _ _).trans r0),(q1 _ _ _ _).trans ((q1 _ _ _ _).trans r1),(q2 _ _ _ _).trans ((q2 _ _ _ _).trans r3)⟩)
   (first
     | ((go_at_call 53);(refine (nat_add A B n c m d xs ys _ hsx hc hl hsy kc kl (by omega)).mono ?_);(rintro e w1 ⟨R1,d1,rfl,ho1,hb1⟩);
        (have HPREV:=HH.out.step hb1);(have r0:=HPREV.has.2.2.1.cell 0);(have r1:=HPREV.has.2.2.1.cell 1);(have r3:=HPREV.has.2.1.cell 1);
        (have hs1:=ho1.sl (by omega));(have hcp:=ho1.cap))
     | ((go_at_call 39);(refine (whole_of s R1 (limbs (val xs + val ys)).length d1 (limbs (val xs + val ys)) _ hs1 hcp (limbs_L32 _) (by omega)).mono ?_);(rintro e w2 ⟨R,dr,rfl,ho,hb2⟩);
        (have H6:=HPREV.step hb2);(have r0:=H6.has.2.2.1.cell 0);(have r1:=H6.has.2.2.1.cell 1);(have r3:=H6.has.2.1.cell 1);
        (have r4:=H6.has.1.cell 0);(have r5:=H6.has.1.cell 1);(have f4:=H6.has.1.frozen 0);(have f5:=H6.has.1.frozen 1)))
  all_goals
   rw [HZZ.out] at ho ⊢
   have hq:=box2_fin (v0:=.bool (isNeg z)) (v1:=.slice R (limbs z.natAbs).length dr) (by omega) H6.has.1 H6.bel (ho.mono (by have h2:=HPREV.has.1.lt;omega))
   generalize hL:(limbs z.natAbs).length=L at *
   have HL:=Lib.hid hL
   have c0:=hq.1.cell 0
   have c1:=hq.1.cell 1
   have HQ:=Lib.hid hq
   clear hq H6 HPREV ho hb2 hb1 ho1 hL hs1 hcp r0 r1 r2 r3 r4 r5 f4 f5
   go_wp2_with fail
   exact bodyPost_ret (v:=.agg #[.bool (isNeg z),.slice R L dr]) (by simp [results,Tryz.results31,go_sem,c0,c1]) rfl ⟨R,dr,by rw [HL.out],by rw [HL.out];exact HQ.out.2.1,HQ.out.2.2⟩
 ·have hne:(s == t)=false:=by simpa using hst
  have hne2:¬ (s=true ↔ t=true):=by cases s <;> cases t <;> simp at hst ⊢
  go_wp2_with fail
  refine (nat_sub A B n c m d xs ys _ hsx hc hl hsy kc kl (by omega)).mono ?_
  rintro e w1 ⟨R1,d1,rfl,ho1,hb1⟩
  have HPREV:=H3.step hb1
  rcases Nat.lt_or_ge (val xs) (val ys) with hab | hab
  ·rw [show decide (val ys≤val xs)=false by simp;omega]
   have hzz:sgn t (val (limbs (val ys - val xs)))=z:=by rw [val_limbs,sgn_add_lt hst hab,HZ.out]
   have HZZ:=Lib.hid hzz
   have hlm:=limbs_mono (show val ys - val xs≤val ys by omega)
   have r0:=HPREV.has.2.2.1.cell 0
   have r1:=HPREV.has.2.2.1.cell 1
   have r2:=HPREV.has.2.1.cell 0
   have r3:=HPREV.has.2.1.cell 1
   have hsx:=HPREV.has.2.2.2.2.1
   have hsy:=HPREV.has.2.2.2.1
   clear hzz H3 ho1 hb1
   go_wp2_with fail
   refine (nat_sub B A m d n c ys xs _ hsy kc kl hsx hc hl (by omega)).mono ?_
   rintro e w2 ⟨R2,d2,rfl,ho1,hb1⟩
   rw [show decide (val xs≤val ys)=true by simp;omega]
   have H4:=HPREV.step hb1
   have hs1:=ho1.sl (by omega)
   have hcp:=ho1.cap
   have r2:=H4.has.2.1.cell 0
   clear HPREV ho1 hb1 r0 r1 r3 hsx hsy
   go_wp2_with fail
   refine (whole_of t R2 (limbs (val ys - val xs)).length d2 (limbs (val ys - val xs)) _ hs1 hcp (limbs_L32 _) (by omega)).mono ?_
   rintro e w3 ⟨R,dr,rfl,ho,hb2⟩
   have H6:=H4.step hb2
   have HPREV:=H4
   clear hb2 hs1 hcp H4
   rw [HZZ.out] at ho ⊢
   have hq:=box2_fin (v0:=.bool (isNeg z)) (v1:=.slice R (limbs z.natAbs).length dr) (by omega) H6.has.1 H6.bel (ho.mono (by have h2:=HPREV.has.1.lt;omega))
   have r0:=H6.has.1.cell 0
   have r1:=H6.has.1.cell 1
   have f0:=H6.has.1.frozen 0
   have f1:=H6.has.1.frozen 1
   generalize hL:(limbs z.natAbs).length=L at *
   have HL:=Lib.hid hL
   have c0:=hq.1.cell 0
   have c1:=hq.1.cell 1
   have HQ:=Lib.hid hq
   clear hq H6 HPREV ho hL
   go_wp2_with fail
   exact bodyPost_ret (v:=.agg #[.bool (isNeg z),.slice R L dr]) (by simp [results,Tryz.results31,go_sem,c0,c1]) rfl ⟨R,dr,by rw [HL.out],by rw [HL.out];exact HQ.out.2.1,HQ.out.2.2⟩
  ·rw [show decide (val ys≤val xs)=true by simp;omega]
   have hzz:sgn s (val (limbs (val xs - val ys)))=z:=by rw [val_limbs,sgn_add_ge hst hab,HZ.out]
   have HZZ:=Lib.hid hzz
   have hlm:=limbs_mono (show val xs - val ys≤val xs by omega)
   have r0:=HPREV.has.2.2.1.cell 0
   have hs1:=ho1.sl (by omega)
   have hcp:=ho1.cap
   clear hzz H3 ho1 hb1 r1 r2 r3 hsx hsy
   go_wp2_with fail
   refine (whole_of s R1 (limbs (val xs - val ys)).length d1 (limbs (val xs - val ys)) _ hs1 hcp (limbs_L32 _) (by omega)).mono ?_
   rintro e w3 ⟨R,dr,rfl,ho,hb2⟩
   have H6:=HPREV.step hb2
   clear hb2 hs1 hcp
   rw [HZZ.out] at ho ⊢
   have hq:=box2_fin (v0:=.bool (isNeg z)) (v1:=.slice R (limbs z.natAbs).length dr) (by omega) H6.has.1 H6.bel (ho.mono (by have h2:=HPREV.has.1.lt;omega))
   have r0:=H6.has.1.cell 0
   have r1:=H6.has.1.cell 1
   have f0:=H6.has.1.frozen 0
   have f1:=H6.has.1.frozen 1
   generalize hL:(limbs z.natAbs).length=L at *
   have HL:=Lib.hid hL
   have c0:=hq.1.cell 0
   have c1:=hq.1.cell 1
   have HQ:=Lib.hid hq
   clear hq H6 HPREV ho hL
   go_wp2_with fail
   exact bodyPost_ret (v:=.agg #[.bool (isNeg z),.slice R L dr]) (by simp [results,Tryz.results31,go_sem,c0,c1]) rfl ⟨R,dr,by rw [HL.out],by rw [HL.out];exact HQ.out.2.1,HQ.out.2.2⟩
end Go.Proofs.YtgbmnlmnhbkdbaaGreat
