/- Joined by program out of: FracH, Raw, RawSum, NetOne. What each says stands at its own head. -/
import Derived.Test.YtmncjibcoffmfaaGreatFracG
import Derived.Test.YtmncjibcoffmfaaGreatJ16
import Derived.Test.YtmncjibcoffmfaaGreatJ3
set_option linter.unusedVariables false
set_option linter.unusedSimpArgs false
/- frac.Neg, frac.Div of what is not 0, walked. Conditions: the limbs read, within Go's bound together. Printed by wip/gen/fdiv.py. -/
namespace Go.Proofs.YtmncjibcoffmfaaGreat
open Go.RowKit

set_option maxRecDepth 100000 in
set_option maxHeartbeats 4000000 in
theorem frac_neg (u:Value) (p:Rat) (K:Nat) (w:World) (hu:RatAt w u p K) (hb:K≤200000000000) :
 Calls Tryz.prog 52 #[u] w (RatPost (-p) w):=by
 obtain ⟨s,A,n,c,xs,D,k,e,ds,rfl,a1,a2,a3,a4,a5,a6,rfl,a7⟩:=hu.ex
 clear hu
 have l1:=limbs_val_len a3
 have l3:=limbs_val_len a6
 rw [a1.len] at l1
 rw [a4.len] at l3
 have l6:=und_len (val ds)
 have hpq:mkRat (sgn (!s) (val xs)) (und (val ds))=-ratR s (val xs) (val ds):=ratR_neg s (val xs) (val ds)
 have hne:und (val ds) ≠ 0:=und_pos _
 obtain ⟨z,hz⟩:∃ z,z=-ratR s (val xs) (val ds):=⟨_,rfl⟩
 rw [← hz] at hpq ⊢
 have HPQ:=Lib.hid hpq
 clear hz hpq
 have H1:=(((Held.init w).sl a1).sl a4).new 36 [.bool s,.slice A n c,.slice D k e]
 have H:=H1.new 36 [.bool false,.slice none 0 0,.slice none 0 0]
 rw [show (w.alloc (.cells [.bool s,.slice A n c,.slice D k e].toArray 36)).heap.size=w.heap.size + 1 from by simp] at H
 clear H1 a1 a4
 obtain ⟨wq,hwq⟩:∃ wq:World,wq=(w.alloc (.cells #[.bool s,.slice A n c,.slice D k e] 36)).alloc (.cells #[.bool false,.slice none 0 0,.slice none 0 0] 36):=⟨_,rfl⟩
 rw [← hwq] at H
 go_enter Tryz.func52,Tryz.ntmps52
 go_wp2_with fail
 rw [← hwq]
 clear hwq
 have HG:=H.drew
 clear H
 (have ra:RowC wq.drew w.heap.size 36 [.bool s,.slice A n c,.slice D k e]:=(bg HG));(have rc:RowC wq.drew (w.heap.size + 1) 36 [.bool false,.slice none 0 0,.slice none 0 0]:=(bg HG))
 go_region_held3 (fun w'=>w'.cell? ⟨w.heap.size,0,none⟩=some (.bool s)∧w'.cell? ⟨w.heap.size,1,none⟩=some (.slice A n c)∧w'.cell? ⟨w.heap.size,2,none⟩=some (.slice D k e))
  (first | exact ⟨ra.cell 0,ra.cell 1,ra.cell 2⟩ | assumption | exact ⟨(cell_farN (by omega)).trans ((cell_farN (by omega)).trans ((cell_farN (by omega)).trans (ra.cell 0))),(cell_farN (by omega)).trans ((cell_farN (by omega)).trans ((cell_farN (by omega)).trans (ra.cell 1))),(cell_farN (by omega)).trans ((cell_farN (by omega)).trans ((cell_farN (by omega)).trans (ra.cell 2)))⟩ | go_keep)
  (first
    | ((go_at_call 45);(with_reducible refine (frac_under s A D n c k e ds _ (bg HG) a5 a6 (fits4 (by omega))).mono ?_);(rintro e w9 ⟨R2,d2,rfl,ho2,hb1⟩);(have hc2:=ho2.cap);(have HG:=(HG.step hb1).sl (ho2.sl (by omega)));(clear hb1);(have ra:RowC _ w.heap.size 36 [.bool s,.slice A n c,.slice D k e]:=(bg HG));(have rc:RowC _ (w.heap.size + 1) 36 [.bool false,.slice none 0 0,.slice none 0 0]:=(bg HG)))
    | ((go_at_call 47);(refine (frac_lowest (!s) A R2 n c _ d2 xs (limbs (und (val ds))) _ (bg HG) a2 a3 (bg HG) hc2 (limbs_L32 _) (fits8 (by omega)) (by rw [val_limbs];exact hne)).mono ?_);(rintro e w9 ⟨R,cr,D9,dd9,rfl,ho,hd,hsep,hb1⟩);(rw [val_limbs,HPQ.out] at ho hd ⊢);(have hlo:=rc.lt);(have HG:=HG.step hb1);(clear hb1);(have ra:RowC _ w.heap.size 36 [.bool s,.slice A n c,.slice D k e]:=(bg HG));(have rc:RowC _ (w.heap.size + 1) 36 [.bool false,.slice none 0 0,.slice none 0 0]:=(bg HG));(have t0:=rc.cell 0);(have t1:=rc.cell 1);(have t2:=rc.cell 2);(have f0:=rc.frozen 0);(have f1:=rc.frozen 1);(have f2:=rc.frozen 2)))
 all_goals (
  have hg:=rc.lt
  have hgl:=hlo
  have hq:=box3_fin (v0:=.bool (isNeg z.num)) (v1:=.slice R (limbs z.num.natAbs).length cr) (v2:=.slice D9 (limbs z.den).length dd9) (g:=w.heap.size + 1) (by omega) rc HG.bel (ho.mono (by omega)) (hd.mono (by omega))
  have c0:=hq.1.cell 0
  have c1:=hq.1.cell 1
  have c2':=hq.1.cell 2
  have HFF:=Lib.hid (And.intro hq hsep)
  clear hq hsep HG ho hd ra rc f0 f1 f2 t0 t1 t2
  go_wp2_with fail
  exact bodyPost_ret (v:=.agg #[.bool (isNeg z.num),.slice R (limbs z.num.natAbs).length cr,.slice D9 (limbs z.den).length dd9]) (by simp [results,Tryz.results52,go_sem,c0,c1,c2']) rfl ⟨R,cr,D9,dd9,rfl,HFF.out.1.2.1,HFF.out.1.2.2.1,HFF.out.2,HFF.out.1.2.2.2⟩)
set_option maxRecDepth 100000 in
set_option maxHeartbeats 4000000 in
theorem frac_div (u v:Value) (p q:Rat) (K M:Nat) (w:World) (hu:RatAt w u p K) (hv:RatAt w v q M) (hb:K + M≤100000000000) (hq0:q ≠ 0) :
 Calls Tryz.prog 53 #[u,v] w (RatOkPost (p / q) w):=by
 have hsq:(sgnQ q == 0)=false:=by
  have h1:=sgnI_cases q.num
  have h2:q.num ≠ 0:=fun h=>hq0 (Rat.num_eq_zero.1 h)
  unfold sgnQ sgnI
  split <;> simp_all
 have hv2:=hv
 obtain ⟨s,A,n,c,xs,D,k,e,ds,rfl,a1,a2,a3,a4,a5,a6,rfl,a7⟩:=hu.ex
 obtain ⟨t,B,n',c',ys,E,k',e',es,rfl,b1,b2,b3,b4,b5,b6,rfl,b7⟩:=hv.ex
 clear hu hv
 have l1:=limbs_val_len a3
 have l3:=limbs_val_len a6
 rw [a1.len] at l1
 rw [a4.len] at l3
 have l6:=und_len (val ds)
 have l2:=limbs_val_len b3
 have l4:=limbs_val_len b6
 rw [b1.len] at l2
 rw [b4.len] at l4
 have l7:=und_len (val es)
 have hn:val ys ≠ 0:=fun h=>hq0 (ratR_zero.2 h)
 have hpq:=ratR_div s t (val xs) (val ys) (val ds) (val es) hn
 have hne:und (val ds) * val ys ≠ 0:=Nat.mul_ne_zero (und_pos _) hn
 have l8:=limbs_mul_len (val xs) (und (val es))
 have l9:=limbs_mul_len (und (val ds)) (val ys)
 obtain ⟨z,hz⟩:∃ z,z=ratR s (val xs) (val ds) / ratR t (val ys) (val es):=⟨_,rfl⟩
 rw [← hz] at hpq ⊢
 have HPQ:=Lib.hid hpq
 have HUV:=Lib.hid hv2
 generalize hsg:sgnQ (ratR t (val ys) (val es))=sg at *
 have HSG:=Lib.hid hsg
 clear hz hpq hq0 hv2 hsg
 have H1:=(Held.and (Q:=fun w=>RatAt w (.agg #[.bool t,.slice B n' c',.slice E k' e']) (ratR t (val ys) (val es)) M) (((((Held.init w).sl a1).sl a4).sl b1).sl b4) HUV.out).new 36 [.bool s,.slice A n c,.slice D k e]
 have H2:=H1.new 36 [.bool t,.slice B n' c',.slice E k' e']
 rw [show (w.alloc (.cells [.bool s,.slice A n c,.slice D k e].toArray 36)).heap.size=w.heap.size + 1 from by simp] at H2
 have H:=H2.new 36 [.bool false,.slice none 0 0,.slice none 0 0]
 rw [show ((w.alloc (.cells [.bool s,.slice A n c,.slice D k e].toArray 36)).alloc (.cells [.bool t,.slice B n' c',.slice E k' e'].toArray 36)).heap.size=w.heap.size + 1 + 1 from by simp] at H
 clear H1 H2 a1 a4 b1 b4
 obtain ⟨wq,hwq⟩:∃ wq:World,wq=((w.alloc (.cells #[.bool s,.slice A n c,.slice D k e] 36)).alloc (.cells #[.bool t,.slice B n' c',.slice E k' e'] 36)).alloc (.cells #[.bool false,.slice none 0 0,.slice none 0 0] 36):=⟨_,rfl⟩
 rw [← hwq] at H
 have HG:=H
 clear H
 have rb:RowC wq (w.heap.size + 1) 36 [.bool t,.slice B n' c',.slice E k' e']:=(bg HG)
 have r3:=rb.cell 0
 have r4:=rb.cell 1
 have r5:=rb.cell 2
 go_enter Tryz.func53,Tryz.ntmps53
 go_wp2_with fail
 rw [← hwq]
 clear hwq
 refine (frac_sign _ _ M _ (show RatAt wq (.agg #[.bool t,.slice B n' c',.slice E k' e']) (ratR t (val ys) (val es)) M from (bg HG))).mono ?_
 rintro e w1 ⟨rfl,hb1⟩
 rw [HSG.out]
 have HQ:=HG.step hb1
 clear HG hb1 r3 r4 r5 rb
 go_upto_region 3 with fail
 have HG:=HQ.drew
 (have ra:RowC w1.drew w.heap.size 36 [.bool s,.slice A n c,.slice D k e]:=(bg HG));(have rb:RowC w1.drew (w.heap.size + 1) 36 [.bool t,.slice B n' c',.slice E k' e']:=(bg HG));(have rc:RowC w1.drew (w.heap.size + 1 + 1) 36 [.bool false,.slice none 0 0,.slice none 0 0]:=(bg HG))
 go_region_held3 (fun w'=>w'.cell? ⟨w.heap.size,0,none⟩=some (.bool s)∧w'.cell? ⟨w.heap.size,1,none⟩=some (.slice A n c)∧w'.cell? ⟨w.heap.size,2,none⟩=some (.slice D k e)∧w'.cell? ⟨w.heap.size + 1,0,none⟩=some (.bool t)∧w'.cell? ⟨w.heap.size + 1,1,none⟩=some (.slice B n' c')∧w'.cell? ⟨w.heap.size + 1,2,none⟩=some (.slice E k' e'))
  (first | exact ⟨ra.cell 0,ra.cell 1,ra.cell 2,rb.cell 0,rb.cell 1,rb.cell 2⟩ | assumption | exact ⟨(cell_farN (by omega)).trans ((cell_farN (by omega)).trans ((cell_farN (by omega)).trans (ra.cell 0))),(cell_farN (by omega)).trans ((cell_farN (by omega)).trans ((cell_farN (by omega)).trans (ra.cell 1))),(cell_farN (by omega)).trans ((cell_farN (by omega)).trans ((cell_farN (by omega)).trans (ra.cell 2))),(cell_farN (by omega)).trans ((cell_farN (by omega)).trans ((cell_farN (by omega)).trans (rb.cell 0))),(cell_farN (by omega)).trans ((cell_farN (by omega)).trans ((cell_farN (by omega)).trans (rb.cell 1))),(cell_farN (by omega)).trans ((cell_farN (by omega)).trans ((cell_farN (by omega)).trans (rb.cell 2)))⟩ | go_keep)
  (first
    | ((go_at_call 45);(with_reducible refine (frac_under t B E n' c' k' e' es _ (bg HG) b5 b6 (fits4 (by omega))).mono ?_);(rintro e w9 ⟨R1,d1,rfl,ho1,hb1⟩);(have hc1:=ho1.cap);(have HG:=(HG.step hb1).sl (ho1.sl (by omega)));(clear hb1);(have ra:RowC _ w.heap.size 36 [.bool s,.slice A n c,.slice D k e]:=(bg HG));(have rb:RowC _ (w.heap.size + 1) 36 [.bool t,.slice B n' c',.slice E k' e']:=(bg HG));(have rc:RowC _ (w.heap.size + 1 + 1) 36 [.bool false,.slice none 0 0,.slice none 0 0]:=(bg HG)))
    | ((go_at_call 48);(with_reducible refine (nat_mul A R1 n c _ d1 xs (limbs (und (val es))) _ (bg HG) a2 a3 (bg HG) hc1 (limbs_L32 _) (fits4 (by omega))).mono ?_);(rintro e w9 ⟨R2,d2,rfl,ho2,hb1⟩);(rw [val_limbs] at ho2 ⊢);(have hc2:=ho2.cap);(have HG:=(HG.step hb1).sl (ho2.sl (by omega)));(clear hb1);(have ra:RowC _ w.heap.size 36 [.bool s,.slice A n c,.slice D k e]:=(bg HG));(have rb:RowC _ (w.heap.size + 1) 36 [.bool t,.slice B n' c',.slice E k' e']:=(bg HG));(have rc:RowC _ (w.heap.size + 1 + 1) 36 [.bool false,.slice none 0 0,.slice none 0 0]:=(bg HG)))
    | ((go_at_call 45);(with_reducible refine (frac_under s A D n c k e ds _ (bg HG) a5 a6 (fits4 (by omega))).mono ?_);(rintro e w9 ⟨R3,d3,rfl,ho3,hb1⟩);(have hc3:=ho3.cap);(have HG:=(HG.step hb1).sl (ho3.sl (by omega)));(clear hb1);(have ra:RowC _ w.heap.size 36 [.bool s,.slice A n c,.slice D k e]:=(bg HG));(have rb:RowC _ (w.heap.size + 1) 36 [.bool t,.slice B n' c',.slice E k' e']:=(bg HG));(have rc:RowC _ (w.heap.size + 1 + 1) 36 [.bool false,.slice none 0 0,.slice none 0 0]:=(bg HG)))
    | ((go_at_call 48);(with_reducible refine (nat_mul R3 B _ d3 n' c' (limbs (und (val ds))) ys _ (bg HG) hc3 (limbs_L32 _) (bg HG) b2 b3 (fits4 (by omega))).mono ?_);(rintro e w9 ⟨R4,d4,rfl,ho4,hb1⟩);(rw [val_limbs] at ho4 ⊢);(have hc4:=ho4.cap);(have HG:=(HG.step hb1).sl (ho4.sl (by omega)));(clear hb1);(have ra:RowC _ w.heap.size 36 [.bool s,.slice A n c,.slice D k e]:=(bg HG));(have rb:RowC _ (w.heap.size + 1) 36 [.bool t,.slice B n' c',.slice E k' e']:=(bg HG));(have rc:RowC _ (w.heap.size + 1 + 1) 36 [.bool false,.slice none 0 0,.slice none 0 0]:=(bg HG)))
    | ((go_at_call 47);(refine (frac_lowest (s != t) R2 R4 _ d2 _ d4 (limbs (val xs * und (val es))) (limbs (und (val ds) * val ys)) _ (bg HG) hc2 (limbs_L32 _) (bg HG) hc4 (limbs_L32 _) (fits8 (by omega)) (by rw [val_limbs];exact hne)).mono ?_);(rintro e w9 ⟨R,cr,D9,dd9,rfl,ho,hd,hsep,hb1⟩);(rw [val_limbs,val_limbs,HPQ.out] at ho hd ⊢);(have hlo:=rc.lt);(have HG:=HG.step hb1);(clear hb1);(have ra:RowC _ w.heap.size 36 [.bool s,.slice A n c,.slice D k e]:=(bg HG));(have rb:RowC _ (w.heap.size + 1) 36 [.bool t,.slice B n' c',.slice E k' e']:=(bg HG));(have rc:RowC _ (w.heap.size + 1 + 1) 36 [.bool false,.slice none 0 0,.slice none 0 0]:=(bg HG));(have t0:=rc.cell 0);(have t1:=rc.cell 1);(have t2:=rc.cell 2);(have f0:=rc.frozen 0);(have f1:=rc.frozen 1);(have f2:=rc.frozen 2)))
 all_goals (
  have hg:=rc.lt
  have hgl:=hlo
  have hq:=box3_fin (v0:=.bool (isNeg z.num)) (v1:=.slice R (limbs z.num.natAbs).length cr) (v2:=.slice D9 (limbs z.den).length dd9) (g:=w.heap.size + 1 + 1) (by omega) rc HG.bel (ho.mono (by omega)) (hd.mono (by omega))
  have c0:=hq.1.cell 0
  have c1:=hq.1.cell 1
  have c2':=hq.1.cell 2
  have HFF:=Lib.hid (And.intro hq hsep)
  clear hq hsep HG ho hd ra rb rc f0 f1 f2 t0 t1 t2
  go_wp2_with fail
  exact bodyPost_ret (v:=.tuple #[.agg #[.bool (isNeg z.num),.slice R (limbs z.num.natAbs).length cr,.slice D9 (limbs z.den).length dd9],.int .i64 0]) (by simp [results,Tryz.results53,go_sem,c0,c1,c2']) rfl ⟨R,cr,D9,dd9,rfl,HFF.out.1.2.1,HFF.out.1.2.2.1,HFF.out.2,HFF.out.1.2.2.2⟩)
end Go.Proofs.YtmncjibcoffmfaaGreat
/- Fractions as they stand, rows of them, tables; a box that holds a fraction of the call's own; sums. Conditions: lengths within Go's bound. -/
namespace Go.Proofs.YtmncjibcoffmfaaGreat
open Go.RowKit

structure RawR where
 neg:Bool
 num:List Nat
 den:List Nat
instance:Inhabited RawR:=⟨⟨false,[],[]⟩⟩
def RawR.q (r:RawR):Rat:=ratR r.neg (val r.num) (val r.den)
def RawR.sz (r:RawR):Nat:=r.num.length + r.den.length
structure RH where
 neg:Bool
 A:Option Addr
 n:Nat
 c:Nat
 D:Option Addr
 k:Nat
 e:Nat
instance:Inhabited RH:=⟨⟨false,none,0,0,none,0,0⟩⟩
def RH.val (h:RH):Value:=.agg #[.bool h.neg,.slice h.A h.n h.c,.slice h.D h.k h.e]
def ratE:Enc RH 3:=⟨fun h=>[.bool h.neg,.slice h.A h.n h.c,.slice h.D h.k h.e],fun _=>rfl,fun h u hu=>by simp at hu;rcases hu with rfl | rfl | rfl <;> rfl⟩
theorem eiRat:EIM Tryz.prog 45 36 (.agg #[.bool false,.slice none 0 0,.slice none 0 0]) 3 56:=.mk' Tryz.underlying45 (by kernel_rfl) rfl (by omega) (by omega)
structure RawAt (w:World) (h:RH) (r:RawR):Prop where
 neg:h.neg=r.neg
 num:Sl eU w h.A h.n r.num
 nc:h.n≤h.c
 nl:L32 r.num
 den:Sl eU w h.D h.k r.den
 dc:h.k≤h.e
 dl:L32 r.den
theorem RawAt.below {w w':World} {h:RH} {r:RawR} (x:RawAt w h r) {B:Nat} (hB:w.heap.size≤B) (hb:Below B w w'):RawAt w' h r:=
 ⟨x.neg,x.num.below hB hb,x.nc,x.nl,x.den.below hB hb,x.dc,x.dl⟩
theorem RawAt.at {w:World} {h:RH} {r:RawR} (x:RawAt w h r):RatAt w h.val r.q r.sz:=
 ⟨_,_,_,_,_,_,_,_,_,by rw [RH.val,x.neg],x.num,x.nc,x.nl,x.den,x.dc,x.dl,rfl,by unfold RawR.sz;rw [x.num.len,x.den.len];exact Nat.le_refl _⟩
structure RRow (w:World) (A:Option Addr) (n:Nat) (l:List RawR):Prop where
 ex:∃ hs:List RH,SlM ratE w A n hs∧∀ i,i < n→RawAt w (nth hs i) (nth l i)
 len:l.length=n
theorem RRow.below {w w':World} {A:Option Addr} {n:Nat} {l:List RawR} (h:RRow w A n l) {B:Nat} (hB:w.heap.size≤B) (hb:Below B w w'):RRow w' A n l:=by
 obtain ⟨⟨hs,h1,h2⟩,h3⟩:=h
 exact ⟨⟨hs,h1.below hB hb,fun i hi=>(h2 i hi).below hB hb⟩,h3⟩
instance {A:Option Addr} {n:Nat} {l:List RawR}:Stable (fun w=>RRow w A n l):=⟨fun hb h=>h.below (Nat.le_refl _) hb⟩
instance {h:RH} {r:RawR}:Stable (fun w=>RawAt w h r):=⟨fun hb x=>x.below (Nat.le_refl _) hb⟩
theorem RRow.big {w:World} {A:Option Addr} {n:Nat} {l:List RawR} (h:RRow w A n l):n≤140737488351232:=by obtain ⟨⟨hs,h1,_⟩,_⟩:=h;exact h1.big
theorem RRow.at {w:World} {A:Option Addr} {n:Nat} {l:List RawR} (h:RRow w A n l) {i:Nat} (hi:i < n):∃ b off hd,A=some ⟨b,off,none⟩∧b < w.heap.size∧w.cell? ⟨b,off + i * 3,none⟩=some (.bool hd.neg)∧w.cell? ⟨b,off + i * 3 + 1,none⟩=some (.slice hd.A hd.n hd.c)∧w.cell? ⟨b,off + i * 3 + 2,none⟩=some (.slice hd.D hd.k hd.e)∧RawAt w hd (nth l i):=by
 obtain ⟨⟨hs,h1,h2⟩,h3⟩:=h
 obtain ⟨b,off,e,hlt,hc⟩:=h1.at' (by omega)
 exact ⟨b,off,nth hs i,e,hlt,hc i 0 hi (by omega),hc i 1 hi (by omega),hc i 2 hi (by omega),h2 i hi⟩
def totTo (l:List RawR):Nat→Nat
 | 0=>0
 | i + 1=>totTo l i + (nth l i).sz + 1
def sumTo (l:List RawR):Nat→Rat
 | 0=>0
 | i + 1=>sumTo l i + (nth l i).q
theorem totTo_le (l:List RawR) {i j:Nat} (h:i≤j):totTo l i≤totTo l j:=by
 induction h with
 | refl=>exact Nat.le_refl _
 | step _ ih=>exact Nat.le_trans ih (by rw [totTo];omega)
theorem totTo_ge (l:List RawR):∀ i,i≤totTo l i
 | 0=>Nat.zero_le _
 | i + 1=>by have:=totTo_ge l i;rw [totTo];omega
theorem totTo_at (l:List RawR) {i j:Nat} (h:i < j):(nth l i).sz + 1≤totTo l j:=Nat.le_trans (by rw [totTo];omega) (totTo_le l h)
def numL (q:Rat):Nat:=(limbs q.num.natAbs).length
def denL (q:Rat):Nat:=(limbs q.den).length
theorem ratLen_eq (q:Rat):ratLen q=numL q + denL q:=rfl
theorem limbs_add_max (a b:Nat) {k:Nat} (ha:(limbs a).length≤k) (hb:(limbs b).length≤k):(limbs (a + b)).length≤k + 1:=by
 refine limbs_len ?_
 have h1:=Nat.lt_of_lt_of_le (limbs_lt a) (Nat.pow_le_pow_right bB_pos ha)
 have h2:=Nat.lt_of_lt_of_le (limbs_lt b) (Nat.pow_le_pow_right bB_pos hb)
 rw [Nat.pow_succ]
 have:bB ^ k * 2≤bB ^ k * bB:=Nat.mul_le_mul_left _ (by decide)
 omega
theorem mk_lens (n:Int) {d:Nat} (hd:d ≠ 0):numL (mkRat n d)≤(limbs n.natAbs).length∧denL (mkRat n d)≤(limbs d).length:=by
 have h:=mk_lowest (isNeg n) n.natAbs hd
 rw [sgn_isNeg] at h
 unfold numL denL
 rw [h.1,h.2,sgn_natAbs]
 exact ⟨limbs_mono (Nat.div_le_self n.natAbs (Nat.gcd n.natAbs d)),limbs_mono (Nat.div_le_self d (Nat.gcd n.natAbs d))⟩
theorem add_lens (p q:Rat) {k:Nat} (h1:numL p + denL q≤k) (h2:numL q + denL p≤k):numL (p + q)≤k + 1∧denL (p + q)≤denL p + denL q:=by
 have e:p + q=mkRat (p.num * (q.den:Int) + q.num * (p.den:Int)) (p.den * q.den):=by
  have:=ratR_add (isNeg p.num) (isNeg q.num) p.num.natAbs q.num.natAbs p.den q.den
  rw [sgn_isNeg,sgn_isNeg,ratR_norm,ratR_norm,und_ne p.den_nz,und_ne q.den_nz] at this
  exact this.symm
 have hm:=mk_lens (p.num * (q.den:Int) + q.num * (p.den:Int)) (Nat.mul_ne_zero p.den_nz q.den_nz)
 rw [← e] at hm
 refine ⟨Nat.le_trans hm.1 ?_,Nat.le_trans hm.2 (limbs_mul_len _ _)⟩
 refine Nat.le_trans (limbs_mono (Int.natAbs_add_le _ _)) (limbs_add_max _ _ ?_ ?_)
 ·rw [Int.natAbs_mul,Int.natAbs_natCast]
  exact Nat.le_trans (limbs_mul_len _ _) h1
 ·rw [Int.natAbs_mul,Int.natAbs_natCast]
  exact Nat.le_trans (limbs_mul_len _ _) h2
theorem RawR.lens (r:RawR) (hn:L32 r.num) (hd:L32 r.den):numL r.q + denL r.q≤r.sz + 1:=by
 have hm:=mk_lens (sgn r.neg (val r.num)) (und_pos (val r.den))
 rw [sgn_natAbs] at hm
 have h1:=limbs_val_len hn
 have h2:=limbs_val_len hd
 have h3:=und_len (val r.den)
 unfold RawR.q RawR.sz ratR
 omega
theorem sumTo_lens (l:List RawR):∀ i,(∀ j,j < i→L32 (nth l j).num∧L32 (nth l j).den)→numL (sumTo l i)≤totTo l i + i + 1∧denL (sumTo l i)≤totTo l i + 1
 | 0,_=>by
   have h0:numL (0:Rat)=0:=by unfold numL;rw [show (0:Rat).num.natAbs=0 from rfl,limbs_zero];rfl
   have h1:denL (0:Rat)≤1:=limbs_len (by rw [Nat.pow_one];decide)
   exact ⟨by rw [sumTo,h0];omega,by rw [sumTo,totTo];exact h1⟩
 | i + 1,h=>by
   have ih:=sumTo_lens l i fun j hj=>h j (by omega)
   have hr:=(nth l i).lens (h i (by omega)).1 (h i (by omega)).2
   have ha:=add_lens (sumTo l i) (nth l i).q (k:=totTo l (i + 1) + i + 1) (by rw [totTo];omega) (by rw [totTo];omega)
   rw [sumTo]
   refine ⟨by omega,?_⟩
   rw [totTo]
   omega
theorem sumTo_len (l:List RawR) (i:Nat) (h:∀ j,j < i→L32 (nth l j).num∧L32 (nth l j).den):ratLen (sumTo l i)≤3 * totTo l i + 2:=by
 have:=sumTo_lens l i h
 have:=totTo_ge l i
 rw [ratLen_eq]
 omega
structure BoxQ (w:World) (base g:Nat) (q:Rat):Prop where
 ex:∃ R c D d,RowC w g 36 [.bool (isNeg q.num),.slice R (limbs q.num.natAbs).length c,.slice D (limbs q.den).length d]∧OwnR eU w base 54 R (limbs q.num.natAbs).length c (limbs q.num.natAbs)∧OwnR eU w base 54 D (limbs q.den).length d (limbs q.den) ∧
  (∀ g',R=some ⟨g',0,none⟩→D ≠ some ⟨g',0,none⟩)
theorem BoxQ.below {w w':World} {base g:Nat} {q:Rat} (h:BoxQ w base g q) (hb:Below w.heap.size w w'):BoxQ w' base g q:=by
 obtain ⟨R,c,D,d,h1,h2,h3,h4⟩:=h.ex
 exact ⟨R,c,D,d,h1.below' hb,h2.below (Nat.le_refl _) hb,h3.below (Nat.le_refl _) hb,h4⟩
instance {base g:Nat} {q:Rat}:Stable (fun w=>BoxQ w base g q):=⟨fun hb h=>h.below hb⟩
theorem ratAt_own {w:World} {base:Nat} {R D:Option Addr} {c d:Nat} {q:Rat} (h1:OwnR eU w base 54 R (limbs q.num.natAbs).length c (limbs q.num.natAbs)) (h2:OwnR eU w base 54 D (limbs q.den).length d (limbs q.den)) (hb:ratLen q≤140737488351232) :
 RatAt w (.agg #[.bool (isNeg q.num),.slice R (limbs q.num.natAbs).length c,.slice D (limbs q.den).length d]) q (ratLen q):=by
 unfold ratLen at hb
 exact ⟨_,R,_,c,_,D,_,d,_,rfl,h1.sl (by omega),h1.cap,limbs_L32 _,h2.sl (by omega),h2.cap,limbs_L32 _,by rw [val_limbs,val_limbs];exact (ratR_norm q).symm,Nat.le_refl _⟩
theorem BoxQ.store {w w2:World} {g base B:Nat} {u0 u1 u2:Value} {q:Rat} {R D:Option Addr} {c d:Nat} (hg:w.heap.size≤g) (hbox:RowC w2 g 36 [u0,u1,u2]) (hbel:Below w.heap.size w w2) (ho:OwnR eU w2 B 54 R (limbs q.num.natAbs).length c (limbs q.num.natAbs)) (hd:OwnR eU w2 B 54 D (limbs q.den).length d (limbs q.den))
 (hsep:∀ g',R=some ⟨g',0,none⟩→D ≠ some ⟨g',0,none⟩) (hB:base≤B) (hgB:g < B) :
 BoxQ (((w2.setCell ⟨g,0,none⟩ (.bool (isNeg q.num))).setCell ⟨g,1,none⟩ (.slice R (limbs q.num.natAbs).length c)).setCell ⟨g,2,none⟩ (.slice D (limbs q.den).length d)) base g q ∧
  Below w.heap.size w (((w2.setCell ⟨g,0,none⟩ (.bool (isNeg q.num))).setCell ⟨g,1,none⟩ (.slice R (limbs q.num.natAbs).length c)).setCell ⟨g,2,none⟩ (.slice D (limbs q.den).length d)):=by
 have key:∀ {R:Option Addr} {L d':Nat} {l:List Nat} {v0 v1 v2:Value},OwnR eU w2 B 54 R L d' l→OwnR eU (((w2.setCell ⟨g,0,none⟩ v0).setCell ⟨g,1,none⟩ v1).setCell ⟨g,2,none⟩ v2) base 54 R L d' l:=fun {R L d' l v0 v1 v2} ho=>by
  have hne:∀ g',R=some ⟨g',0,none⟩→g' ≠ g:=fun g' e=>by
   rcases ho.at_row with h1 | ⟨g'',h1,h2,_⟩
   ·rw [h1] at e;cases e
   ·rw [h1] at e;injection e with e;injection e with e;omega
  exact (((ho.setFar (p:=⟨g,0,none⟩) hne _).setFar (p:=⟨g,1,none⟩) hne _).setFar (p:=⟨g,2,none⟩) hne _).mono hB
 exact ⟨⟨R,c,D,d,((hbox.put 0 _).put 1 _).put 2 _,key ho,key hd,hsep⟩,((hbel.setCell (p:=⟨g,0,none⟩) hg _).setCell (p:=⟨g,1,none⟩) hg _).setCell (p:=⟨g,2,none⟩) hg _⟩
theorem limbs_one1:limbs 1=[1]:=by rw [limbs_pos (by decide),show 1 % bB=1 from rfl,show 1 / bB=0 from rfl,limbs_zero]
end Go.Proofs.YtmncjibcoffmfaaGreat
/- frac.Sum and credenceref03.Sum, walked, over a row of fractions as they stand. Condition: the row reads, within Go's bound. -/
namespace Go.Proofs.YtmncjibcoffmfaaGreat
open Go.RowKit

def sumQ (l:List RawR):Rat:=sumTo l l.length
set_option maxRecDepth 100000 in
set_option maxHeartbeats 4000000 in
theorem frac_sum (A:Option Addr) (n c:Nat) (l:List RawR) (w:World) (h:RRow w A n l) (hb:totTo l n≤10000000000):Calls Tryz.prog 50 #[.slice A n c] w (RatPost (sumQ l) w):=by
 have HL:=Lib.hid (And.intro h.len (And.intro h hb))
 have hbig:=h.big
 have hsum:sumTo l n=sumQ l:=by unfold sumQ;rw [h.len]
 obtain ⟨S,hS⟩:∃ S,S=sumQ l:=⟨_,rfl⟩
 rw [← hS] at hsum ⊢
 have HS:=Lib.hid hsum
 have hlen:∀ i,i≤n→ratLen (sumTo l i)≤40000000000:=fun i hi=>by
  have:=sumTo_len l i fun j hj=>by obtain ⟨_,_,_,_,_,_,_,_,x⟩:=h.at (i:=j) (by omega);exact ⟨x.nl,x.dl⟩
  have:=totTo_le l hi
  omega
 have hsz:∀ i,i < n→(nth l i).sz≤10000000000:=fun i hi=>by have:=totTo_at l hi;omega
 have HN:=Lib.hid (And.intro hlen hsz)
 have H:=(Held.init w).new 36 [.bool false,.slice none 0 0,.slice none 0 0]
 clear hS hsum hlen hsz h hb
 obtain ⟨w0,hw0⟩:∃ w0:World,w0=w.alloc (.cells #[.bool false,.slice none 0 0,.slice none 0 0] 36):=⟨_,rfl⟩
 rw [← hw0] at H
 go_enter Tryz.func50,Tryz.ntmps50
 go_wp2_with fail
 rw [← hw0]
 clear hw0
 refine (nat_of 1 _ (by decide)).mono ?_
 rintro e w1 ⟨R,cr,rfl,ho,hb1⟩
 rw [limbs_one1] at ho ⊢
 have H1:=H.step hb1
 have hlt:=H.has.1.lt
 have H2:=(H1.new 36 [.bool false,.slice none 0 0,.slice R 1 cr])
 have hb2:Below w1.heap.size w1 (w1.alloc (.cells #[.bool false,.slice none 0 0,.slice R 1 cr] 36)):=(Below.refl _ _).alloc (Nat.le_refl _) _
 have ho:=ho.below (Nat.le_refl _) hb2
 have hgl:w.heap.size < w1.heap.size:=Nat.lt_of_lt_of_le hlt hb1.size
 have hbx:BoxQ (w1.alloc (.cells #[.bool false,.slice none 0 0,.slice R 1 cr] 36)) (w.heap.size + 1) w1.heap.size 0:=⟨none,0,R,cr,by
  rw [show (0:Rat).num.natAbs=0 from rfl,show (0:Rat).den=1 from rfl,limbs_zero,limbs_one1,show isNeg (0:Rat).num=false from rfl];exact H2.has.1,by
  rw [show (0:Rat).num.natAbs=0 from rfl,limbs_zero];exact OwnR.nil _ _ _ _,by
  rw [show (0:Rat).den=1 from rfl,limbs_one1];exact ho.mono (by omega),fun g' e=>by cases e⟩
 go_wp2_with fail
 obtain ⟨g,hg⟩:∃ g,g=w1.heap.size:=⟨_,rfl⟩
 rw [← hg] at H2 hbx hgl ⊢
 obtain ⟨wa,hwa⟩:∃ wa:World,wa=w1.alloc (.cells #[.bool false,.slice none 0 0,.slice R 1 cr] 36):=⟨_,rfl⟩
 rw [show (w1.alloc (.cells ([.bool false,.slice none 0 0,.slice R 1 cr]:List Value).toArray 36))=wa from hwa.symm] at H2
 rw [← hwa] at hbx ⊢
 have HA:=Lib.hid (And.intro hbx (And.intro H2.has.2.1 H2.bel))
 clear H H1 H2 ho hb1 hb2 hbx hwa hg hlt
 go_loopw [10] (fun i wr=>∃ k:Nat,k≤n∧i=.int .i64 (k:Nat)∧BoxQ wr (w.heap.size + 1) g (sumTo l k)∧RowC wr w.heap.size 36 [.bool false,.slice none 0 0,.slice none 0 0]∧Below w.heap.size w wr) (fun i _=>n - (intOf i).toNat)
 case atStart=>exact ⟨0,by omega,rfl,HA.out.1,HA.out.2.1,HA.out.2.2⟩
 case round =>
  obtain ⟨k,hk,rfl,hbx,hres,hbr⟩:=hrel
  obtain ⟨wo,hwo⟩:∃ wo:World,wo=wr:=⟨_,rfl⟩
  subst hwo
  by_cases hkn:k < n
  ·as_aux_lemma =>
   obtain ⟨R1,c1,D1,d1,hrow,o1,o2,_⟩:=hbx.ex
   obtain ⟨b,off,hd,rfl,hblt,g0,g1,g2,hraw⟩:=(HL.out.2.1.below (Nat.le_refl _) hbr).at hkn
   have i1:(k:Int) < (n:Int):=by omega
   have hq1:=ratAt_own o1 o2 (by have:=HN.out.1 k hk;omega)
   have hal:Below wo.heap.size wo (wo.alloc (.cells #[.bool hd.neg,.slice hd.A hd.n hd.c,.slice hd.D hd.k hd.e] 36)):=(Below.refl _ _).alloc (Nat.le_refl _) _
   have s0:=(hrow.alloc (.cells #[.bool hd.neg,.slice hd.A hd.n hd.c,.slice hd.D hd.k hd.e] 36)).cell 0
   have s1:=(hrow.alloc (.cells #[.bool hd.neg,.slice hd.A hd.n hd.c,.slice hd.D hd.k hd.e] 36)).cell 1
   have s2:=(hrow.alloc (.cells #[.bool hd.neg,.slice hd.A hd.n hd.c,.slice hd.D hd.k hd.e] 36)).cell 2
   have hadd:=frac_add _ _ _ _ _ _ _ (hq1.below (Nat.le_refl _) hal) (hraw.at.below (Nat.le_refl _) hal) (by have:=HN.out.1 k hk;have:=HN.out.2 k hkn;omega)
   have HADD:=Lib.hid hadd
   have HX:=Lib.hid (And.intro hrow (And.intro hres (And.intro hbr hal)))
   clear hadd hq1 hraw hrow o1 o2 hbx hal hres hbr
   go_wp2_with fail
   refine HADD.out.mono ?_
   rintro e w2 ⟨R2,c2,D2,d2,rfl,p1,p2,hsep,hb2⟩
   obtain ⟨hrow,hres,hbr,hal⟩:=HX.out
   have hrow2:=(hrow.alloc (.cells #[.bool hd.neg,.slice hd.A hd.n hd.c,.slice hd.D hd.k hd.e] 36)).below' hb2
   have hres2:=(hres.alloc (.cells #[.bool hd.neg,.slice hd.A hd.n hd.c,.slice hd.D hd.k hd.e] 36)).below' hb2
   have hlt:=(hrow.alloc (.cells #[.bool hd.neg,.slice hd.A hd.n hd.c,.slice hd.D hd.k hd.e] 36)).lt
   have hres1:=hres.lt
   have hbel2:=(hbr.alloc (by omega) (.cells #[.bool hd.neg,.slice hd.A hd.n hd.c,.slice hd.D hd.k hd.e] 36)).trans (hb2.mono (by simp;omega))
   have hst:=BoxQ.store (w:=w) (base:=w.heap.size + 1) (by omega) hrow2 hbel2 p1 p2 hsep (by simp;omega) hlt
   have t0:=hrow2.cell 0
   have t1:=hrow2.cell 1
   have t2:=hrow2.cell 2
   have f0:=hrow2.frozen 0
   have f1:=hrow2.frozen 1
   have f2:=hrow2.frozen 2
   have hr3:=((hres2.far (p:=⟨g,0,none⟩) (show w.heap.size ≠ g by omega) (.bool (isNeg (sumTo l k + (nth l k).q).num))).far (p:=⟨g,1,none⟩) (show w.heap.size ≠ g by omega) (.slice R2 (limbs (sumTo l k + (nth l k).q).num.natAbs).length c2)).far (p:=⟨g,2,none⟩) (show w.heap.size ≠ g by omega) (.slice D2 (limbs (sumTo l k + (nth l k).q).den).length d2)
   have HT:=Lib.hid (And.intro hst hr3)
   clear hst hr3 hrow hres hbr hal hrow2 hres2 hbel2 p1 p2 hsep hb2 HX HADD
   go_wp2_with fail
   exact ⟨⟨k + 1,by omega,by go_num,HT.out.1.1,HT.out.2,HT.out.1.2⟩,by simp [intOf];omega⟩
  ·as_aux_lemma =>
   obtain rfl:n=k:=by omega
   obtain ⟨R1,c1,D1,d1,hrow,o1,o2,hsep⟩:=hbx.ex
   rw [HS.out] at hrow o1 o2
   have i1:¬ (n:Int) < (n:Int):=by omega
   have s0:=hrow.cell 0
   have s1:=hrow.cell 1
   have s2:=hrow.cell 2
   have t0:=hres.cell 0
   have t1:=hres.cell 1
   have t2:=hres.cell 2
   have f0:=hres.frozen 0
   have f1:=hres.frozen 1
   have f2:=hres.frozen 2
   have hq:=box3_fin (v0:=.bool (isNeg S.num)) (v1:=.slice R1 (limbs S.num.natAbs).length c1) (v2:=.slice D1 (limbs S.den).length d1) (g:=w.heap.size) (Nat.le_refl _) hres hbr o1 o2
   have c0:=hq.1.cell 0
   have c1':=hq.1.cell 1
   have c2':=hq.1.cell 2
   have HFF:=Lib.hid (And.intro hq hsep)
   clear hq hsep hbx hrow o1 o2 hres hbr
   go_wp2_with fail
   exact bodyPost_ret (v:=.agg #[.bool (isNeg S.num),.slice R1 (limbs S.num.natAbs).length c1,.slice D1 (limbs S.den).length d1]) (by simp [results,Tryz.results50,go_sem,c0,c1',c2']) rfl ⟨R1,c1,D1,d1,rfl,HFF.out.1.2.1,HFF.out.1.2.2.1,HFF.out.2,HFF.out.1.2.2.2⟩
set_option maxRecDepth 100000 in
set_option maxHeartbeats 4000000 in
theorem rfrac_sum (A:Option Addr) (n c:Nat) (l:List RawR) (w:World) (h:RRow w A n l) (hb:totTo l n≤10000000000):Calls Tryz.prog 99 #[.slice A n c] w (RatPost (sumQ l) w):=by
 have HL:=Lib.hid (And.intro h.len (And.intro h hb))
 have hbig:=h.big
 have hsum:sumTo l n=sumQ l:=by unfold sumQ;rw [h.len]
 obtain ⟨S,hS⟩:∃ S,S=sumQ l:=⟨_,rfl⟩
 rw [← hS] at hsum ⊢
 have HS:=Lib.hid hsum
 have hlen:∀ i,i≤n→ratLen (sumTo l i)≤40000000000:=fun i hi=>by
  have:=sumTo_len l i fun j hj=>by obtain ⟨_,_,_,_,_,_,_,_,x⟩:=h.at (i:=j) (by omega);exact ⟨x.nl,x.dl⟩
  have:=totTo_le l hi
  omega
 have hsz:∀ i,i < n→(nth l i).sz≤10000000000:=fun i hi=>by have:=totTo_at l hi;omega
 have HN:=Lib.hid (And.intro hlen hsz)
 have H:=(Held.init w).new 36 [.bool false,.slice none 0 0,.slice none 0 0]
 clear hS hsum hlen hsz h hb
 obtain ⟨w0,hw0⟩:∃ w0:World,w0=w.alloc (.cells #[.bool false,.slice none 0 0,.slice none 0 0] 36):=⟨_,rfl⟩
 rw [← hw0] at H
 go_enter Tryz.func99,Tryz.ntmps99
 go_wp2_with fail
 rw [← hw0]
 clear hw0
 refine (rfrac_small 0 1 _ (by decide) (by decide) (by decide)).mono ?_
 rintro e w1 ⟨R0,c0,R,cr,rfl,ho0,ho,hsep0,hb1⟩
 rw [show mkRat ((0:Nat):Int) 1=0 from rfl] at ho0 ho ⊢
 rw [show (0:Rat).num.natAbs=0 from rfl,limbs_zero] at ho0 ⊢
 rw [show (0:Rat).den=1 from rfl,limbs_one1] at ho ⊢
 rw [show isNeg (0:Rat).num=false from rfl]
 have H1:=H.step hb1
 have hlt:=H.has.1.lt
 have H2:=(H1.new 36 [.bool false,.slice R0 0 c0,.slice R 1 cr])
 have hb2:Below w1.heap.size w1 (w1.alloc (.cells #[.bool false,.slice R0 0 c0,.slice R 1 cr] 36)):=(Below.refl _ _).alloc (Nat.le_refl _) _
 have ho:=ho.below (Nat.le_refl _) hb2
 have ho0:=ho0.below (Nat.le_refl _) hb2
 have hgl:w.heap.size < w1.heap.size:=Nat.lt_of_lt_of_le hlt hb1.size
 have hbx:BoxQ (w1.alloc (.cells #[.bool false,.slice R0 0 c0,.slice R 1 cr] 36)) (w.heap.size + 1) w1.heap.size 0:=⟨R0,c0,R,cr,by
  rw [show (0:Rat).num.natAbs=0 from rfl,show (0:Rat).den=1 from rfl,limbs_zero,limbs_one1,show isNeg (0:Rat).num=false from rfl];exact H2.has.1,by
  rw [show (0:Rat).num.natAbs=0 from rfl,limbs_zero];exact ho0.mono (by omega),by
  rw [show (0:Rat).den=1 from rfl,limbs_one1];exact ho.mono (by omega),hsep0⟩
 go_wp2_with fail
 obtain ⟨g,hg⟩:∃ g,g=w1.heap.size:=⟨_,rfl⟩
 rw [← hg] at H2 hbx hgl ⊢
 obtain ⟨wa,hwa⟩:∃ wa:World,wa=w1.alloc (.cells #[.bool false,.slice R0 0 c0,.slice R 1 cr] 36):=⟨_,rfl⟩
 rw [show (w1.alloc (.cells ([.bool false,.slice R0 0 c0,.slice R 1 cr]:List Value).toArray 36))=wa from hwa.symm] at H2
 rw [← hwa] at hbx ⊢
 have HA:=Lib.hid (And.intro hbx (And.intro H2.has.2.1 H2.bel))
 clear H H1 H2 ho ho0 hsep0 hb1 hb2 hbx hwa hg hlt
 go_loopw [4] (fun i wr=>∃ k:Nat,k≤n∧i=.int .i64 (k:Nat)∧BoxQ wr (w.heap.size + 1) g (sumTo l k)∧RowC wr w.heap.size 36 [.bool false,.slice none 0 0,.slice none 0 0]∧Below w.heap.size w wr) (fun i _=>n - (intOf i).toNat)
 case atStart=>exact ⟨0,by omega,rfl,HA.out.1,HA.out.2.1,HA.out.2.2⟩
 case round =>
  obtain ⟨k,hk,rfl,hbx,hres,hbr⟩:=hrel
  obtain ⟨wo,hwo⟩:∃ wo:World,wo=wr:=⟨_,rfl⟩
  subst hwo
  by_cases hkn:k < n
  ·as_aux_lemma =>
   obtain ⟨R1,c1,D1,d1,hrow,o1,o2,_⟩:=hbx.ex
   obtain ⟨b,off,hd,rfl,hblt,g0,g1,g2,hraw⟩:=(HL.out.2.1.below (Nat.le_refl _) hbr).at hkn
   have i1:(k:Int) < (n:Int):=by omega
   have hq1:=ratAt_own o1 o2 (by have:=HN.out.1 k hk;omega)
   have s0:=hrow.cell 0
   have s1:=hrow.cell 1
   have s2:=hrow.cell 2
   have hlt:=hrow.lt
   have hlt2:=hres.lt
   have HX:=Lib.hid (And.intro hrow (And.intro hres hbr))
   have HQ:=Lib.hid (And.intro hq1 hraw.at)
   clear hbx o1 o2
   go_upto_region 5 with fail
   refine wp_region_lastL (S:=fun w'=>w'.cell? ⟨g,0,none⟩=some (.bool (isNeg (sumTo l k).num))∧w'.cell? ⟨g,1,none⟩=some (.slice R1 (limbs (sumTo l k).num.natAbs).length c1)∧w'.cell? ⟨g,2,none⟩=some (.slice D1 (limbs (sumTo l k).den).length d1)∧w'.cell? ⟨b,off + k * 3,none⟩=some (.bool hd.neg)∧w'.cell? ⟨b,off + k * 3 + 1,none⟩=some (.slice hd.A hd.n hd.c)∧w'.cell? ⟨b,off + k * 3 + 2,none⟩=some (.slice hd.D hd.k hd.e)) 6 6 (by kernel_rfl) rfl rfl rfl (by kernel_rfl) ?hS1 (fun hHeld=>?rest1)
   case hS1=>(first | exact ⟨s0,s1,s2,g0,g1,g2⟩ | exact ⟨s0,s1,s2,g0',g1',g2'⟩ | assumption | go_keep)
   refine tk 0 rfl ?_
   try simp only [Act.put,sp]
   refine tk 1 rfl ?_
   try simp only [Act.put,sp]
   refine tk 2 rfl ?_
   try simp only [Act.put,sp]
   refine tk 3 rfl ?_
   try simp only [Act.put,sp]
   refine tk 4 rfl ?_
   try simp only [Act.put,sp]
   refine wpAnyH_ready (rs:=[5]) (by kernel_rfl) (by simp) (consL rfl (fun K hK=>?step7))
   (go_simp;(refine (rfrac_add _ _ _ _ _ _ _ (HQ.out.1.below (Nat.le_refl _) (below_drewN (Below.refl _ _) 1)) (HQ.out.2.below (Nat.le_refl _) (below_drewN (Below.refl _ _) 1)) (by have:=HN.out.1 k hk;have:=HN.out.2 k hkn;omega)).mono ?_);(rintro e w2 ⟨R2,c2,D2,d2,rfl,p1,p2,hsep,hb2⟩);(have hrow2:=HX.out.1.below' (hb2.mono (Nat.le_refl _) |> (below_drewN (Below.refl _ _) 1).trans));(have s0:=hrow2.cell 0);(have s1:=hrow2.cell 1);(have s2:=hrow2.cell 2);(have f0:=hrow2.frozen 0);(have f1:=hrow2.frozen 1);(have f2:=hrow2.frozen 2);(have g0':=bc hb2 g0 hblt);(have g1':=bc hb2 g1 hblt);(have g2':=bc hb2 g2 hblt))
   refine hK.out _ _ ?hS7 (fun hHeld=>?rest7)
   case hS7=>(first | exact ⟨s0,s1,s2,g0,g1,g2⟩ | exact ⟨s0,s1,s2,g0',g1',g2'⟩ | assumption | go_keep)
   clear hK K
   try simp only [Act.put,sp]
   refine wpAnyH_done (by kernel_rfl) ?_ _
   unfold AheadOf
   go_simp
   obtain ⟨hrow,hres,hbr⟩:=HX.out
   have hbw:Below wo.heap.size wo w2:=(below_drewN (Below.refl _ _) 1).trans hb2
   have hres2:=hres.below' hbw
   have hbel2:=hbr.trans (hbw.mono (by omega))
   have hst:=BoxQ.store (w:=w) (base:=w.heap.size + 1) (by omega) hrow2 hbel2 p1 p2 hsep (show w.heap.size + 1≤wo.heap.size from by omega) (show g < wo.heap.size from hlt)
   have hr3:=((hres2.far (p:=⟨g,0,none⟩) (show w.heap.size ≠ g by omega) (.bool (isNeg (sumTo l k + (nth l k).q).num))).far (p:=⟨g,1,none⟩) (show w.heap.size ≠ g by omega) (.slice R2 (limbs (sumTo l k + (nth l k).q).num.natAbs).length c2)).far (p:=⟨g,2,none⟩) (show w.heap.size ≠ g by omega) (.slice D2 (limbs (sumTo l k + (nth l k).q).den).length d2)
   have HT:=Lib.hid (And.intro hst hr3)
   clear hst hr3 hrow hres hbr hrow2 hres2 hbel2 p1 p2 hsep hb2 HX HQ s0 s1 s2 hHeld hbw
   go_wp2_with fail
   exact ⟨⟨k + 1,by omega,by go_num,HT.out.1.1,HT.out.2,HT.out.1.2⟩,by simp [intOf];omega⟩
  ·as_aux_lemma =>
   obtain rfl:n=k:=by omega
   obtain ⟨R1,c1,D1,d1,hrow,o1,o2,hsep⟩:=hbx.ex
   rw [HS.out] at hrow o1 o2
   have i1:¬ (n:Int) < (n:Int):=by omega
   have s0:=hrow.cell 0
   have s1:=hrow.cell 1
   have s2:=hrow.cell 2
   have t0:=hres.cell 0
   have t1:=hres.cell 1
   have t2:=hres.cell 2
   have f0:=hres.frozen 0
   have f1:=hres.frozen 1
   have f2:=hres.frozen 2
   have hq:=box3_fin (v0:=.bool (isNeg S.num)) (v1:=.slice R1 (limbs S.num.natAbs).length c1) (v2:=.slice D1 (limbs S.den).length d1) (g:=w.heap.size) (Nat.le_refl _) hres hbr o1 o2
   have c0:=hq.1.cell 0
   have c1':=hq.1.cell 1
   have c2':=hq.1.cell 2
   have HFF:=Lib.hid (And.intro hq hsep)
   clear hq hsep hbx hrow o1 o2 hres hbr
   go_wp2_with fail
   exact bodyPost_ret (v:=.agg #[.bool (isNeg S.num),.slice R1 (limbs S.num.natAbs).length c1,.slice D1 (limbs S.den).length d1]) (by simp [results,Tryz.results99,go_sem,c0,c1',c2']) rfl ⟨R1,c1,D1,d1,rfl,HFF.out.1.2.1,HFF.out.1.2.2.1,HFF.out.2,HFF.out.1.2.2.2⟩
end Go.Proofs.YtmncjibcoffmfaaGreat
/- The fraction 1: model.one, sense.one, credenceref19.One; what is below 0 or above 1: model.outside, credenceref19.Outside, walked. Printed in part by wip/gen/netone.py. -/
namespace Go.Proofs.YtmncjibcoffmfaaGreat
open Go.RowKit

set_option maxRecDepth 100000 in
set_option maxHeartbeats 800000 in
theorem one_model (w:World):Calls Tryz.prog 111 #[] w (RatPost 1 w):=by
 have H:=(Held.init w).new 36 [.bool false,.slice none 0 0,.slice none 0 0]
 go_enter Tryz.func111,Tryz.ntmps111
 go_wp2_with fail
 refine (frac_of 1 1 _ (by decide) (by decide) (by decide)).mono ?_
 rintro e w1 ⟨R,cr,D,dr,rfl,ho,ho2,hsep,hb1⟩
 rw [show mkRat ((1:Nat):Int) 1=1 from rfl] at ho ho2 ⊢
 generalize (1:Rat)=q at *
 have H1:=H.step hb1
 have H2:=H1.new 36 [.bool (isNeg q.num),.slice R (limbs q.num.natAbs).length cr,.slice D (limbs q.den).length dr]
 have hg:=H.has.1.lt
 have hb2:Below w1.heap.size w1 (w1.alloc (.cells #[.bool (isNeg q.num),.slice R (limbs q.num.natAbs).length cr,.slice D (limbs q.den).length dr] 36)):=(Below.refl _ _).alloc (Nat.le_refl _) _
 have ho:=ho.below (Nat.le_refl _) hb2
 have ho2:=ho2.below (Nat.le_refl _) hb2
 have t0:(w1.alloc (.cells #[.bool (isNeg q.num),.slice R (limbs q.num.natAbs).length cr,.slice D (limbs q.den).length dr] 36)).cell? ⟨w.heap.size,0,none⟩=some (.bool false):=H2.has.2.1.cell 0
 have t1:(w1.alloc (.cells #[.bool (isNeg q.num),.slice R (limbs q.num.natAbs).length cr,.slice D (limbs q.den).length dr] 36)).cell? ⟨w.heap.size,1,none⟩=some (.slice none 0 0):=H2.has.2.1.cell 1
 have t2:(w1.alloc (.cells #[.bool (isNeg q.num),.slice R (limbs q.num.natAbs).length cr,.slice D (limbs q.den).length dr] 36)).cell? ⟨w.heap.size,2,none⟩=some (.slice none 0 0):=H2.has.2.1.cell 2
 have f0:(w1.alloc (.cells #[.bool (isNeg q.num),.slice R (limbs q.num.natAbs).length cr,.slice D (limbs q.den).length dr] 36)).frozen? ⟨w.heap.size,0,none⟩=false:=H2.has.2.1.frozen 0
 have f1:(w1.alloc (.cells #[.bool (isNeg q.num),.slice R (limbs q.num.natAbs).length cr,.slice D (limbs q.den).length dr] 36)).frozen? ⟨w.heap.size,1,none⟩=false:=H2.has.2.1.frozen 1
 have f2:(w1.alloc (.cells #[.bool (isNeg q.num),.slice R (limbs q.num.natAbs).length cr,.slice D (limbs q.den).length dr] 36)).frozen? ⟨w.heap.size,2,none⟩=false:=H2.has.2.1.frozen 2
 have hq:=box3_fin (v0:=.bool (isNeg q.num)) (v1:=.slice R (limbs q.num.natAbs).length cr) (v2:=.slice D (limbs q.den).length dr) (g:=w.heap.size) (by omega) H2.has.2.1 H2.bel (ho.mono (by omega)) (ho2.mono (by omega))
 have c0:=hq.1.cell 0
 have c1:=hq.1.cell 1
 have c2':=hq.1.cell 2
 have HQ:=Lib.hid (And.intro hq hsep)
 clear hq hsep H1 H2 H ho ho2 hb1 hb2
 go_wp2_with fail
 exact bodyPost_ret (v:=.agg #[.bool (isNeg q.num),.slice R (limbs q.num.natAbs).length cr,.slice D (limbs q.den).length dr]) (by simp [results,Tryz.results111,go_sem,c0,c1,c2']) rfl ⟨R,cr,D,dr,rfl,HQ.out.1.2.1,HQ.out.1.2.2.1,HQ.out.2,HQ.out.1.2.2.2⟩
set_option maxRecDepth 100000 in
set_option maxHeartbeats 800000 in
theorem one_ref (w:World):Calls Tryz.prog 98 #[] w (RatPost 1 w):=by
 have H:=(Held.init w).new 36 [.bool false,.slice none 0 0,.slice none 0 0]
 go_enter Tryz.func98,Tryz.ntmps98
 go_wp2_with fail
 refine (rfrac_small 1 1 _ (by decide) (by decide) (by decide)).mono ?_
 rintro e w1 ⟨R,cr,D,dr,rfl,ho,ho2,hsep,hb1⟩
 rw [show mkRat ((1:Nat):Int) 1=1 from rfl] at ho ho2 ⊢
 generalize (1:Rat)=q at *
 have H2:=H.step hb1
 have hg:=H.has.1.lt
 have t0:=H2.has.1.cell 0
 have t1:=H2.has.1.cell 1
 have t2:=H2.has.1.cell 2
 have f0:=H2.has.1.frozen 0
 have f1:=H2.has.1.frozen 1
 have f2:=H2.has.1.frozen 2
 have hq:=box3_fin (v0:=.bool (isNeg q.num)) (v1:=.slice R (limbs q.num.natAbs).length cr) (v2:=.slice D (limbs q.den).length dr) (g:=w.heap.size) (by omega) H2.has.1 H2.bel (ho.mono (by omega)) (ho2.mono (by omega))
 have c0:=hq.1.cell 0
 have c1:=hq.1.cell 1
 have c2':=hq.1.cell 2
 have HQ:=Lib.hid (And.intro hq hsep)
 clear hq hsep H2 H ho ho2 hb1
 go_wp2_with fail
 exact bodyPost_ret (v:=.agg #[.bool (isNeg q.num),.slice R (limbs q.num.natAbs).length cr,.slice D (limbs q.den).length dr]) (by simp [results,Tryz.results98,go_sem,c0,c1,c2']) rfl ⟨R,cr,D,dr,rfl,HQ.out.1.2.1,HQ.out.1.2.2.1,HQ.out.2,HQ.out.1.2.2.2⟩
set_option maxRecDepth 100000 in
set_option maxHeartbeats 800000 in
theorem one_sense (w:World):Calls Tryz.prog 23 #[] w (RatPost 1 w):=by
 have hz1:(w.alloc (.cells #[.bool false,.slice (some ⟨w.heap.size + 1,0,none⟩) 1 1,.slice (some ⟨w.heap.size + 1 + 1,0,none⟩) 1 1] 36)).heap.size=w.heap.size + 1:=by simp
 have H:=(Held.init w).new 36 [.bool false,.slice (some ⟨w.heap.size + 1,0,none⟩) 1 1,.slice (some ⟨w.heap.size + 1 + 1,0,none⟩) 1 1]
 obtain ⟨w1,hw1⟩:∃ w1,w1=w.alloc (.cells #[.bool false,.slice (some ⟨w.heap.size + 1,0,none⟩) 1 1,.slice (some ⟨w.heap.size + 1 + 1,0,none⟩) 1 1] 36):=⟨_,rfl⟩
 rw [← hw1] at H hz1
 have hz2:(w1.alloc (.cells #[.int .u32 1] 54)).heap.size=w.heap.size + 1 + 1:=by simp;omega
 have o1:OwnR eU (w1.alloc (.cells #[.int .u32 1] 54)) w1.heap.size 54 (some ⟨w1.heap.size,0,none⟩) 1 1 [1]:=OwnR.of_row (rest:=[]) (heap_alloc_new w1 _) (Nat.le_refl _) (by simp [maxLen])
 have H2:=H.alloc (.cells #[.int .u32 1] 54)
 obtain ⟨w2,hw2⟩:∃ w2,w2=w1.alloc (.cells #[.int .u32 1] 54):=⟨_,rfl⟩
 rw [← hw2] at hz2 o1 H2
 have o2:OwnR eU (w2.alloc (.cells #[.int .u32 1] 54)) w2.heap.size 54 (some ⟨w2.heap.size,0,none⟩) 1 1 [1]:=OwnR.of_row (rest:=[]) (heap_alloc_new w2 _) (Nat.le_refl _) (by simp [maxLen])
 have o1':OwnR eU (w2.alloc (.cells #[.int .u32 1] 54)) w1.heap.size 54 (some ⟨w1.heap.size,0,none⟩) 1 1 [1]:=o1.below (Nat.le_refl _) ((Below.refl _ _).alloc (Nat.le_refl _) _)
 have H3:=H2.alloc (.cells #[.int .u32 1] 54)
 have c0:=H3.has.1.cell 0
 have c1:=H3.has.1.cell 1
 have c2:=H3.has.1.cell 2
 rw [hz1] at o1'
 rw [hz2] at o2
 have HF:=Lib.hid (And.intro o1' (And.intro o2 H3.bel))
 clear o1 o1' o2 H H2 H3
 go_enter Tryz.func23,Tryz.ntmps23
 go_wp2_with fail
 rw [← hw1,← hw2]
 exact bodyPost_ret (v:=.agg #[.bool false,.slice (some ⟨w.heap.size + 1,0,none⟩) 1 1,.slice (some ⟨w.heap.size + 1 + 1,0,none⟩) 1 1]) (by simp [results,Tryz.results23,go_sem,c0,c1,c2]) rfl ⟨_,1,_,1,by rw [show (1:Rat).num.natAbs=1 from rfl,show (1:Rat).den=1 from rfl,limbs_one1];rfl,by
  rw [show (1:Rat).num.natAbs=1 from rfl,limbs_one1];exact HF.out.1.mono (by omega),by
  rw [show (1:Rat).den=1 from rfl,limbs_one1];exact HF.out.2.1.mono (by omega),fun g e1 e2=>by injection e1 with e1;injection e1 with e1;injection e2 with e2;injection e2 with e2;omega,HF.out.2.2⟩
theorem ratLen_one:ratLen 1=2:=by
 unfold ratLen
 rw [show (1:Rat).num.natAbs=1 from rfl,show (1:Rat).den=1 from rfl,limbs_one1]
 rfl
def outQ (p:Rat):Bool:=decide (sgnQ p < 0) || decide (0 < cmpQ p 1)
set_option maxRecDepth 100000 in
set_option maxHeartbeats 4000000 in
theorem outside_model (u:Value) (p:Rat) (M:Nat) (w:World) (hu:RatAt w u p M) (hb:M≤100000000000):Calls Tryz.prog 77 #[u] w fun e w'=>e=.returned (.bool (outQ p))∧Below w.heap.size w w':=by
 obtain ⟨s,A,n,c,xs,D,k,e,ds,rfl,hx⟩:=hu.ex
 clear hx
 have HG:=(Held.and (Q:=fun w=>RatAt w (.agg #[.bool s,.slice A n c,.slice D k e]) p M) (Held.init w) hu).new 36 [.bool s,.slice A n c,.slice D k e]
 have HO:=Lib.hid (show outQ p=(decide (sgnQ p < 0) || decide (0 < cmpQ p 1)) from rfl)
 have HG:=HG.drew
 have ra:RowC _ w.heap.size 36 [.bool s,.slice A n c,.slice D k e]:=(bg HG)
 generalize hsg:sgnQ p=sg at *
 have HSG:=Lib.hid hsg
 clear hu hsg
 by_cases hs:sg < 0
 ·have d1:decide (sg < 0)=true:=decide_eq_true hs
  go_enter Tryz.func77,Tryz.ntmps77
  go_upto_region 1 with fail
  refine wp_region_held_drew (S:=fun w'=>w'.cell? ⟨w.heap.size,0,none⟩=some (.bool s)∧w'.cell? ⟨w.heap.size,1,none⟩=some (.slice A n c)∧w'.cell? ⟨w.heap.size,2,none⟩=some (.slice D k e)) (by kernel_rfl) ?hS1 (fun hHeld=>?rest1)
  case hS1=>(first | exact ⟨ra.cell 0,ra.cell 1,ra.cell 2⟩ | assumption | go_keep)
  refine tk 0 rfl ?_
  try simp only [Act.put,sp]
  refine wpAnyH_ready (rs:=[1]) (by kernel_rfl) (by simp) (consL rfl (fun K hK=>?step3))
  (go_simp;(refine (frac_sign _ p M _ (bg HG)).mono ?_);(rintro e1 w1 ⟨rfl,hb1⟩);(rw [HSG.out]);(have HG:=HG.step hb1);(clear hb1);(have ra:RowC _ w.heap.size 36 [.bool s,.slice A n c,.slice D k e]:=(bg HG)))
  refine hK.out _ _ ?hS3 (fun hHeld=>?rest3)
  case hS3=>(first | exact ⟨ra.cell 0,ra.cell 1,ra.cell 2⟩ | assumption | go_keep)
  clear hK K
  try simp only [Act.put,sp]
  refine tk 2 rfl ?_
  try simp only [Act.put,sp]
  refine tk 3 rfl ?_
  try simp only [Act.put,sp]
  refine sk 4 rfl ?_
  try simp only [Act.put,sp]
  refine sk 5 rfl ?_
  try simp only [Act.put,sp]
  refine sk 6 rfl ?_
  try simp only [Act.put,sp]
  refine sk 7 rfl ?_
  try simp only [Act.put,sp]
  refine tk 8 rfl ?_
  try simp only [Act.put,sp]
  refine tk 9 rfl ?_
  try simp only [Act.put,sp]
  refine wpAnyH_done (by kernel_rfl) ?_ _
  go_simp
  go_simp
  (try go_wp2_with fail)
  go_ret
  exact ⟨by rw [HO.out,d1];rfl,HG.bel⟩
 ·have d1:decide (sg < 0)=false:=decide_eq_false hs
  go_enter Tryz.func77,Tryz.ntmps77
  go_upto_region 1 with fail
  refine wp_region_held_drew (S:=fun w'=>w'.cell? ⟨w.heap.size,0,none⟩=some (.bool s)∧w'.cell? ⟨w.heap.size,1,none⟩=some (.slice A n c)∧w'.cell? ⟨w.heap.size,2,none⟩=some (.slice D k e)) (by kernel_rfl) ?hS12 (fun hHeld=>?rest12)
  case hS12=>(first | exact ⟨ra.cell 0,ra.cell 1,ra.cell 2⟩ | assumption | go_keep)
  refine tk 0 rfl ?_
  try simp only [Act.put,sp]
  refine wpAnyH_ready (rs:=[1]) (by kernel_rfl) (by simp) (consL rfl (fun K hK=>?step14))
  (go_simp;(refine (frac_sign _ p M _ (bg HG)).mono ?_);(rintro e1 w1 ⟨rfl,hb1⟩);(rw [HSG.out]);(have HG:=HG.step hb1);(clear hb1);(have ra:RowC _ w.heap.size 36 [.bool s,.slice A n c,.slice D k e]:=(bg HG)))
  refine hK.out _ _ ?hS14 (fun hHeld=>?rest14)
  case hS14=>(first | exact ⟨ra.cell 0,ra.cell 1,ra.cell 2⟩ | assumption | go_keep)
  clear hK K
  try simp only [Act.put,sp]
  refine tk 2 rfl ?_
  try simp only [Act.put,sp]
  refine tk 3 rfl ?_
  try simp only [Act.put,sp]
  refine tk 4 rfl ?_
  try simp only [Act.put,sp]
  refine wpAnyH_ready (rs:=[5]) (by kernel_rfl) (by simp) (consL rfl (fun K hK=>?step18))
  (go_simp;(refine (one_model _).mono ?_);(intro e1 w2 hp);(obtain ⟨v1,rfl,hv1,hb1⟩:=hp.at (by rw [ratLen_one];decide));(have HG:=Held.and (Q:=fun w=>RatAt w v1 1 (ratLen 1)) (HG.step hb1) hv1);(clear hb1 hv1 hp);(have ra:RowC _ w.heap.size 36 [.bool s,.slice A n c,.slice D k e]:=(bg HG)))
  refine hK.out _ _ ?hS18 (fun hHeld=>?rest18)
  case hS18=>(first | exact ⟨ra.cell 0,ra.cell 1,ra.cell 2⟩ | assumption | go_keep)
  clear hK K
  try simp only [Act.put,sp]
  refine wpAnyH_ready (rs:=[6]) (by kernel_rfl) (by simp) (consL rfl (fun K hK=>?step19))
  (go_simp;(refine (frac_cmp _ _ p 1 M (ratLen 1) _ (bg HG) (bg HG) (by rw [ratLen_one];omega)).mono ?_);(rintro e1 w3 ⟨rfl,hb1⟩);(have HG:=HG.step hb1);(clear hb1);(have ra:RowC _ w.heap.size 36 [.bool s,.slice A n c,.slice D k e]:=(bg HG)))
  refine hK.out _ _ ?hS19 (fun hHeld=>?rest19)
  case hS19=>(first | exact ⟨ra.cell 0,ra.cell 1,ra.cell 2⟩ | assumption | go_keep)
  clear hK K
  try simp only [Act.put,sp]
  refine tk 7 rfl ?_
  try simp only [Act.put,sp]
  refine tk 8 rfl ?_
  try simp only [Act.put,sp]
  refine tk 9 rfl ?_
  try simp only [Act.put,sp]
  refine wpAnyH_done (by kernel_rfl) ?_ _
  go_simp
  go_simp
  (try go_wp2_with fail)
  go_ret
  exact ⟨by rw [HO.out,d1];rfl,HG.bel⟩
set_option maxRecDepth 100000 in
set_option maxHeartbeats 4000000 in
theorem outside_ref (u:Value) (p:Rat) (M:Nat) (w:World) (hu:RatAt w u p M) (hb:M≤100000000000):Calls Tryz.prog 59 #[u] w fun e w'=>e=.returned (.bool (outQ p))∧Below w.heap.size w w':=by
 obtain ⟨s,A,n,c,xs,D,k,e,ds,rfl,hx⟩:=hu.ex
 clear hx
 have HG:=(Held.and (Q:=fun w=>RatAt w (.agg #[.bool s,.slice A n c,.slice D k e]) p M) (Held.init w) hu).new 36 [.bool s,.slice A n c,.slice D k e]
 have HO:=Lib.hid (show outQ p=(decide (sgnQ p < 0) || decide (0 < cmpQ p 1)) from rfl)
 have HG:=HG.drew
 have ra:RowC _ w.heap.size 36 [.bool s,.slice A n c,.slice D k e]:=(bg HG)
 generalize hsg:sgnQ p=sg at *
 have HSG:=Lib.hid hsg
 clear hu hsg
 by_cases hs:sg < 0
 ·have d1:decide (sg < 0)=true:=decide_eq_true hs
  go_enter Tryz.func59,Tryz.ntmps59
  go_upto_region 1 with fail
  refine wp_region_held_drew (S:=fun w'=>w'.cell? ⟨w.heap.size,0,none⟩=some (.bool s)∧w'.cell? ⟨w.heap.size,1,none⟩=some (.slice A n c)∧w'.cell? ⟨w.heap.size,2,none⟩=some (.slice D k e)) (by kernel_rfl) ?hS23 (fun hHeld=>?rest23)
  case hS23=>(first | exact ⟨ra.cell 0,ra.cell 1,ra.cell 2⟩ | assumption | go_keep)
  refine tk 0 rfl ?_
  try simp only [Act.put,sp]
  refine wpAnyH_ready (rs:=[1]) (by kernel_rfl) (by simp) (consL rfl (fun K hK=>?step25))
  (go_simp;(refine (rfrac_sign _ p M _ (bg HG) (by omega)).mono ?_);(rintro e1 w1 ⟨rfl,hb1⟩);(rw [HSG.out]);(have HG:=HG.step hb1);(clear hb1);(have ra:RowC _ w.heap.size 36 [.bool s,.slice A n c,.slice D k e]:=(bg HG)))
  refine hK.out _ _ ?hS25 (fun hHeld=>?rest25)
  case hS25=>(first | exact ⟨ra.cell 0,ra.cell 1,ra.cell 2⟩ | assumption | go_keep)
  clear hK K
  try simp only [Act.put,sp]
  refine tk 2 rfl ?_
  try simp only [Act.put,sp]
  refine tk 3 rfl ?_
  try simp only [Act.put,sp]
  refine sk 4 rfl ?_
  try simp only [Act.put,sp]
  refine sk 5 rfl ?_
  try simp only [Act.put,sp]
  refine sk 6 rfl ?_
  try simp only [Act.put,sp]
  refine sk 7 rfl ?_
  try simp only [Act.put,sp]
  refine tk 8 rfl ?_
  try simp only [Act.put,sp]
  refine tk 9 rfl ?_
  try simp only [Act.put,sp]
  refine wpAnyH_done (by kernel_rfl) ?_ _
  go_simp
  go_simp
  (try go_wp2_with fail)
  go_ret
  exact ⟨by rw [HO.out,d1];rfl,HG.bel⟩
 ·have d1:decide (sg < 0)=false:=decide_eq_false hs
  go_enter Tryz.func59,Tryz.ntmps59
  go_upto_region 1 with fail
  refine wp_region_held_drew (S:=fun w'=>w'.cell? ⟨w.heap.size,0,none⟩=some (.bool s)∧w'.cell? ⟨w.heap.size,1,none⟩=some (.slice A n c)∧w'.cell? ⟨w.heap.size,2,none⟩=some (.slice D k e)) (by kernel_rfl) ?hS34 (fun hHeld=>?rest34)
  case hS34=>(first | exact ⟨ra.cell 0,ra.cell 1,ra.cell 2⟩ | assumption | go_keep)
  refine tk 0 rfl ?_
  try simp only [Act.put,sp]
  refine wpAnyH_ready (rs:=[1]) (by kernel_rfl) (by simp) (consL rfl (fun K hK=>?step36))
  (go_simp;(refine (rfrac_sign _ p M _ (bg HG) (by omega)).mono ?_);(rintro e1 w1 ⟨rfl,hb1⟩);(rw [HSG.out]);(have HG:=HG.step hb1);(clear hb1);(have ra:RowC _ w.heap.size 36 [.bool s,.slice A n c,.slice D k e]:=(bg HG)))
  refine hK.out _ _ ?hS36 (fun hHeld=>?rest36)
  case hS36=>(first | exact ⟨ra.cell 0,ra.cell 1,ra.cell 2⟩ | assumption | go_keep)
  clear hK K
  try simp only [Act.put,sp]
  refine tk 2 rfl ?_
  try simp only [Act.put,sp]
  refine tk 3 rfl ?_
  try simp only [Act.put,sp]
  refine tk 4 rfl ?_
  try simp only [Act.put,sp]
  refine wpAnyH_ready (rs:=[5]) (by kernel_rfl) (by simp) (consL rfl (fun K hK=>?step40))
  (go_simp;(refine (one_ref _).mono ?_);(intro e1 w2 hp);(obtain ⟨v1,rfl,hv1,hb1⟩:=hp.at (by rw [ratLen_one];decide));(have HG:=Held.and (Q:=fun w=>RatAt w v1 1 (ratLen 1)) (HG.step hb1) hv1);(clear hb1 hv1 hp);(have ra:RowC _ w.heap.size 36 [.bool s,.slice A n c,.slice D k e]:=(bg HG)))
  refine hK.out _ _ ?hS40 (fun hHeld=>?rest40)
  case hS40=>(first | exact ⟨ra.cell 0,ra.cell 1,ra.cell 2⟩ | assumption | go_keep)
  clear hK K
  try simp only [Act.put,sp]
  refine wpAnyH_ready (rs:=[6]) (by kernel_rfl) (by simp) (consL rfl (fun K hK=>?step41))
  (go_simp;(refine (rfrac_cmp _ _ p 1 M (ratLen 1) _ (bg HG) (bg HG) (by rw [ratLen_one];omega)).mono ?_);(rintro e1 w3 ⟨rfl,hb1⟩);(have HG:=HG.step hb1);(clear hb1);(have ra:RowC _ w.heap.size 36 [.bool s,.slice A n c,.slice D k e]:=(bg HG)))
  refine hK.out _ _ ?hS41 (fun hHeld=>?rest41)
  case hS41=>(first | exact ⟨ra.cell 0,ra.cell 1,ra.cell 2⟩ | assumption | go_keep)
  clear hK K
  try simp only [Act.put,sp]
  refine tk 7 rfl ?_
  try simp only [Act.put,sp]
  refine tk 8 rfl ?_
  try simp only [Act.put,sp]
  refine tk 9 rfl ?_
  try simp only [Act.put,sp]
  refine wpAnyH_done (by kernel_rfl) ?_ _
  go_simp
  go_simp
  (try go_wp2_with fail)
  go_ret
  exact ⟨by rw [HO.out,d1];rfl,HG.bel⟩
end Go.Proofs.YtmncjibcoffmfaaGreat
