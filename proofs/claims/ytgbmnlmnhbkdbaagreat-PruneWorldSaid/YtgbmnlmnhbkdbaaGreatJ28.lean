/- Joined by program out of: WLaw, OpenWorld. What each says stands at its own head. -/
import Derived.Test.YtgbmnlmnhbkdbaaGreatWSums
import Derived.Test.YtgbmnlmnhbkdbaaGreatWFit
import Derived.Test.YtgbmnlmnhbkdbaaGreatJ6
set_option linter.unusedVariables false
set_option linter.unusedSimpArgs false
/- credencelaw17.PruneWorld, walked: it returns true. Condition: the world reads. -/
namespace Go.Proofs.YtgbmnlmnhbkdbaaGreat
open Go.RowKit

theorem above_ok {Ps:List (List Int)} {l:List Int} (hc:checkP Ps=0) (h:InN Ps.length l):aboveE Ps l=0:=by
 unfold aboveE;rw [if_neg (by rw [hc];simp),if_pos h.row]
theorem range_filter (n:Nat):List.range n=(List.range n).filter fun _=>true:=by rw [List.filter_eq_self.2 (fun _ _=>rfl)]
theorem kept_filter (Ps:List (List Int)) (asked given:List Int) (ap:Bool):keptL Ps asked given true ap=(List.range Ps.length).filter (keptB Ps asked given ap):=by
 unfold keptL keptTo
 refine List.filter_congr fun x hx=>?_
 rw [List.mem_range] at hx
 unfold keptB
 rw [Bool.eq_iff_iff,decide_eq_true_iff,mem_kept];simp [hx]
theorem kept_len (Ps:List (List Int)) (asked given:List Int) (ap:Bool):(keptL Ps asked given true ap).length≤Ps.length:=keptTo_length _ _ _ _ _ _
theorem mk_pow2 (d:Nat):mkRat (((2 ^ d:Nat)):Int) 1=2 ^ d:=by
 induction d with
 | zero=>rfl
 | succ d ih =>
   rw [Rat.pow_succ,← ih,Nat.pow_succ]
   rw [show mkRat ((2 ^ d * 2:Nat):Int) 1=mkRat ((2 ^ d:Nat):Int) 1 * mkRat ((2:Nat):Int) 1 from by rw [Rat.mkRat_mul_mkRat];push_cast;rfl]
   rfl
theorem sgnQ_zero {q:Rat}:sgnQ q=0 ↔ q=0:=by
 unfold sgnQ sgnI
 constructor
 ·intro h
  split at h
  ·cases h
  ·split at h
   ·exact Rat.num_eq_zero.1 ‹_›
   ·cases h
 ·rintro rfl;rfl
theorem kept_at {W:WV} (hP:W.Ps.length=W.n) {ap:Bool} {t:Nat} (ht:t < (keptL W.Ps W.al W.gl true ap).length):nth (keptL W.Ps W.al W.gl true ap) t < W.n:=by
 rw [← hP];exact (mem_kept.1 (nth_mem ht)).1
structure WEnd (w0 w:World) (W:WV) (N g1 g2 g3 gd:Nat) (dq:Rat) (qa qf qm:Nat→Rat):Prop where
 bel:Below w0.heap.size w0 w
 all:QRow w (g1 + 1) g1 N qa
 few:QRow w (g2 + 1) g2 N qf
 fewer:QRow w (g3 + 1) g3 N qm
 dbl:BoxQ w w0.heap.size gd dq
theorem WEnd.step {w0 w w':World} {W:WV} {N g1 g2 g3 gd:Nat} {dq:Rat} {qa qf qm:Nat→Rat} (h:WEnd w0 w W N g1 g2 g3 gd dq qa qf qm) (hb:Below w.heap.size w w'):WEnd w0 w' W N g1 g2 g3 gd dq qa qf qm:=
 ⟨h.bel.trans (hb.mono h.bel.size),h.all.below hb,h.few.below hb,h.fewer.below hb,h.dbl.below hb⟩
set_option maxRecDepth 100000 in
set_option maxHeartbeats 4000000 in
theorem world_any (W:WV) (w:World) (h:WAt w W):Calls Tryz.prog 3 #[W.val] w fun e w'=>e=.returned (.bool true)∧Below w.heap.size w w':=by
 have H:=(Held.init w).new 25 W.cells
 have HW0:WBox w (w.alloc (.cells W.cells.toArray 25)) w.heap.size W:=⟨H.has.1,Stable.below (P:=fun w=>WAt w W) ((Below.refl _ _).alloc (Nat.le_refl _) _) h,H.bel⟩
 have hPl:=h.par.len
 show Calls Tryz.prog 3 #[.agg #[.slice W.PA W.n W.pc,.slice W.TA W.m W.tc,.slice W.AA W.k W.ac,.slice W.GA W.g W.gc,.int .i64 W.V]] w _
 obtain ⟨wq,hwq⟩:∃ wq:World,wq=w.alloc (.cells #[.slice W.PA W.n W.pc,.slice W.TA W.m W.tc,.slice W.AA W.k W.ac,.slice W.GA W.g W.gc,.int .i64 W.V] 25):=⟨_,rfl⟩
 have HW0:WBox w wq w.heap.size W:=by rw [hwq];exact HW0
 have HX:=Lib.hid HW0
 have HPl:=Lib.hid hPl
 clear HW0 H h hPl
 go_enter Tryz.func3,Tryz.ntmps3
 go_upto_region 1 with fail
 rw [← hwq]
 clear hwq
 go_wp2_with fail
 refine (alive17_any _).mono ?_
 rintro e w1 ⟨rfl,hb1⟩
 have HY:=Lib.hid (HX.out.step hb1)
 clear hb1
 obtain ⟨r0,r1,r2,r3,r4⟩:=HY.out.cells
 go_wp2_with fail
 refine (fit_any W _ HY.out.at').mono ?_
 rintro e w2 ⟨b,rfl,hb,hb2⟩
 have HZ:=Lib.hid (HY.out.step hb2)
 have HOKB:=Lib.hid hb
 clear hb hb2 r0 r1 r2 r3 r4
 obtain ⟨r0,r1,r2,r3,r4⟩:=HZ.out.cells
 cases b
 ·as_aux_lemma =>
  go_wp2_with fail
  go_ret
  exact ⟨rfl,HZ.out.bel⟩
 have HOK:=Lib.hid (HOKB.out rfl)
 have hn7:=HOK.out.n7
 clear HOKB
 go_wp2_with fail
 go_loopw [5,6] (fun s i wr=>∃ (t c:Nat) (A:Option Addr),t≤W.n∧i=.int .i64 (t:Nat)∧s=.slice A t c∧OwnR (Value.int .i64) wr w2.heap.size 3 A t c (castL (List.range t))∧Below w2.heap.size w2 wr) (fun _ i _=>W.n - (intOf i).toNat)
 case atStart=>exact ⟨0,0,none,by omega,rfl,rfl,OwnR.nil _ _ _ _,Below.refl _ _⟩
 case round =>
  obtain ⟨t,c,A,ht,rfl,rfl,hown,hbw⟩:=hrel
  obtain ⟨wo,hwo⟩:∃ wo:World,wo=wr:=⟨_,rfl⟩
  subst hwo
  have hwb:=HZ.out.step hbw
  clear r0 r1 r2 r3 r4
  obtain ⟨r0,r1,r2,r3,r4⟩:=hwb.cells
  by_cases htn:t < W.n
  ·as_aux_lemma =>
   have i5:(t:Int) < (W.n:Int):=by omega
   have hsn:castL (List.range (t + 1))=castL (List.range t) ++ [(t:Int)]:=by rw [List.range_succ,castL_snoc]
   have hl1:Sl (Value.int .i64) (wo.alloc (.cells #[.int .i64 (t:Int)] 3)) (some ⟨wo.heap.size,0,none⟩) 1 [(t:Int)]:=sl_lit wo [(t:Int)] (by simp)
   have hO1:=hown.alloc (.cells #[.int .i64 (t:Int)] 3)
   have hwz:=hbw.size
   have hwz1:w2.heap.size≤(wo.alloc (.cells #[.int .i64 (t:Int)] 3)).heap.size:=by simp;omega
   have hb1:=hbw.alloc hwz (.cells #[.int .i64 (t:Int)] 3)
   have HS:=Lib.hid (And.intro hsn hb1)
   clear hsn hb1 hown hbw hwb
   go_wp2_with (first
    | (at_builtin;(with_reducible refine wpList_app _ eiInt (Value.int .i64) (fun _=>rfl) rfl _ _ rfl w2.heap.size _ _ _ _ rfl hO1 _ _ _ _ rfl hl1 (by omega) hwz1 ?_))
    | fail)
   intro A9 c9 w9 ho9 _ hb9 _
   have HE:=Lib.hid (And.intro ho9 (HS.out.2.trans hb9))
   clear ho9 hb9 hO1 hl1
   go_wp2_with fail
   exact ⟨⟨t + 1,c9,A9,by omega,by go_num,rfl,by rw [HS.out.1];exact HE.out.1,HE.out.2⟩,by simp [intOf];omega⟩
  obtain rfl:t=W.n:=by omega
  have i5:¬ (W.n:Int) < (W.n:Int):=by omega
  have HB:=Lib.hid hwb
  have HEV:=Lib.hid (hown.sl (by omega))
  clear hwb hown hbw
  go_wp2_with fail
  refine (sums_any W A W.n c (List.range W.n) _ HB.out.at' HOK.out HEV.out (fun v hv=>List.mem_range.1 hv) (by rw [List.length_range];omega)).mono ?_
  rintro e w3 ⟨g1,rfl,hg1,hq1,hb3⟩
  have HB3:=Lib.hid (HB.out.step hb3)
  have HQ1:=Lib.hid (And.intro hg1 hq1)
  clear hg1 hq1 hb3 r0 r1 r2 r3 r4
  obtain ⟨r0,r1,r2,r3,r4⟩:=HB3.out.cells
  have hrow:∀ i,i < W.Ps.length→(nth W.Ps i).length≤1000:=fun i hi=>by
   have:=(HOK.out.par HPl.out (v:=i) (by rw [← HPl.out];exact hi)).2;omega
  have hk3:=HOK.out.k3
  have hg9:=HOK.out.g9
  have hae:aboveE W.Ps (W.al ++ W.gl)=0:=above_ok HOK.out.chk (by rw [HPl.out];exact HOK.out.askn.app HOK.out.givn)
  have HROW:=Lib.hid hrow
  have HAE:=Lib.hid hae
  clear hrow hae
  go_wp2_with fail
  refine (kept_prune W.PA W.AA W.GA W.n W.pc W.k W.ac W.g W.gc W.Ps W.al W.gl true false _ HB3.out.at'.par HB3.out.at'.ask HB3.out.at'.giv (by omega) HROW.out (by omega) (by omega)).mono ?_
  rintro e w4 ⟨hb4,L2,k2,d2,rfl,ho2,_⟩
  rw [HAE.out]
  have HB4:=Lib.hid (HB3.out.step hb4)
  have ho2:=ho2 HAE.out
  have HQ1:=Lib.hid (show w.heap.size≤g1∧QRow w4 (g1 + 1) g1 (2 ^ W.k) (partQ (entQ W.Ts W.Ps) (List.range W.n) W.gl (bitsZ W.V) W.al (2 ^ W.n)) from ⟨Nat.le_trans HB.out.bel.size HQ1.out.1,HQ1.out.2.below hb4⟩)
  have HL2:=Lib.hid (ho2.sl (by have:=ho2.length;have:=kept_len W.Ps W.al W.gl false;unfold castL at *;rw [List.length_map] at *;rw [HPl.out] at *;omega))
  have HK2:=Lib.hid (show k2=(keptL W.Ps W.al W.gl true false).length by have:=ho2.length;unfold castL at this;rw [List.length_map] at this;exact this.symm)
  clear hb4 ho2 r0 r1 r2 r3 r4
  obtain ⟨r0,r1,r2,r3,r4⟩:=HB4.out.cells
  go_wp2_with fail
  refine (kept_prune W.PA W.AA W.GA W.n W.pc W.k W.ac W.g W.gc W.Ps W.al W.gl true true _ HB4.out.at'.par HB4.out.at'.ask HB4.out.at'.giv (by omega) HROW.out (by omega) (by omega)).mono ?_
  rintro e w5 ⟨hb5,L3,k3,d3,rfl,ho3,_⟩
  rw [HAE.out]
  have HB5:=Lib.hid (HB4.out.step hb5)
  have ho3:=ho3 HAE.out
  have HQ1:=Lib.hid (And.intro HQ1.out.1 (HQ1.out.2.below hb5))
  have HL2:=Lib.hid (HL2.out.below (Nat.le_refl _) hb5)
  have HL3:=Lib.hid (ho3.sl (by have:=ho3.length;have:=kept_len W.Ps W.al W.gl true;unfold castL at *;rw [List.length_map] at *;rw [HPl.out] at *;omega))
  have hk3':k3=(keptL W.Ps W.al W.gl true true).length:=by have:=ho3.length;unfold castL at this;rw [List.length_map] at this;exact this.symm
  have hk2n:k2≤W.n:=by rw [HK2.out,← HPl.out];exact kept_len _ _ _ _
  have hk3n:k3≤W.n:=by rw [hk3',← HPl.out];exact kept_len _ _ _ _
  have HK:=Lib.hid (And.intro HK2.out hk3')
  clear hb5 ho3 r0 r1 r2 r3 r4 hk3' HK2
  have i6:¬ (W.n:Int) < (k2:Int):=by omega
  have i7:¬ (W.n:Int) < (k3:Int):=by omega
  have hN8:2 ^ W.k≤8:=Nat.le_trans (Nat.pow_le_pow_right (by decide) hk3) (by decide)
  obtain ⟨N,hN⟩:∃ N:Nat,N=2 ^ W.k:=⟨_,rfl⟩
  rw [← hN] at hN8 ⊢
  have HN:=Lib.hid hN
  clear hN
  go_wp2_with fail
  clear i6 i7
  go_loopw [12] (fun i wx=>∃ t:Nat,t≤k2∧i=.int .i64 (t:Nat)∧Below w5.heap.size w5 wx) (fun i _=>k2 - (intOf i).toNat)
  case atStart=>exact ⟨0,by omega,rfl,Below.refl _ _⟩
  case round =>
   obtain ⟨t,ht,rfl,hbx⟩:=hrel
   obtain ⟨wx,hwx⟩:∃ wx:World,wx=wr:=⟨_,rfl⟩
   subst hwx
   have HBX:=Lib.hid hbx
   obtain ⟨r0,r1,r2,r3,r4⟩:=(HB5.out.step hbx).cells
   by_cases htk:t < k2
   ·as_aux_lemma =>
    obtain ⟨b1,o1,rfl,hb1,hc1⟩:=(HL2.out.below (Nat.le_refl _) hbx).at' (by omega)
    have q1:=hc1 t htk
    rw [show nth (castL (keptL W.Ps W.al W.gl true false)) t=((nth (keptL W.Ps W.al W.gl true false) t:Nat):Int) from by unfold castL;exact nth_map _ (by rw [← HK.out.1];exact htk)] at q1
    have hun:=kept_at HPl.out (ap:=false) (t:=t) (by rw [← HK.out.1];exact htk)
    generalize nth (keptL W.Ps W.al W.gl true false) t=u at *
    have i5:(t:Int) < (k2:Int):=by omega
    have j1:¬ (W.n:Int)≤(u:Int):=by omega
    have j2:¬ (u:Int) < 0:=by omega
    have j3:decide ((W.n:Int)≤(u:Int))=false:=decide_eq_false j1
    have j4:decide (W.n≤u)=false:=decide_eq_false (by omega)
    clear hc1 hbx
    go_upto_region 18 with fail
    refine wp_region_held_drew (S:=fun w'=>w'.cell? ⟨w.heap.size,0,none⟩=some (.slice W.PA W.n W.pc)∧w'.cell? ⟨b1,o1 + t,none⟩=some (.int .i64 (u:Int))) (by kernel_rfl) ?hS1 (fun hHeld=>?rest1)
    case hS1=>(first | exact ⟨r0,q1⟩ | assumption | go_keep)
    refine tk 0 rfl ?_
    try simp only [Act.put,sp]
    refine tk 1 rfl ?_
    try simp only [Act.put,sp]
    refine tk 2 rfl ?_
    try simp only [Act.put,sp]
    refine tk 3 rfl ?_
    try simp only [Act.put,sp]
    refine tk 4 rfl ?_
    try simp only [Act.put,sp]
    refine tk 5 rfl ?_
    try simp only [Act.put,sp]
    refine tk 6 rfl ?_
    try simp only [Act.put,sp]
    refine tk 7 rfl ?_
    try simp only [Act.put,sp]
    refine tk 8 rfl ?_
    try simp only [Act.put,sp]
    refine tk 9 rfl ?_
    try simp only [Act.put,sp]
    refine tk 10 rfl ?_
    try simp only [Act.put,sp]
    refine tk 11 rfl ?_
    try simp only [Act.put,sp]
    refine tk 12 rfl ?_
    try simp only [Act.put,sp]
    refine tk 13 rfl ?_
    try simp only [Act.put,sp]
    refine tk 14 rfl ?_
    try simp only [Act.put,sp]
    refine wpAnyH_done (by kernel_rfl) ?_ _
    go_simp
    go_simp
    (try go_wp2_with fail)
    exact ⟨⟨t + 1,by omega,by go_num,HBX.out.trans ((below_refl_drewN _ _ 1).mono HBX.out.size)⟩,by simp [intOf];omega⟩
   obtain rfl:t=k2:=by omega
   have i5:¬ (t:Int) < (t:Int):=by omega
   clear hbx
   go_wp2_with fail
   clear r0 r1 r2 r3 r4
   obtain ⟨wy,hwy⟩:∃ wy:World,wy=wx:=⟨_,rfl⟩
   subst hwy
   go_loopw [13] (fun i wz=>∃ q:Nat,q≤k3∧i=.int .i64 (q:Nat)∧Below w5.heap.size w5 wz) (fun i _=>k3 - (intOf i).toNat)
   case atStart=>exact ⟨0,by omega,rfl,HBX.out⟩
   case round =>
    obtain ⟨q,hq,rfl,hbx⟩:=hrel
    obtain ⟨wz,hwz⟩:∃ wz:World,wz=wr:=⟨_,rfl⟩
    subst hwz
    have HBZ:=Lib.hid hbx
    have HB6:=Lib.hid (HB5.out.step hbx)
    obtain ⟨r0,r1,r2,r3,r4⟩:=HB6.out.cells
    by_cases hqk:q < k3
    ·as_aux_lemma =>
     obtain ⟨b1,o1,rfl,hb1,hc1⟩:=(HL3.out.below (Nat.le_refl _) hbx).at' (by omega)
     have q1:=hc1 q hqk
     rw [show nth (castL (keptL W.Ps W.al W.gl true true)) q=((nth (keptL W.Ps W.al W.gl true true) q:Nat):Int) from by unfold castL;exact nth_map _ (by rw [← HK.out.2];exact hqk)] at q1
     have hun:=kept_at HPl.out (ap:=true) (t:=q) (by rw [← HK.out.2];exact hqk)
     generalize nth (keptL W.Ps W.al W.gl true true) q=u at *
     have i5:(q:Int) < (k3:Int):=by omega
     have j1:¬ (W.n:Int)≤(u:Int):=by omega
     have j2:¬ (u:Int) < 0:=by omega
     have j3:decide ((W.n:Int)≤(u:Int))=false:=decide_eq_false j1
     have j4:decide (W.n≤u)=false:=decide_eq_false (by omega)
     clear hc1 hbx
     go_upto_region 23 with fail
     refine wp_region_held_drew (S:=fun w'=>w'.cell? ⟨w.heap.size,0,none⟩=some (.slice W.PA W.n W.pc)∧w'.cell? ⟨b1,o1 + q,none⟩=some (.int .i64 (u:Int))) (by kernel_rfl) ?hS17 (fun hHeld=>?rest17)
     case hS17=>(first | exact ⟨r0,q1⟩ | assumption | go_keep)
     refine tk 0 rfl ?_
     try simp only [Act.put,sp]
     refine tk 1 rfl ?_
     try simp only [Act.put,sp]
     refine tk 2 rfl ?_
     try simp only [Act.put,sp]
     refine tk 3 rfl ?_
     try simp only [Act.put,sp]
     refine tk 4 rfl ?_
     try simp only [Act.put,sp]
     refine tk 5 rfl ?_
     try simp only [Act.put,sp]
     refine tk 6 rfl ?_
     try simp only [Act.put,sp]
     refine tk 7 rfl ?_
     try simp only [Act.put,sp]
     refine tk 8 rfl ?_
     try simp only [Act.put,sp]
     refine tk 9 rfl ?_
     try simp only [Act.put,sp]
     refine tk 10 rfl ?_
     try simp only [Act.put,sp]
     refine tk 11 rfl ?_
     try simp only [Act.put,sp]
     refine tk 12 rfl ?_
     try simp only [Act.put,sp]
     refine tk 13 rfl ?_
     try simp only [Act.put,sp]
     refine tk 14 rfl ?_
     try simp only [Act.put,sp]
     refine wpAnyH_done (by kernel_rfl) ?_ _
     go_simp
     go_simp
     (try go_wp2_with fail)
     exact ⟨⟨q + 1,by omega,by go_num,HBZ.out.trans ((below_refl_drewN _ _ 1).mono HBZ.out.size)⟩,by simp [intOf];omega⟩
    obtain rfl:q=k3:=by omega
    have i5:¬ (q:Int) < (q:Int):=by omega
    clear hbx
    obtain ⟨d,hd⟩:∃ d:Nat,d=W.n - t:=⟨_,rfl⟩
    have hsub:(W.n:Int) - (t:Int)=(d:Int):=by omega
    have hd7:d≤7:=by omega
    have d0:(0:Int)≤(d:Int):=by omega
    have d1:(d:Int)≤64:=by omega
    obtain ⟨D2,hD2⟩:∃ D2:Nat,D2=2 ^ d:=⟨_,rfl⟩
    have hD128:D2≤128:=by rw [hD2];exact Nat.le_trans (Nat.pow_le_pow_right (by decide) hd7) (by decide)
    have hDi:(2:Int) ^ d=(D2:Int):=by rw [hD2];push_cast;rfl
    have HD:=Lib.hid (And.intro hd hD2)
    clear hd hD2
    go_wp2_with fail
    have hof:Calls Tryz.prog 8 #[.int .i64 (D2:Int),.int .i64 1] wz (RatOkPost (2 ^ d) wz):=by
     have:=frac_of D2 1 wz (by omega) (by decide) (by decide)
     rw [HD.out.2,mk_pow2] at this
     rw [HD.out.2];exact this
    refine hof.mono ?_
    rintro e w6 ⟨R1,c1,D1,dd1,rfl,ho,ho2,hsep,hb6⟩
    obtain ⟨dq,hdq⟩:∃ p:Rat,p=2 ^ d:=⟨_,rfl⟩
    rw [← hdq] at ho ho2 ⊢
    have hdl:ratLen dq≤2:=by rw [hdq,← mk_pow2,← HD.out.2];exact small_len (by omega) (by decide) (by decide)
    have HDQ:=Lib.hid hdq
    obtain ⟨w7,hw7⟩:∃ w7:World,w7=w6.alloc (.cells #[.bool (isNeg dq.num),.slice R1 (limbs dq.num.natAbs).length c1,.slice D1 (limbs dq.den).length dd1] 38):=⟨_,rfl⟩
    have hb7:Below w6.heap.size w6 w7:=by rw [hw7];exact (Below.refl _ _).alloc (Nat.le_refl _) _
    have hbx:BoxQ w7 w.heap.size w6.heap.size dq:=⟨R1,c1,D1,dd1,by rw [hw7];exact heap_alloc_new _ _,(ho.below (Nat.le_refl _) hb7).mono HB6.out.bel.size,(ho2.below (Nat.le_refl _) hb7).mono HB6.out.bel.size,hsep⟩
    obtain ⟨gd,hgd⟩:∃ gd,gd=w6.heap.size:=⟨_,rfl⟩
    have HB7:=Lib.hid (And.intro (HB6.out.step (hb6.trans (hb7.mono hb6.size))) (And.intro (HBZ.out.trans ((hb6.trans (hb7.mono hb6.size)).mono HBZ.out.size)) hbx))
    rw [← hgd] at HB7
    clear hdq ho ho2 hsep hb6 hb7 hbx r0 r1 r2 r3 r4 hof hDi hsub
    obtain ⟨r0,r1,r2,r3,r4⟩:=HB7.out.1.cells
    rw [hw7] at r0 r1 r2 r3 r4
    go_wp2_with fail
    rw [← hw7,← hgd]
    rw [← hw7] at r0 r1 r2 r3 r4
    clear hw7 hgd
    refine (sums_any W L2 t d2 (keptL W.Ps W.al W.gl true false) _ HB7.out.1.at' HOK.out (HL2.out.below (Nat.le_refl _) HB7.out.2.1) (fun v hv=>by rw [← HPl.out];exact (mem_kept.1 hv).1) (by have:=kept_len W.Ps W.al W.gl false;rw [HPl.out] at this;omega)).mono ?_
    rintro e w8 ⟨g2,rfl,hg2,hq2,hb8⟩
    rw [← HN.out] at hq2 ⊢
    have HB8:=Lib.hid (And.intro (HB7.out.1.step hb8) (And.intro (HB7.out.2.1.trans (hb8.mono HB7.out.2.1.size)) (And.intro (HB7.out.2.2.below hb8) (And.intro (Nat.le_trans HB7.out.1.bel.size hg2) hq2))))
    clear hg2 hq2 hb8 r0 r1 r2 r3 r4
    obtain ⟨r0,r1,r2,r3,r4⟩:=HB8.out.1.cells
    go_wp2_with fail
    refine (sums_any W L3 q d3 (keptL W.Ps W.al W.gl true true) _ HB8.out.1.at' HOK.out (HL3.out.below (Nat.le_refl _) HB8.out.2.1) (fun v hv=>by rw [← HPl.out];exact (mem_kept.1 hv).1) (by have:=kept_len W.Ps W.al W.gl true;rw [HPl.out] at this;omega)).mono ?_
    rintro e w9 ⟨g3,rfl,hg3,hq3,hb9⟩
    rw [← HN.out] at hq3 ⊢
    have hall:=(HQ1.out.2.below (HB8.out.2.1.trans (hb9.mono HB8.out.2.1.size)))
    rw [← HN.out] at hall
    have hlr:(List.range W.n).length≤7:=by rw [List.length_range];exact hn7
    have hlf:(keptL W.Ps W.al W.gl true false).length≤7:=by have:=kept_len W.Ps W.al W.gl false;rw [HPl.out] at this;omega
    have hlm:(keptL W.Ps W.al W.gl true true).length≤7:=by have:=kept_len W.Ps W.al W.gl true;rw [HPl.out] at this;omega
    have hM:2 ^ W.n≤128:=Nat.le_trans (Nat.pow_le_pow_right (by decide) hn7) (by decide)
    have hWld:=ent_wld (Ts:=W.Ts) HOK.out.chk
    have hal:InN W.Ps.length W.al:=by rw [HPl.out];exact HOK.out.askn
    have hgl:InN W.Ps.length W.gl:=by rw [HPl.out];exact HOK.out.givn
    have eA:∀ i,partQ (entQ W.Ts W.Ps) (List.range W.n) W.gl (bitsZ W.V) W.al (2 ^ W.n) i=sumsQ (entQ W.Ts W.Ps) (fun _=>true) W.Ps.length W.gl (bitsZ W.V) W.al i:=fun i=>by rw [HPl.out];exact partQ_all _ _ _ _ _ _ _ _ (range_filter _)
    have eF:∀ i,partQ (entQ W.Ts W.Ps) (keptL W.Ps W.al W.gl true false) W.gl (bitsZ W.V) W.al (2 ^ W.n) i=sumsQ (entQ W.Ts W.Ps) (keptB W.Ps W.al W.gl false) W.Ps.length W.gl (bitsZ W.V) W.al i:=fun i=>by rw [HPl.out];exact partQ_all _ _ _ _ _ _ _ _ (by rw [kept_filter,HPl.out])
    have eM:∀ i,partQ (entQ W.Ts W.Ps) (keptL W.Ps W.al W.gl true true) W.gl (bitsZ W.V) W.al (2 ^ W.n) i=sumsQ (entQ W.Ts W.Ps) (keptB W.Ps W.al W.gl true) W.Ps.length W.gl (bitsZ W.V) W.al i:=fun i=>by rw [HPl.out];exact partQ_all _ _ _ _ _ _ _ _ (by rw [kept_filter,HPl.out])
    obtain ⟨qa,hqa⟩:∃ x:Nat→Rat,x=partQ (entQ W.Ts W.Ps) (List.range W.n) W.gl (bitsZ W.V) W.al (2 ^ W.n):=⟨_,rfl⟩
    obtain ⟨qf,hqf⟩:∃ x:Nat→Rat,x=partQ (entQ W.Ts W.Ps) (keptL W.Ps W.al W.gl true false) W.gl (bitsZ W.V) W.al (2 ^ W.n):=⟨_,rfl⟩
    obtain ⟨qm,hqm⟩:∃ x:Nat→Rat,x=partQ (entQ W.Ts W.Ps) (keptL W.Ps W.al W.gl true true) W.gl (bitsZ W.V) W.al (2 ^ W.n):=⟨_,rfl⟩
    have HLAW:=Lib.hid (show (∀ i,cmpQ (qf i) (dq * qa i)=0)∧(∀ i,qa i ≠ 0→qm i ≠ 0)∧(∀ i k,cmpQ (qa i * qm k) (qa k * qm i)=0)∧(∀ i,ratLen (qa i)≤2∧ratLen (qf i)≤2∧ratLen (qm i)≤2) from by
     rw [hqa,hqf,hqm]
     refine ⟨fun i=>?_,fun i=>?_,fun i k=>?_,fun i=>⟨partQ_len _ _ _ _ _ _ _ _ hlr hM,partQ_len _ _ _ _ _ _ _ _ hlf hM,partQ_len _ _ _ _ _ _ _ _ hlm hM⟩⟩
     ·rw [eA,eF,cmpQ_zero,world_few hWld HOK.out.chk hal hgl,HDQ.out,HD.out.1,HPl.out,← HK.out.1]
     ·rw [eA,eM];exact world_none hWld HOK.out.chk hal hgl i
     ·rw [eA,eA,eM,eM,cmpQ_zero];exact world_cross hWld HOK.out.chk hal hgl i k)
    have hend:WEnd w w9 W N g1 g2 g3 gd dq qa qf qm:=⟨(HB8.out.1.step hb9).bel,by rw [hqa];exact hall,by rw [hqf];exact HB8.out.2.2.2.2.below hb9,by rw [hqm];exact hq3,HB8.out.2.2.1.below hb9⟩
    have HEND:=Lib.hid hend
    clear hend hall hq3 hg3 hb9 hlr hlf hlm hM hWld hal hgl eA eF eM hqa hqf hqm r0 r1 r2 r3 r4
    go_wp2_with fail
    go_loopw [18] (fun i wx=>∃ k:Nat,k≤N∧i=.int .i64 (k:Nat)∧WEnd w wx W N g1 g2 g3 gd dq qa qf qm) (fun i _=>N - (intOf i).toNat)
    case atStart=>exact ⟨0,by omega,rfl,HEND.out⟩
    case round =>
     obtain ⟨i,hi,rfl,hend⟩:=hrel
     obtain ⟨wa,hwa⟩:∃ wa:World,wa=wr:=⟨_,rfl⟩
     subst hwa
     have HE:=Lib.hid hend
     by_cases hiN:i < N
     rotate_left
     ·as_aux_lemma =>
      obtain rfl:i=N:=by omega
      have i6:¬ (i:Int) < (i:Int):=by omega
      clear hend
      go_wp2_with fail
      go_ret
      exact ⟨rfl,HE.out.bel⟩
     have i6:(i:Int) < (N:Int):=by omega
     obtain ⟨ha,hha,hza⟩:=hend.all.at hiN
     obtain ⟨hf,hhf,hzf⟩:=hend.few.at hiN
     obtain ⟨R2,c2,D2',e2,hrow,o1,o2,hsep0⟩:=hend.dbl.ex
     have hlen:=HLAW.out.2.2.2 i
     have hl1:=hlen.1
     have hl2:=hlen.2.1
     have hl3:=hlen.2.2
     have hlma:=mul_len dq (qa i)
     have hRa:=hza.at (by omega)
     have hRf:=hzf.at (by omega)
     have hRd:=ratAt_own o1 o2 (by omega)
     have a0:=hha.c0
     have a1:=hha.c1
     have a2:=hha.c2
     have f0:=hhf.c0
     have f1:=hhf.c1
     have f2:=hhf.c2
     have p0:=hrow.cell 0
     have p1:=hrow.cell 1
     have p2:=hrow.cell 2
     have hal:=hha.lt
     have hfl:=hhf.lt
     have hdl2:=hrow.lt
     have HC0:=Lib.hid (HLAW.out.1 i)
     clear hend hha hza hhf hzf hrow o1 o2 hsep0 hlen
     go_upto_region 31 with fail
     have a00:=a0
     have a10:=a1
     have a20:=a2
     have f00:=f0
     have f10:=f1
     have f20:=f2
     have p00:=p0
     have p10:=p1
     have p20:=p2
     have hbw:Below wa.heap.size wa wa.drew:=below_refl_drewN _ _ 1
     have hszw:=hbw.size
     refine wp_region_held_drew (S:=fun w'=>w'.cell? ⟨g1,i * 3,none⟩=some (.bool ha.neg)∧w'.cell? ⟨g1,i * 3 + 1,none⟩=some (.slice ha.A ha.n ha.c)∧w'.cell? ⟨g1,i * 3 + 2,none⟩=some (.slice ha.D ha.k ha.e)∧w'.cell? ⟨g2,i * 3,none⟩=some (.bool hf.neg)∧w'.cell? ⟨g2,i * 3 + 1,none⟩=some (.slice hf.A hf.n hf.c)∧w'.cell? ⟨g2,i * 3 + 2,none⟩=some (.slice hf.D hf.k hf.e)∧w'.cell? ⟨gd,0,none⟩=some (.bool (isNeg dq.num))∧w'.cell? ⟨gd,1,none⟩=some (.slice R2 (limbs dq.num.natAbs).length c2)∧w'.cell? ⟨gd,2,none⟩=some (.slice D2' (limbs dq.den).length e2)) (by kernel_rfl) ?hS33 (fun hHeld=>?rest33)
     case hS33=>(first | exact ⟨a0,a1,a2,f0,f1,f2,p0,p1,p2⟩ | assumption | go_keep)
     refine tk 0 rfl ?_
     try simp only [Act.put,sp]
     refine tk 1 rfl ?_
     try simp only [Act.put,sp]
     refine tk 2 rfl ?_
     try simp only [Act.put,sp]
     refine tk 3 rfl ?_
     try simp only [Act.put,sp]
     refine tk 4 rfl ?_
     try simp only [Act.put,sp]
     refine tk 5 rfl ?_
     try simp only [Act.put,sp]
     refine tk 6 rfl ?_
     try simp only [Act.put,sp]
     refine tk 7 rfl ?_
     try simp only [Act.put,sp]
     refine tk 8 rfl ?_
     try simp only [Act.put,sp]
     refine wpAnyH_ready (rs:=[9]) (by kernel_rfl) (by simp) (consL rfl (fun K hK=>?step43))
     (go_simp;(refine (frac_mul _ _ dq (qa i) (ratLen dq) (ratLen (qa i)) _ (hRd.below (Nat.le_refl _) hbw) (hRa.below (Nat.le_refl _) hbw) (by omega)).mono ?_);(intro e1 y0 hp0);(obtain ⟨v9,rfl,hv9,hbq0⟩:=hp0.at (by omega));(have hqb:=hszw);(have hbs:Below _ _ y0:=hbq0);(have hbw:=hbw.trans (hbs.mono hszw));(have hszw:=hbw.size);(have a0:=bc hbw a00 hal);(have a1:=bc hbw a10 hal);(have a2:=bc hbw a20 hal);(have f0:=bc hbw f00 hfl);(have f1:=bc hbw f10 hfl);(have f2:=bc hbw f20 hfl);(have p0:=bc hbw p00 hdl2);(have p1:=bc hbw p10 hdl2);(have p2:=bc hbw p20 hdl2))
     refine hK.out _ _ ?hS43 (fun hHeld=>?rest43)
     case hS43=>(first | exact ⟨a0,a1,a2,f0,f1,f2,p0,p1,p2⟩ | assumption | go_keep)
     clear hK K
     try simp only [Act.put,sp]
     refine wpAnyH_ready (rs:=[10]) (by kernel_rfl) (by simp) (consL rfl (fun K hK=>?step44))
     (go_simp;(refine (frac_cmp _ _ (qf i) (dq * qa i) (ratLen (qf i)) (ratLen (dq * qa i)) _ (hRf.below (Nat.le_refl _) hbw) hv9 (by omega)).mono ?_);(intro e1 y1 hp1);(obtain ⟨rfl,hbq1⟩:=hp1);(rw [HC0.out]);(have hqb:=hszw);(have hbs:Below _ _ y1:=hbq1);(have hbw:=hbw.trans (hbs.mono hszw));(have hszw:=hbw.size);(have a0:=bc hbw a00 hal);(have a1:=bc hbw a10 hal);(have a2:=bc hbw a20 hal);(have f0:=bc hbw f00 hfl);(have f1:=bc hbw f10 hfl);(have f2:=bc hbw f20 hfl);(have p0:=bc hbw p00 hdl2);(have p1:=bc hbw p10 hdl2);(have p2:=bc hbw p20 hdl2))
     refine hK.out _ _ ?hS44 (fun hHeld=>?rest44)
     case hS44=>(first | exact ⟨a0,a1,a2,f0,f1,f2,p0,p1,p2⟩ | assumption | go_keep)
     clear hK K
     try simp only [Act.put,sp]
     refine tk 11 rfl ?_
     try simp only [Act.put,sp]
     refine wpAnyH_done (by kernel_rfl) ?_ _
     go_simp
     have HE1:=Lib.hid (HE.out.step hbw)
     have hRa1:=hRa.below (Nat.le_refl _) hbw
     clear hRa hRf hRd hbw hv9 hHeld a00 a10 a20 f00 f10 f20 p00 p10 p20 f0 f1 f2 p0 p1 p2
     go_upto_region 33 with fail
     go_cut [173] from 160 to 173 (fun b wx=>b=.bool false∧WEnd w wx W N g1 g2 g3 gd dq qa qf qm)
     case first=>as_aux_lemma =>
      go_wp2_with fail
      refine (frac_sign _ (qa i) (ratLen (qa i)) _ hRa1).mono ?_
      rintro e w10 ⟨rfl,hb10⟩
      have HE2:=Lib.hid (HE1.out.step hb10)
      by_cases hq0:qa i=0
      ·rw [sgnQ_zero.2 hq0]
       clear hq0
       go_wp2_with fail
       go_meet
       exact ⟨rfl,HE2.out⟩
      ·have hs1:¬ sgnQ (qa i)=0:=fun h=>hq0 (sgnQ_zero.1 h)
       have hs2:¬ sgnQ (qm i)=0:=fun h=>HLAW.out.2.1 i hq0 (sgnQ_zero.1 h)
       have hs3:(sgnQ (qa i) == 0)=false:=beq_eq_false_iff_ne.2 hs1
       have hs4:(sgnQ (qm i) == 0)=false:=beq_eq_false_iff_ne.2 hs2
       obtain ⟨hm,hhm,hzm⟩:=HE2.out.fewer.at hiN
       have hRm:=hzm.at (by omega)
       have m0:=hhm.c0
       have m1:=hhm.c1
       have m2:=hhm.c2
       clear hq0 hhm hzm hRa1 hb10 a0 a1 a2
       go_wp2_with fail
       refine (frac_sign _ (qm i) (ratLen (qm i)) _ hRm).mono ?_
       rintro e w11 ⟨rfl,hb11⟩
       have HE3:=Lib.hid (HE2.out.step hb11)
       clear hRm hb11 m0 m1 m2
       go_wp2_with fail
       go_meet
       exact ⟨rfl,HE3.out⟩
     case rest =>
      obtain ⟨rfl,hend2⟩:=hcut
      have HE4:=Lib.hid hend2
      clear hend2 hRa1 a0 a1 a2
      go_wp2_with fail
      go_loopw [19] (fun x wx=>∃ k:Nat,k≤i∧x=.int .i64 (k:Nat)∧WEnd w wx W N g1 g2 g3 gd dq qa qf qm) (fun x _=>i - (intOf x).toNat)
      case atStart=>exact ⟨0,by omega,rfl,HE4.out⟩
      case round =>
       obtain ⟨k,hk,rfl,hend⟩:=hrel
       obtain ⟨wb,hwb⟩:∃ wb:World,wb=wr:=⟨_,rfl⟩
       subst hwb
       have HE5:=Lib.hid hend
       by_cases hki:k < i
       rotate_left
       ·as_aux_lemma =>
        obtain rfl:k=i:=by omega
        have i8:¬ (k:Int) < (k:Int):=by omega
        clear hend
        go_wp2_with fail
        exact ⟨⟨k + 1,by omega,by go_num,HE5.out⟩,by simp [intOf];omega⟩
       as_aux_lemma =>
        have i8:(k:Int) < (i:Int):=by omega
        have i9:(k:Int) < (N:Int):=by omega
        obtain ⟨ha,hha,hza⟩:=hend.all.at hiN
        obtain ⟨hb,hhb,hzb⟩:=hend.all.at (show k < N by omega)
        obtain ⟨hm,hhm,hzm⟩:=hend.fewer.at hiN
        obtain ⟨hn,hhn,hzn⟩:=hend.fewer.at (show k < N by omega)
        have hlk:=HLAW.out.2.2.2 k
        have hk1:=hlk.1
        have hk3:=hlk.2.2
        have hlm1:=mul_len (qa i) (qm k)
        have hlm2:=mul_len (qa k) (qm i)
        have hRa:=hza.at (by omega)
        have hRb:=hzb.at (by omega)
        have hRm:=hzm.at (by omega)
        have hRn:=hzn.at (by omega)
        have a0:=hha.c0
        have a1:=hha.c1
        have a2:=hha.c2
        have b0:=hhb.c0
        have b1:=hhb.c1
        have b2:=hhb.c2
        have m0:=hhm.c0
        have m1:=hhm.c1
        have m2:=hhm.c2
        have n0:=hhn.c0
        have n1:=hhn.c1
        have n2:=hhn.c2
        have hal:=hha.lt
        have hml:=hhm.lt
        have HC1:=Lib.hid (HLAW.out.2.2.1 i k)
        clear hend hha hza hhb hzb hhm hzm hhn hzn hlk
        go_upto_region 38 with fail
        have a00:=a0
        have a10:=a1
        have a20:=a2
        have b00:=b0
        have b10:=b1
        have b20:=b2
        have m00:=m0
        have m10:=m1
        have m20:=m2
        have n00:=n0
        have n10:=n1
        have n20:=n2
        have hbw:Below wb.heap.size wb wb.drew:=below_refl_drewN _ _ 1
        have hszw:=hbw.size
        refine wp_region_held_drew (S:=fun w'=>w'.cell? ⟨g1,i * 3,none⟩=some (.bool ha.neg)∧w'.cell? ⟨g1,i * 3 + 1,none⟩=some (.slice ha.A ha.n ha.c)∧w'.cell? ⟨g1,i * 3 + 2,none⟩=some (.slice ha.D ha.k ha.e)∧w'.cell? ⟨g1,k * 3,none⟩=some (.bool hb.neg)∧w'.cell? ⟨g1,k * 3 + 1,none⟩=some (.slice hb.A hb.n hb.c)∧w'.cell? ⟨g1,k * 3 + 2,none⟩=some (.slice hb.D hb.k hb.e)∧w'.cell? ⟨g3,i * 3,none⟩=some (.bool hm.neg)∧w'.cell? ⟨g3,i * 3 + 1,none⟩=some (.slice hm.A hm.n hm.c)∧w'.cell? ⟨g3,i * 3 + 2,none⟩=some (.slice hm.D hm.k hm.e)∧w'.cell? ⟨g3,k * 3,none⟩=some (.bool hn.neg)∧w'.cell? ⟨g3,k * 3 + 1,none⟩=some (.slice hn.A hn.n hn.c)∧w'.cell? ⟨g3,k * 3 + 2,none⟩=some (.slice hn.D hn.k hn.e)) (by kernel_rfl) ?hS46 (fun hHeld=>?rest46)
        case hS46=>(first | exact ⟨a0,a1,a2,b0,b1,b2,m0,m1,m2,n0,n1,n2⟩ | assumption | go_keep)
        refine tk 0 rfl ?_
        try simp only [Act.put,sp]
        refine tk 1 rfl ?_
        try simp only [Act.put,sp]
        refine tk 2 rfl ?_
        try simp only [Act.put,sp]
        refine tk 3 rfl ?_
        try simp only [Act.put,sp]
        refine tk 4 rfl ?_
        try simp only [Act.put,sp]
        refine tk 5 rfl ?_
        try simp only [Act.put,sp]
        refine tk 6 rfl ?_
        try simp only [Act.put,sp]
        refine tk 7 rfl ?_
        try simp only [Act.put,sp]
        refine tk 9 rfl ?_
        try simp only [Act.put,sp]
        refine tk 10 rfl ?_
        try simp only [Act.put,sp]
        refine tk 11 rfl ?_
        try simp only [Act.put,sp]
        refine tk 12 rfl ?_
        try simp only [Act.put,sp]
        refine tk 13 rfl ?_
        try simp only [Act.put,sp]
        refine tk 14 rfl ?_
        try simp only [Act.put,sp]
        refine tk 15 rfl ?_
        try simp only [Act.put,sp]
        refine tk 16 rfl ?_
        try simp only [Act.put,sp]
        refine wpAnyH_ready (rs:=[8]) (by kernel_rfl) (by simp) (consL rfl (fun K hK=>?step63))
        (go_simp;(refine (frac_mul _ _ (qa i) (qm k) (ratLen (qa i)) (ratLen (qm k)) _ (hRa.below (Nat.le_refl _) hbw) (hRn.below (Nat.le_refl _) hbw) (by omega)).mono ?_);(intro e1 y0 hp0);(obtain ⟨vA,rfl,hvA,hbq0⟩:=hp0.at (by omega));(have hqb:=hszw);(have hbs:Below _ _ y0:=hbq0);(have hbw:=hbw.trans (hbs.mono hszw));(have hszw:=hbw.size);(have a0:=bc hbw a00 hal);(have a1:=bc hbw a10 hal);(have a2:=bc hbw a20 hal);(have b0:=bc hbw b00 hal);(have b1:=bc hbw b10 hal);(have b2:=bc hbw b20 hal);(have m0:=bc hbw m00 hml);(have m1:=bc hbw m10 hml);(have m2:=bc hbw m20 hml);(have n0:=bc hbw n00 hml);(have n1:=bc hbw n10 hml);(have n2:=bc hbw n20 hml))
        refine hK.out _ _ ?hS63 (fun hHeld=>?rest63)
        case hS63=>(first | exact ⟨a0,a1,a2,b0,b1,b2,m0,m1,m2,n0,n1,n2⟩ | assumption | go_keep)
        clear hK K
        try simp only [Act.put,sp]
        refine wpAnyH_ready (rs:=[17]) (by kernel_rfl) (by simp) (consL rfl (fun K hK=>?step64))
        (go_simp;(refine (frac_mul _ _ (qa k) (qm i) (ratLen (qa k)) (ratLen (qm i)) _ (hRb.below (Nat.le_refl _) hbw) (hRm.below (Nat.le_refl _) hbw) (by omega)).mono ?_);(intro e1 y1 hp1);(obtain ⟨vB,rfl,hvB,hbq1⟩:=hp1.at (by omega));(have hqb:=hszw);(have hbs:Below _ _ y1:=hbq1);(have hbw:=hbw.trans (hbs.mono hszw));(have hszw:=hbw.size);(have a0:=bc hbw a00 hal);(have a1:=bc hbw a10 hal);(have a2:=bc hbw a20 hal);(have b0:=bc hbw b00 hal);(have b1:=bc hbw b10 hal);(have b2:=bc hbw b20 hal);(have m0:=bc hbw m00 hml);(have m1:=bc hbw m10 hml);(have m2:=bc hbw m20 hml);(have n0:=bc hbw n00 hml);(have n1:=bc hbw n10 hml);(have n2:=bc hbw n20 hml))
        refine hK.out _ _ ?hS64 (fun hHeld=>?rest64)
        case hS64=>(first | exact ⟨a0,a1,a2,b0,b1,b2,m0,m1,m2,n0,n1,n2⟩ | assumption | go_keep)
        clear hK K
        try simp only [Act.put,sp]
        refine wpAnyH_ready (rs:=[18]) (by kernel_rfl) (by simp) (consL rfl (fun K hK=>?step65))
        (go_simp;(refine (frac_cmp _ _ (qa i * qm k) (qa k * qm i) (ratLen (qa i * qm k)) (ratLen (qa k * qm i)) _ (hvA.below (Nat.le_refl _) hbs) hvB (by omega)).mono ?_);(intro e1 y2 hp2);(obtain ⟨rfl,hbq2⟩:=hp2);(rw [HC1.out]);(have hqb:=hszw);(have hbs:Below _ _ y2:=hbq2);(have hbw:=hbw.trans (hbs.mono hszw));(have hszw:=hbw.size);(have a0:=bc hbw a00 hal);(have a1:=bc hbw a10 hal);(have a2:=bc hbw a20 hal);(have b0:=bc hbw b00 hal);(have b1:=bc hbw b10 hal);(have b2:=bc hbw b20 hal);(have m0:=bc hbw m00 hml);(have m1:=bc hbw m10 hml);(have m2:=bc hbw m20 hml);(have n0:=bc hbw n00 hml);(have n1:=bc hbw n10 hml);(have n2:=bc hbw n20 hml))
        refine hK.out _ _ ?hS65 (fun hHeld=>?rest65)
        case hS65=>(first | exact ⟨a0,a1,a2,b0,b1,b2,m0,m1,m2,n0,n1,n2⟩ | assumption | go_keep)
        clear hK K
        try simp only [Act.put,sp]
        refine tk 19 rfl ?_
        try simp only [Act.put,sp]
        refine wpAnyH_done (by kernel_rfl) ?_ _
        go_simp
        have HE6:=Lib.hid (HE5.out.step hbw)
        clear hRa hRb hRm hRn hbw hvA hvB hHeld
        (try go_wp2_with fail)
        exact ⟨⟨k + 1,by omega,by go_num,HE6.out⟩,by simp [intOf];omega⟩
end Go.Proofs.YtgbmnlmnhbkdbaaGreat
/- PruneWorld's argument, opened: a world. Conditions: the row's own reach. -/
namespace Go.Proofs.YtgbmnlmnhbkdbaaGreat
open Go.ChangeShapes Go.WideShapes Go.ChangeAt Go.RowKit Go.Joins
section
variable {H:Type} {enc:TypeId × Value→H}
theorem list5 {α:Type} {l:List α} (h:l.length=5):∃ a b c d e,l=[a,b,c,d,e]:=by
 match l,h with
 | [a,b,c,d,e],_=>exact ⟨a,b,c,d,e,rfl⟩
set_option maxRecDepth 100000 in
theorem open_world {W:World} {base:Nat} {v:Value} {d:DataW H} {p:List MemPlace} (hok:Value.okWide Tryz.prog W .any base 25 v) (h:DataW.Trod enc Tryz.prog W 0 (fun _=>true) true 25 v d p) (hw:Wt Tryz.prog 25 d) :
 ∃ X:WV,v=X.val∧WAt W X:=by
 obtain ⟨cs,rfl,hsz⟩:=okWide_struct Tryz.underlying25 hok
 obtain ⟨fuel,hf⟩:=h
 have hl:cs.toList.length=5:=by rw [Array.length_toList,hsz];kernel_rfl
 obtain ⟨v0,v1,v2,v3,v4,hcs⟩:=list5 hl
 have hf':DataW.trod enc Tryz.prog W 0 (fun _=>true) true fuel 25 [v0,v1,v2,v3,v4]=some (d,p):=by rw [← hcs];simpa [Value.cells] using hf
 obtain rfl:cs=#[v0,v1,v2,v3,v4]:=by rw [← hcs]
 obtain ⟨xs,n,_,hx,_,hlen,hfs⟩:=DataW.trod_struct Tryz.underlying25 hf'
 obtain ⟨y0,y1,y2,y3,y4,rfl⟩:=list5 (show xs.length=5 from hlen)
 injection hx with hd _
 subst hd
 have hw':=Wt.fields Tryz.underlying25 hw
 have w0:=Wt.each hw' 0 22 _ rfl rfl
 have w1:=Wt.each hw' 1 22 _ rfl rfl
 have w2:=Wt.each hw' 2 23 _ rfl rfl
 have w3:=Wt.each hw' 3 23 _ rfl rfl
 have g0:DataW.trod enc Tryz.prog W 0 (fun _=>true) true n 22 [v0]=some y0:=by
  have h:DataW.trod enc Tryz.prog W 0 (fun _=>true) true n 22 (([v0,v1,v2,v3,v4].drop 0).take (Tryz.prog.cellsOf 22))=some y0:=hfs 0 _ rfl
  rw [show Tryz.prog.cellsOf 22=1 from by kernel_rfl] at h;exact h
 have g1:DataW.trod enc Tryz.prog W 0 (fun _=>true) true n 22 [v1]=some y1:=by
  have h:DataW.trod enc Tryz.prog W 0 (fun _=>true) true n 22 (([v0,v1,v2,v3,v4].drop 1).take (Tryz.prog.cellsOf 22))=some y1:=hfs 1 _ rfl
  rw [show Tryz.prog.cellsOf 22=1 from by kernel_rfl] at h;exact h
 have g2:DataW.trod enc Tryz.prog W 0 (fun _=>true) true n 23 [v2]=some y2:=by
  have h:DataW.trod enc Tryz.prog W 0 (fun _=>true) true n 23 (([v0,v1,v2,v3,v4].drop 2).take (Tryz.prog.cellsOf 23))=some y2:=hfs 2 _ rfl
  rw [show Tryz.prog.cellsOf 23=1 from by kernel_rfl] at h;exact h
 have g3:DataW.trod enc Tryz.prog W 0 (fun _=>true) true n 23 [v3]=some y3:=by
  have h:DataW.trod enc Tryz.prog W 0 (fun _=>true) true n 23 (([v0,v1,v2,v3,v4].drop 3).take (Tryz.prog.cellsOf 23))=some y3:=hfs 3 _ rfl
  rw [show Tryz.prog.cellsOf 23=1 from by kernel_rfl] at h;exact h
 have g4:DataW.trod enc Tryz.prog W 0 (fun _=>true) true n 3 [v4]=some y4:=by
  have h:DataW.trod enc Tryz.prog W 0 (fun _=>true) true n 3 (([v0,v1,v2,v3,v4].drop 4).take (Tryz.prog.cellsOf 3))=some y4:=hfs 4 _ rfl
  rw [show Tryz.prog.cellsOf 3=1 from by kernel_rfl] at h;exact h
 clear hfs hf hf' hw hw' hok hcs hl hsz
 obtain ⟨A0,n0,c0,L0,rfl,s0,_,l0,_,_⟩:=cell_rows Tryz.underlying22 Tryz.underlying23 Tryz.underlying3 (by kernel_rfl) (by kernel_rfl) (by kernel_rfl) (by kernel_rfl) g0 w0
 obtain ⟨A1,n1,c1,L1,rfl,s1,_,l1,_,_⟩:=cell_rows Tryz.underlying22 Tryz.underlying23 Tryz.underlying3 (by kernel_rfl) (by kernel_rfl) (by kernel_rfl) (by kernel_rfl) g1 w1
 obtain ⟨A2,n2,c2,xs2,rfl,s2,_,m2,_⟩:=cell_ints Tryz.underlying23 Tryz.underlying3 (by kernel_rfl) (by kernel_rfl) g2 w2
 obtain ⟨A3,n3,c3,xs3,rfl,s3,_,m3,_⟩:=cell_ints Tryz.underlying23 Tryz.underlying3 (by kernel_rfl) (by kernel_rfl) g3 w3
 obtain ⟨x,rfl,_⟩:=cell_int (W:=W) Tryz.underlying3 n v4 y4 g4
 exact ⟨⟨A0,n0,c0,A1,n1,c1,A2,n2,c2,A3,n3,c3,x,L0,L1,xs2,xs3⟩,rfl,⟨s0,s1,s2,s3,m2⟩⟩
end
end Go.Proofs.YtgbmnlmnhbkdbaaGreat
