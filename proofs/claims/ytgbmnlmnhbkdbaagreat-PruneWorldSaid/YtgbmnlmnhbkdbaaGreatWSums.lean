/- credencelaw17.sums, walked: sums of products of eighths over all settings that have what is given. Conditions: a world that may be gone through; points of it. -/
import Derived.Test.YtgbmnlmnhbkdbaaGreatWSumsM
set_option linter.unusedVariables false
set_option linter.unusedSimpArgs false
namespace Go.Proofs.YtgbmnlmnhbkdbaaGreat
open Go.RowKit

def SumsPost (W:WV) (l:List Nat) (w:World) (e:Ending) (w':World):Prop:=
 ∃ g,e=.returned (.slice (some ⟨g,0,none⟩) (2 ^ W.k) (2 ^ W.k))∧w.heap.size≤g∧QRow w' (g + 1) g (2 ^ W.k) (partQ (entQ W.Ts W.Ps) l W.gl (bitsZ W.V) W.al (2 ^ W.n))∧Below w.heap.size w w'
structure SumIn (wq w:World) (N:Nat) (qs:Nat→Rat):Prop where
 bq:Below wq.heap.size wq w
 row:QRow w (wq.heap.size + 1) wq.heap.size N qs
 lt:wq.heap.size < w.heap.size
theorem SumIn.step {wq w w':World} {N:Nat} {qs:Nat→Rat} (h:SumIn wq w N qs) (hb:Below w.heap.size w w'):SumIn wq w' N qs:=
 ⟨h.bq.trans (hb.mono h.bq.size),h.row.below hb,Nat.lt_of_lt_of_le h.lt hb.size⟩
def rhQ (R:Option Addr) (c:Nat) (D:Option Addr) (d:Nat) (q:Rat):RH:=⟨isNeg q.num,R,(limbs q.num.natAbs).length,c,D,(limbs q.den).length,d⟩
set_option maxRecDepth 100000 in
set_option maxHeartbeats 4000000 in
theorem sums_any (W:WV) (PtA:Option Addr) (pn pc:Nat) (l:List Nat) (w:World) (h:WAt w W) (hok:WOk W) (hp:Sl (Value.int .i64) w PtA pn (castL l)) (hln:∀ v,v ∈ l→v < W.n) (hl7:l.length≤7) :
 Calls Tryz.prog 6 #[W.val,.slice PtA pn pc] w (SumsPost W l w):=by
 have hpn:l.length=pn:=by have:=hp.len;simpa [castL] using this
 have H:=((Held.init w).sl hp).new 25 W.cells
 have HW0:WBox w (w.alloc (.cells W.cells.toArray 25)) w.heap.size W:=⟨H.has.1,Stable.below (P:=fun w=>WAt w W) ((Below.refl _ _).alloc (Nat.le_refl _) _) h,H.bel⟩
 have HP0:=H.has.2.1
 have HOK:=Lib.hid hok
 have hn7:=hok.n7
 have hk3:=hok.k3
 have hg9:=hok.g9
 obtain ⟨N,hN⟩:∃ N:Nat,N=2 ^ W.k:=⟨_,rfl⟩
 have hN8:N≤8:=by rw [hN];exact Nat.le_trans (Nat.pow_le_pow_right (by decide) hk3) (by decide)
 obtain ⟨M,hM⟩:∃ M:Nat,M=2 ^ W.n:=⟨_,rfl⟩
 have hM128:M≤128:=by rw [hM];exact Nat.le_trans (Nat.pow_le_pow_right (by decide) hn7) (by decide)
 have hNi:(2:Int) ^ W.k=(N:Int):=by rw [hN];push_cast;rfl
 have hMi:(2:Int) ^ W.n=(M:Int):=by rw [hM];push_cast;rfl
 have HNM:=Lib.hid (And.intro hN hM)
 have hGb:=h.giv.big
 have hAb:=h.ask.big
 show Calls Tryz.prog 6 #[.agg #[.slice W.PA W.n W.pc,.slice W.TA W.m W.tc,.slice W.AA W.k W.ac,.slice W.GA W.g W.gc,.int .i64 W.V],.slice PtA pn pc] w _
 obtain ⟨wq,hwq⟩:∃ wq:World,wq=w.alloc (.cells #[.slice W.PA W.n W.pc,.slice W.TA W.m W.tc,.slice W.AA W.k W.ac,.slice W.GA W.g W.gc,.int .i64 W.V] 25):=⟨_,rfl⟩
 have HW0:WBox w wq w.heap.size W:=by rw [hwq];exact HW0
 have HP0:Sl (Value.int .i64) wq PtA pn (castL l):=by rw [hwq];exact HP0
 obtain ⟨r0,r1,r2,r3,r4⟩:=HW0.cells
 have HX:=Lib.hid (And.intro HW0 HP0)
 have HLN:=Lib.hid (And.intro hln (And.intro hl7 (And.intro h.ask.len h.giv.len)))
 have hpn7:pn≤7:=by omega
 have HPN:=Lib.hid hpn
 clear HW0 HP0 H h hok hp hln hl7 hN hM hpn
 have k0:(0:Int)≤(W.k:Int):=by omega
 have k1:(W.k:Int)≤64:=by omega
 have n0:(0:Int)≤(W.n:Int):=by omega
 have n1:(W.n:Int)≤64:=by omega
 have hN4:56 * N≤281474976710656:=by omega
 obtain ⟨F,hF⟩:∃ F:Nat→Nat→Rat,F=partQ (entQ W.Ts W.Ps) l W.gl (bitsZ W.V) W.al:=⟨_,rfl⟩
 have HF:=Lib.hid hF
 clear hF
 go_enter Tryz.func6,Tryz.ntmps6
 go_upto_region 1 with fail
 rw [← hwq]
 clear hwq
 go_wp2_with (refine wpList_mkQ _ rfl _ _ rfl N rfl rfl hN4 ?_)
 intro wa hqa hba hlta
 have HI0:=Lib.hid (show SumIn wq wa N (F 0) from ⟨hba,hqa.congr (fun i _=>by rw [HF.out];rfl),hlta⟩)
 clear hqa hba hlta r0 r1 r2 r3 r4
 go_wp2_with fail
 go_loopw [6] (fun i wr=>∃ t:Nat,t≤M∧i=.int .i64 (t:Nat)∧SumIn wq wr N (F t)) (fun i _=>M - (intOf i).toNat)
 case atStart=>exact ⟨0,by omega,rfl,HI0.out⟩
 case round =>
  obtain ⟨t,ht,rfl,hin⟩:=hrel
  obtain ⟨wo,hwo⟩:∃ wo:World,wo=wr:=⟨_,rfl⟩
  subst hwo
  have HI:=Lib.hid hin
  have hwb:=HX.out.1.step hin.bq
  obtain ⟨r0,r1,r2,r3,r4⟩:=hwb.cells
  have HWB:=Lib.hid hwb
  clear hin hwb
  by_cases htM:t < M
  rotate_left
  ·as_aux_lemma =>
   obtain rfl:t=M:=by omega
   have i1:¬ (t:Int) < (t:Int):=by omega
   go_wp2_with fail
   go_ret
   refine ⟨wq.heap.size,?_,HX.out.1.bel.size,?_,HX.out.1.bel.trans (HI.out.bq.mono HX.out.1.bel.size)⟩
   ·rw [← HNM.out.1];rfl
   ·rw [← HNM.out.1,← HNM.out.2,← HF.out];exact HI.out.row
  have i1:(t:Int) < (M:Int):=by omega
  go_wp2_with fail
  clear r0 r1 r2 r3 r4 i1
  go_loopw [7,8] (fun b j wx=>∃ q:Nat,q≤W.g∧j=.int .i64 (q:Nat)∧b=.bool (fitB (W.gl.take q) (bitsZ W.V) (bitsA t))∧SumIn wq wx N (F t)) (fun _ j _=>W.g - (intOf j).toNat)
  case atStart=>exact ⟨0,by omega,rfl,rfl,HI.out⟩
  case round =>
   obtain ⟨q,hq,rfl,rfl,hin⟩:=hrel
   obtain ⟨wv,hwv⟩:∃ wv:World,wv=wr:=⟨_,rfl⟩
   subst hwv
   have HV:=Lib.hid hin
   have hwb:=HX.out.1.step hin.bq
   obtain ⟨r0,r1,r2,r3,r4⟩:=hwb.cells
   have hgiv:=hwb.at'.giv
   have HWV:=Lib.hid hwb
   clear hin hwb
   by_cases hqg:q < W.g
   ·as_aux_lemma =>
    obtain ⟨b1,o1,eG,hb1,hc1⟩:=hgiv.at' (by omega)
    have q1:=hc1 q hqg
    rw [eG] at r3
    have i5:(q:Int) < (W.g:Int):=by omega
    have hy:=HOK.out.givn (nth W.gl q) (nth_mem (by rw [HLN.out.2.2.2];exact hqg))
    have hsn:fitB (W.gl.take (q + 1)) (bitsZ W.V) (bitsA t)=(fitB (W.gl.take q) (bitsZ W.V) (bitsA t) && (bitsA t (nth W.gl q).toNat == bitsZ W.V (nth W.gl q).toNat)):=by
     rw [take_snoc (by rw [HLN.out.2.2.2];exact hqg),fitB_snoc]
    have hbit:=bit_xor t W.V (nth W.gl q).toNat (by omega)
    generalize nth W.gl q=y at *
    have y0:0≤y:=hy.1
    have y1:y≤64:=by omega
    have HSN:=Lib.hid hsn
    have HBIT:=Lib.hid hbit
    clear hc1 hgiv hsn hbit hy eG
    go_upto_region 9 with fail
    cases hfb:fitB (W.gl.take q) (bitsZ W.V) (bitsA t)
    ·as_aux_lemma =>
     have HE:=Lib.hid (show fitB (W.gl.take (q + 1)) (bitsZ W.V) (bitsA t)=false by rw [HSN.out,hfb];rfl)
     clear hfb
     refine wp_region_held_drew (S:=fun w'=>w'.cell? ⟨w.heap.size,4,none⟩=some (.int .i64 W.V)∧w'.cell? ⟨w.heap.size,3,none⟩=some (.slice (some ⟨b1,o1,none⟩) W.g W.gc)∧w'.cell? ⟨b1,o1 + q,none⟩=some (.int .i64 y)) (by kernel_rfl) ?hS1 (fun hHeld=>?rest1)
     case hS1=>(first | exact ⟨r4,r3,q1⟩ | assumption | go_keep)
     refine tk 0 rfl ?_
     try simp only [Act.put,sp]
     refine tk 1 rfl ?_
     try simp only [Act.put,sp]
     refine sk 2 rfl ?_
     try simp only [Act.put,sp]
     refine sk 3 rfl ?_
     try simp only [Act.put,sp]
     refine sk 4 rfl ?_
     try simp only [Act.put,sp]
     refine sk 5 rfl ?_
     try simp only [Act.put,sp]
     refine sk 6 rfl ?_
     try simp only [Act.put,sp]
     refine sk 7 rfl ?_
     try simp only [Act.put,sp]
     refine sk 8 rfl ?_
     try simp only [Act.put,sp]
     refine sk 9 rfl ?_
     try simp only [Act.put,sp]
     refine sk 10 rfl ?_
     try simp only [Act.put,sp]
     refine sk 11 rfl ?_
     try simp only [Act.put,sp]
     refine sk 12 rfl ?_
     try simp only [Act.put,sp]
     refine sk 13 rfl ?_
     try simp only [Act.put,sp]
     refine tk 14 rfl ?_
     try simp only [Act.put,sp]
     refine tk 15 rfl ?_
     try simp only [Act.put,sp]
     refine wpAnyH_done (by kernel_rfl) ?_ _
     go_simp
     go_simp
     (try go_wp2_with fail)
     exact ⟨⟨q + 1,by omega,by go_num,by rw [HE.out],HV.out.step (below_refl_drewN _ _ 1)⟩,by simp [intOf];omega⟩
    ·cases hxb:(bitsA t y.toNat != bitsZ W.V y.toNat)
     ·as_aux_lemma =>
      have hbit:bits .and .i64 (bits .xor .i64 (t:Int) W.V / 2 ^ y.toNat) 1=0:=by rw [HBIT.out,hxb];rfl
      have HE:=Lib.hid (show fitB (W.gl.take (q + 1)) (bitsZ W.V) (bitsA t)=true by
       rw [HSN.out,hfb]
       have:bitsA t y.toNat=bitsZ W.V y.toNat:=by simpa using hxb
       rw [this];simp)
      clear hfb hxb
      refine wp_region_held_drew (S:=fun w'=>w'.cell? ⟨w.heap.size,4,none⟩=some (.int .i64 W.V)∧w'.cell? ⟨w.heap.size,3,none⟩=some (.slice (some ⟨b1,o1,none⟩) W.g W.gc)∧w'.cell? ⟨b1,o1 + q,none⟩=some (.int .i64 y)) (by kernel_rfl) ?hS18 (fun hHeld=>?rest18)
      case hS18=>(first | exact ⟨r4,r3,q1⟩ | assumption | go_keep)
      refine tk 0 rfl ?_
      try simp only [Act.put,sp]
      refine tk 1 rfl ?_
      try simp only [Act.put,sp]
      refine tk 2 rfl ?_
      try simp only [Act.put,sp]
      refine tk 3 rfl ?_
      try simp only [Act.put,sp]
      refine tk 4 rfl ?_
      try simp only [Act.put,sp]
      refine tk 5 rfl ?_
      try simp only [Act.put,sp]
      refine tk 6 rfl ?_
      try simp only [Act.put,sp]
      refine tk 7 rfl ?_
      try simp only [Act.put,sp]
      refine tk 8 rfl ?_
      try simp only [Act.put,sp]
      refine tk 9 rfl ?_
      try simp only [Act.put,sp]
      refine tk 10 rfl ?_
      try simp only [Act.put,sp]
      refine tk 11 rfl ?_
      try simp only [Act.put,sp]
      refine tk 12 rfl ?_
      try simp only [Act.put,sp]
      refine tk 13 rfl ?_
      try simp only [Act.put,sp]
      refine tk 14 rfl ?_
      try simp only [Act.put,sp]
      refine tk 15 rfl ?_
      try simp only [Act.put,sp]
      refine wpAnyH_done (by kernel_rfl) ?_ _
      go_simp
      go_simp
      (try go_wp2_with fail)
      exact ⟨⟨q + 1,by omega,by go_num,by rw [HE.out],HV.out.step (below_refl_drewN _ _ 1)⟩,by simp [intOf];omega⟩
     ·as_aux_lemma =>
      have hbit:bits .and .i64 (bits .xor .i64 (t:Int) W.V / 2 ^ y.toNat) 1=1:=by rw [HBIT.out,hxb];rfl
      have HE:=Lib.hid (show fitB (W.gl.take (q + 1)) (bitsZ W.V) (bitsA t)=false by
       rw [HSN.out]
       have:¬ bitsA t y.toNat=bitsZ W.V y.toNat:=by simpa using hxb
       simp [this])
      clear hfb hxb
      refine wp_region_held_drew (S:=fun w'=>w'.cell? ⟨w.heap.size,4,none⟩=some (.int .i64 W.V)∧w'.cell? ⟨w.heap.size,3,none⟩=some (.slice (some ⟨b1,o1,none⟩) W.g W.gc)∧w'.cell? ⟨b1,o1 + q,none⟩=some (.int .i64 y)) (by kernel_rfl) ?hS35 (fun hHeld=>?rest35)
      case hS35=>(first | exact ⟨r4,r3,q1⟩ | assumption | go_keep)
      refine tk 0 rfl ?_
      try simp only [Act.put,sp]
      refine tk 1 rfl ?_
      try simp only [Act.put,sp]
      refine tk 2 rfl ?_
      try simp only [Act.put,sp]
      refine tk 3 rfl ?_
      try simp only [Act.put,sp]
      refine tk 4 rfl ?_
      try simp only [Act.put,sp]
      refine tk 5 rfl ?_
      try simp only [Act.put,sp]
      refine tk 6 rfl ?_
      try simp only [Act.put,sp]
      refine tk 7 rfl ?_
      try simp only [Act.put,sp]
      refine tk 8 rfl ?_
      try simp only [Act.put,sp]
      refine tk 9 rfl ?_
      try simp only [Act.put,sp]
      refine tk 10 rfl ?_
      try simp only [Act.put,sp]
      refine tk 11 rfl ?_
      try simp only [Act.put,sp]
      refine tk 12 rfl ?_
      try simp only [Act.put,sp]
      refine tk 13 rfl ?_
      try simp only [Act.put,sp]
      refine tk 14 rfl ?_
      try simp only [Act.put,sp]
      refine tk 15 rfl ?_
      try simp only [Act.put,sp]
      refine wpAnyH_done (by kernel_rfl) ?_ _
      go_simp
      go_simp
      (try go_wp2_with fail)
      exact ⟨⟨q + 1,by omega,by go_num,by rw [HE.out],HV.out.step (below_refl_drewN _ _ 1)⟩,by simp [intOf];omega⟩
   ·obtain rfl:q=W.g:=by omega
    have i5:¬ (W.g:Int) < (W.g:Int):=by omega
    rw [take_all (show W.gl.length≤W.g by have:=HLN.out.2.2.2;omega)]
    have hnext:=fun i=>partQ_next (entQ W.Ts W.Ps) l W.gl (bitsZ W.V) W.al t i
    rw [← HF.out] at hnext
    have HPN2:=Lib.hid hnext
    clear hgiv hnext
    cases hFB:fitB W.gl (bitsZ W.V) (bitsA t)
    ·as_aux_lemma =>
     have HE:=Lib.hid (show SumIn wq wv N (F (t + 1)) from by
      have:F (t + 1)=F t:=by
       funext i
       rw [HPN2.out i,if_neg (by rw [hFB];simp)]
      rw [this];exact HV.out)
     clear hFB
     go_wp2_with fail
     exact ⟨⟨t + 1,by omega,by go_num,HE.out⟩,by simp [intOf];omega⟩
    have HNX2:=Lib.hid (show ∀ i,F (t + 1) i=if placeA W.al (bitsA t)=i then F t i + prodL (entQ W.Ts W.Ps) l (bitsA t) else F t i from fun i=>by
     rw [HPN2.out i,hFB];simp)
    clear hFB HPN2
    go_wp2_with fail
    clear r0 r1 r2 r3 r4
    obtain ⟨wb,hwb⟩:∃ wb:World,wb=wv:=⟨_,rfl⟩
    subst hwb
    obtain ⟨r0,r1,r2,r3,r4⟩:=HWV.out.cells
    go_loopw [9,10] (fun p j wx=>∃ q:Nat,q≤W.k∧j=.int .i64 (q:Nat)∧p=.int .i64 (placeA (W.al.take q) (bitsA t):Nat)∧wx=wb) (fun _ j _=>W.k - (intOf j).toNat)
    case atStart=>exact ⟨0,by omega,rfl,rfl,rfl⟩
    case round =>
     obtain ⟨q,hq,rfl,rfl,hwr⟩:=hrel
     have hwr:=hwr.symm
     subst hwr
     have hask:=HWV.out.at'.ask
     have hplt:∀ q,q≤W.k→placeA (W.al.take q) (bitsA t) < 8:=fun q hq=>by
      have h1:=placeA_lt (W.al.take q) (bitsA t)
      have h2:(W.al.take q).length≤3:=by rw [List.length_take];omega
      have h3:2 ^ (W.al.take q).length≤2 ^ 3:=Nat.pow_le_pow_right (by omega) h2
      omega
     by_cases hqk:q < W.k
     ·as_aux_lemma =>
      obtain ⟨b1,o1,eA,hb1,hc1⟩:=hask.at' (by omega)
      have q1:=hc1 q hqk
      rw [eA] at r2
      have i5:(q:Int) < (W.k:Int):=by omega
      have hy:=HOK.out.askn (nth W.al q) (nth_mem (by rw [HLN.out.2.2.1];exact hqk))
      have hR:=hplt q (by omega)
      have hsn:placeA (W.al.take (q + 1)) (bitsA t)=2 * placeA (W.al.take q) (bitsA t) + (bitsA t (nth W.al q).toNat).toNat:=by
       rw [take_snoc (by rw [HLN.out.2.2.1];exact hqk),placeA_snoc]
      have hbit:=bit_of t (nth W.al q).toNat
      have hbt1:(bitsA t (nth W.al q).toNat).toNat≤1:=by cases bitsA t (nth W.al q).toNat <;> decide
      generalize (bitsA t (nth W.al q).toNat).toNat=bt at *
      generalize nth W.al q=y at *
      obtain ⟨R,hRR⟩:∃ R,R=placeA (W.al.take q) (bitsA t):=⟨_,rfl⟩
      rw [← hRR] at hR hsn ⊢
      have y0:0≤y:=hy.1
      have y1:y≤64:=by omega
      have HS:=Lib.hid hsn
      clear hc1 hask hplt hRR hsn hy eA
      go_wp2_with fail
      exact ⟨⟨q + 1,by omega,by go_num,by rw [HS.out];push_cast;rfl,trivial⟩,by simp [intOf];omega⟩
     ·obtain rfl:q=W.k:=by omega
      have i5:¬ (W.k:Int) < (W.k:Int):=by omega
      have hpl8:=hplt W.k (Nat.le_refl _)
      rw [take_all (show W.al.length≤W.k by have:=HLN.out.2.2.1;omega)] at hpl8 ⊢
      have hplN:placeA W.al (bitsA t) < N:=by
       have h1:=placeA_lt W.al (bitsA t)
       rw [HLN.out.2.2.1] at h1
       rw [HNM.out.1];exact h1
      have HPL0:=Lib.hid HNX2.out
      generalize placeA W.al (bitsA t)=pl at *
      have HPL:=Lib.hid hplN
      clear hask hplt HNX2 hplN
      go_wp2_with fail
      have hof:Calls Tryz.prog 8 #[.int .i64 1,.int .i64 1] wb (RatOkPost 1 wb):=frac_of 1 1 wb (by decide) (by decide) (by decide)
      refine hof.mono ?_
      rintro e w1 ⟨R1,c1,D1,d1,rfl,ho,ho2,hsep,hb1⟩
      obtain ⟨p1,hp1⟩:∃ p:Rat,p=1:=⟨_,rfl⟩
      rw [← hp1] at ho ho2 ⊢
      obtain ⟨w2,hw2⟩:∃ w2:World,w2=w1.alloc (.cells #[.bool (isNeg p1.num),.slice R1 (limbs p1.num.natAbs).length c1,.slice D1 (limbs p1.den).length d1] 38):=⟨_,rfl⟩
      have hb2:Below w1.heap.size w1 w2:=by rw [hw2];exact (Below.refl _ _).alloc (Nat.le_refl _) _
      have hbx:BoxQ w2 wb.heap.size w1.heap.size p1:=⟨R1,c1,D1,d1,by rw [hw2];exact heap_alloc_new _ _,ho.below (Nat.le_refl _) hb2,ho2.below (Nat.le_refl _) hb2,hsep⟩
      have hbb:Below wb.heap.size wb w2:=hb1.trans (hb2.mono hb1.size)
      have hgl:w1.heap.size < w2.heap.size:=by obtain ⟨_,_,_,_,h,_⟩:=hbx.ex;exact h.lt
      have HGP:=Lib.hid hb1.size
      rw [hp1] at hbx
      have HS2:=Lib.hid (And.intro hbx (And.intro hbb hgl))
      obtain ⟨gp,hgp⟩:∃ gp,gp=w1.heap.size:=⟨_,rfl⟩
      rw [← hgp] at HS2 HGP
      clear ho ho2 hsep hb1 hb2 hbx hbb hgl hof r0 r1 r2 r3 r4 hp1
      go_wp2_with fail
      rw [← hw2,← hgp]
      clear hw2 hgp
      go_loopw [13] (fun i wx=>∃ j:Nat,j≤pn∧i=.int .i64 (j:Nat)∧BoxQ wx wb.heap.size gp (prodL (entQ W.Ts W.Ps) (l.take j) (bitsA t))∧Below wb.heap.size wb wx∧gp < wx.heap.size) (fun i _=>pn - (intOf i).toNat)
      case atStart=>exact ⟨0,by omega,rfl,HS2.out.1,HS2.out.2.1,HS2.out.2.2⟩
      case round =>
       obtain ⟨j,hj,rfl,hbx,hbb,hgpl⟩:=hrel
       obtain ⟨wx,hwx⟩:∃ wx:World,wx=wr:=⟨_,rfl⟩
       subst hwx
       have HWX:=Lib.hid (HWV.out.step hbb)
       have HIX:=Lib.hid (HV.out.step hbb)
       have hg0l:w.heap.size < wx.heap.size:=HWX.out.box.lt
       obtain ⟨R1,c1,D1,d1,hrow,o1,o2,hsep0⟩:=hbx.ex
       have hlp:ratLen (prodL (entQ W.Ts W.Ps) (l.take j) (bitsA t))≤2:=prodL_len _ _ _ _ (by rw [List.length_take];have:=HLN.out.2.1;omega)
       have HBX:=Lib.hid hrow
       have HBB:=Lib.hid hbb
       obtain ⟨r0,r1,r2,r3,r4⟩:=HWX.out.cells
       have p0:=hrow.cell 0
       have p1:=hrow.cell 1
       have p2:=hrow.cell 2
       by_cases hjp:j < pn
       ·as_aux_lemma =>
        have hRp:=ratAt_own o1 o2 (by omega)
        have hpts:=HX.out.2.below (Nat.le_refl _) HIX.out.bq
        obtain ⟨b1,o1',rfl,hb1,hc1⟩:=hpts.at' (by omega)
        have q1:=hc1 j hjp
        have hjl:j < l.length:=by rw [HPN.out];exact hjp
        rw [show nth (castL l) j=((nth l j:Nat):Int) from by unfold castL;exact nth_map _ hjl] at q1
        have hun:=HLN.out.1 (nth l j) (nth_mem hjl)
        have hnx:prodL (entQ W.Ts W.Ps) (l.take j) (bitsA t) * entQ W.Ts W.Ps (nth l j) (bitsA t)=prodL (entQ W.Ts W.Ps) (l.take (j + 1)) (bitsA t):=by
         rw [take_snoc hjl,prodL_snoc]
        generalize nth l j=u at *
        obtain ⟨nq,hnq⟩:∃ nq,nq=prodL (entQ W.Ts W.Ps) (l.take (j + 1)) (bitsA t):=⟨_,rfl⟩
        rw [← hnq] at hnx
        have HNQ:=Lib.hid hnq
        generalize prodL (entQ W.Ts W.Ps) (l.take j) (bitsA t)=pq at *
        have HNX:=Lib.hid hnx
        have i5:(j:Int) < (pn:Int):=by omega
        clear hbx hbb hrow o1 o2 hsep0 hpts hc1 hnx hnq
        go_upto_region 20 with fail
        have p00:=p0
        have p10:=p1
        have p20:=p2
        have r00:=r0
        have r10:=r1
        have r20:=r2
        have r30:=r3
        have r40:=r4
        have q10:=q1
        have hbw:Below wx.heap.size wx wx.drew:=below_refl_drewN _ _ 1
        have hszw:=hbw.size
        refine wp_region_lastL (S:=fun w'=>w'.cell? ⟨gp,0,none⟩=some (.bool (isNeg pq.num))∧w'.cell? ⟨gp,1,none⟩=some (.slice R1 (limbs pq.num.natAbs).length c1)∧w'.cell? ⟨gp,2,none⟩=some (.slice D1 (limbs pq.den).length d1)∧w'.cell? ⟨w.heap.size,0,none⟩=some (.slice W.PA W.n W.pc)∧w'.cell? ⟨w.heap.size,1,none⟩=some (.slice W.TA W.m W.tc)∧w'.cell? ⟨w.heap.size,2,none⟩=some (.slice W.AA W.k W.ac)∧w'.cell? ⟨w.heap.size,3,none⟩=some (.slice W.GA W.g W.gc)∧w'.cell? ⟨w.heap.size,4,none⟩=some (.int .i64 W.V)∧w'.cell? ⟨b1,o1' + j,none⟩=some (.int .i64 (u:Int))) 9 9 (by kernel_rfl) rfl rfl rfl (by kernel_rfl) ?hS52 (fun hHeld=>?rest52)
        case hS52=>(first | exact ⟨p0,p1,p2,r0,r1,r2,r3,r4,q1⟩ | assumption | go_keep)
        refine tk 0 rfl ?_
        try simp only [Act.put,sp]
        refine tk 1 rfl ?_
        try simp only [Act.put,sp]
        refine tk 2 rfl ?_
        try simp only [Act.put,sp]
        refine tk 3 rfl ?_
        try simp only [Act.put,sp]
        refine tk 4 rfl ?_
        try simp only [Act.put,sp]
        refine tk 5 rfl ?_
        try simp only [Act.put,sp]
        refine tk 6 rfl ?_
        try simp only [Act.put,sp]
        refine wpAnyH_ready (rs:=[7]) (by kernel_rfl) (by simp) (consL rfl (fun K hK=>?step60))
        (go_simp;(refine (entry_any W u t _ (Stable.below (P:=fun w=>WAt w W) hbw HWX.out.at') HOK.out hun).mono ?_);(intro e1 y0 hp0);(obtain ⟨v7,rfl,hv7,hbq0⟩:=hp0.at (by have:=entQ_len W.Ts W.Ps u (bitsA t);omega));(have hqb:=hszw);(have hbs:Below _ _ y0:=hbq0);(have hbw:=hbw.trans (hbs.mono hszw));(have hszw:=hbw.size);(have p0:=bc hbw p00 hgpl);(have p1:=bc hbw p10 hgpl);(have p2:=bc hbw p20 hgpl);(have r0:=bc hbw r00 hg0l);(have r1:=bc hbw r10 hg0l);(have r2:=bc hbw r20 hg0l);(have r3:=bc hbw r30 hg0l);(have r4:=bc hbw r40 hg0l);(have q1:=bc hbw q10 hb1))
        refine hK.out _ _ ?hS60 (fun hHeld=>?rest60)
        case hS60=>(first | exact ⟨p0,p1,p2,r0,r1,r2,r3,r4,q1⟩ | assumption | go_keep)
        clear hK K
        try simp only [Act.put,sp]
        refine wpAnyH_ready (rs:=[8]) (by kernel_rfl) (by simp) (consL rfl (fun K hK=>?step61))
        (go_simp;(refine (frac_mul _ _ pq (entQ W.Ts W.Ps u (bitsA t)) (ratLen pq) (ratLen (entQ W.Ts W.Ps u (bitsA t))) _ (hRp.below (Nat.le_refl _) hbw) hv7 (by have:=entQ_len W.Ts W.Ps u (bitsA t);omega)).mono ?_);(intro e1 y1 hp1);(rw [HNX.out] at hp1);(obtain ⟨R,c5,D5,d5,rfl,h1,h2,hsep,hbq1⟩:=hp1);(have hqb:=hszw);(have hbs:Below _ _ y1:=hbq1);(have hbw:=hbw.trans (hbs.mono hszw));(have hszw:=hbw.size);(have p0:=bc hbw p00 hgpl);(have p1:=bc hbw p10 hgpl);(have p2:=bc hbw p20 hgpl);(have r0:=bc hbw r00 hg0l);(have r1:=bc hbw r10 hg0l);(have r2:=bc hbw r20 hg0l);(have r3:=bc hbw r30 hg0l);(have r4:=bc hbw r40 hg0l);(have q1:=bc hbw q10 hb1))
        refine hK.out _ _ ?hS61 (fun hHeld=>?rest61)
        case hS61=>(first | exact ⟨p0,p1,p2,r0,r1,r2,r3,r4,q1⟩ | assumption | go_keep)
        clear hK K
        try simp only [Act.put,sp]
        refine wpAnyH_done (by kernel_rfl) ?_ _
        unfold AheadOf
        have hrow3:=HBX.out.below' hbw
        refine wp_store_row 38 (.tmp 11) (.tmp 87) rfl gp 0 (rhQ R c5 D5 d5 nq).cells rfl rfl hrow3 (by simp [rhQ,RH.cells]) (by kernel_rfl) (by simp [rhQ,RH.cells,Value.oneCell']) ?_
        intro w7 hw7
        have hst:=BoxQ.store (w:=wb) (base:=wb.heap.size) (B:=y0.heap.size) HGP.out hrow3 (HBB.out.trans (hbw.mono HBB.out.size)) h1 h2 hsep (by have:=HBB.out.size;omega) (by omega)
        have hbx7:BoxQ w7 wb.heap.size gp nq:=by rw [hw7];exact hst.1
        have hbl7:Below wb.heap.size wb w7:=by rw [hw7];exact hst.2
        have hlt7:gp < w7.heap.size:=by have:=hbx7.ex;obtain ⟨_,_,_,_,h,_⟩:=this;exact h.lt
        have HX7:=Lib.hid (And.intro hbx7 (And.intro hbl7 hlt7))
        clear hst hbx7 hbl7 hw7 hrow3 h1 h2 hsep hlt7
        go_wp2_with fail
        exact ⟨⟨j + 1,by omega,by go_num,by rw [← HNQ.out];exact HX7.out.1,HX7.out.2.1,HX7.out.2.2⟩,by simp [intOf];omega⟩
       ·obtain rfl:j=pn:=by omega
        have i5:¬ (j:Int) < (j:Int):=by omega
        have hRp:=ratAt_own o1 o2 (by omega)
        have hlt:=HLN.out.2.1
        rw [take_all (show l.length≤j by rw [HPN.out];exact Nat.le_refl _)] at *
        obtain ⟨hz,hhd,hza⟩:=HIX.out.row.at HPL.out
        have hlsq:ratLen (F t pl)≤2:=by rw [HF.out];exact partQ_len _ _ _ _ _ _ _ _ hlt (by omega)
        have hRs:=hza.at (by omega)
        have s0:=hhd.c0
        have s1:=hhd.c1
        have s2:=hhd.c2
        have hgql:=HIX.out.lt
        have HNEXT:=Lib.hid (show F (t + 1) pl=F t pl + prodL (entQ W.Ts W.Ps) l (bitsA t)∧∀ i,i ≠ pl→F (t + 1) i=F t i from ⟨by rw [HPL0.out,if_pos rfl],fun i hi=>by rw [HPL0.out,if_neg (Ne.symm hi)]⟩)
        have i6:(pl:Int) < (N:Int):=by have:=HPL.out;omega
        generalize F t pl=sq at *
        generalize prodL (entQ W.Ts W.Ps) l (bitsA t)=pq at *
        clear hbx hbb hrow o1 o2 hsep0 hhd hza r0 r1 r2 r3 r4
        go_upto_region 21 with fail
        have p00:=p0
        have p10:=p1
        have p20:=p2
        have s00:=s0
        have s10:=s1
        have s20:=s2
        have hbw:Below wx.heap.size wx wx.drew:=below_refl_drewN _ _ 1
        have hszw:=hbw.size
        refine wp_region_lastL (S:=fun w'=>w'.cell? ⟨gp,0,none⟩=some (.bool (isNeg pq.num))∧w'.cell? ⟨gp,1,none⟩=some (.slice R1 (limbs pq.num.natAbs).length c1)∧w'.cell? ⟨gp,2,none⟩=some (.slice D1 (limbs pq.den).length d1)∧w'.cell? ⟨wq.heap.size,pl * 3,none⟩=some (.bool hz.neg)∧w'.cell? ⟨wq.heap.size,pl * 3 + 1,none⟩=some (.slice hz.A hz.n hz.c)∧w'.cell? ⟨wq.heap.size,pl * 3 + 2,none⟩=some (.slice hz.D hz.k hz.e)) 9 9 (by kernel_rfl) rfl rfl rfl (by kernel_rfl) ?hS62 (fun hHeld=>?rest62)
        case hS62=>(first | exact ⟨p0,p1,p2,s0,s1,s2⟩ | assumption | go_keep)
        refine tk 0 rfl ?_
        try simp only [Act.put,sp]
        refine tk 1 rfl ?_
        try simp only [Act.put,sp]
        refine tk 2 rfl ?_
        try simp only [Act.put,sp]
        refine tk 3 rfl ?_
        try simp only [Act.put,sp]
        refine tk 4 rfl ?_
        try simp only [Act.put,sp]
        refine tk 5 rfl ?_
        try simp only [Act.put,sp]
        refine tk 6 rfl ?_
        try simp only [Act.put,sp]
        refine wpAnyH_ready (rs:=[7]) (by kernel_rfl) (by simp) (consL rfl (fun K hK=>?step70))
        (go_simp;(refine (frac_add _ _ sq pq (ratLen sq) (ratLen pq) _ (hRs.below (Nat.le_refl _) hbw) (hRp.below (Nat.le_refl _) hbw) (by omega)).mono ?_);(intro e1 y0 hp0);(obtain ⟨R,c5,D5,d5,rfl,h1,h2,hsep,hbq0⟩:=hp0);(have hqb:=hszw);(have hbs:Below _ _ y0:=hbq0);(have hbw:=hbw.trans (hbs.mono hszw));(have hszw:=hbw.size);(have p0:=bc hbw p00 hgpl);(have p1:=bc hbw p10 hgpl);(have p2:=bc hbw p20 hgpl);(have s0:=bc hbw s00 hgql);(have s1:=bc hbw s10 hgql);(have s2:=bc hbw s20 hgql))
        refine hK.out _ _ ?hS70 (fun hHeld=>?rest70)
        case hS70=>(first | exact ⟨p0,p1,p2,s0,s1,s2⟩ | assumption | go_keep)
        clear hK K
        try simp only [Act.put,sp]
        refine tk 8 rfl ?_
        try simp only [Act.put,sp]
        refine wpAnyH_done (by kernel_rfl) ?_ _
        unfold AheadOf
        obtain ⟨cs,hcs1,hcs2,_⟩:=(HIX.out.row.below hbw).ex
        refine wp_store_row 38 (.tmp 96) (.tmp 95) rfl wq.heap.size (pl * 3) (rhQ R c5 D5 d5 (sq + pq)).cells rfl rfl hcs1 (by rw [hcs2];simp [rhQ,RH.cells];omega) (by kernel_rfl) (by simp [rhQ,RH.cells,Value.oneCell']) ?_
        intro w7 hw7
        have hQA:QAt y0 (wq.heap.size + 1) (rhQ R c5 D5 d5 (sq + pq)) (sq + pq):=QAt.mono (QAt.of h1 h2) (show wq.heap.size + 1≤wx.heap.size from HIX.out.lt)
        have hin7:SumIn wq w7 N (F (t + 1)):=by
         rw [hw7]
         refine ⟨belowS (HIX.out.bq.trans (hbw.mono HIX.out.bq.size)) (Nat.le_refl _) _ _,(HIX.out.row.below hbw).put (Nat.lt_succ_self _) HPL.out (by rw [HNEXT.out.1];exact hQA) (fun i hi hne=>HNEXT.out.2 i hne),?_⟩
         have:=(hcs1.setL (rhQ R c5 D5 d5 (sq + pq)).cells (pl * 3)).lt
         exact this
        have HX7:=Lib.hid hin7
        clear hin7 hw7 hQA h1 h2 hsep hcs1 hcs2
        go_wp2_with fail
        exact ⟨⟨t + 1,by omega,by go_num,HX7.out⟩,by simp [intOf];omega⟩
end Go.Proofs.YtgbmnlmnhbkdbaaGreat
