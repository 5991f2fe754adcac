/- credencelaw17.entry, walked: a point's fraction at a setting of the bits. Conditions: a world of at most seven points whose parents may be. -/
import Derived.Test.YtgbmnlmnhbkdbaaGreatJ27
set_option linter.unusedVariables false
set_option linter.unusedSimpArgs false
namespace Go.Proofs.YtgbmnlmnhbkdbaaGreat
open Go.RowKit

structure WV where
 PA:Option Addr
 n:Nat
 pc:Nat
 TA:Option Addr
 m:Nat
 tc:Nat
 AA:Option Addr
 k:Nat
 ac:Nat
 GA:Option Addr
 g:Nat
 gc:Nat
 V:Int
 Ps:List (List Int)
 Ts:List (List Int)
 al:List Int
 gl:List Int
def WV.cells (W:WV):List Value:=[.slice W.PA W.n W.pc,.slice W.TA W.m W.tc,.slice W.AA W.k W.ac,.slice W.GA W.g W.gc,.int .i64 W.V]
def WV.val (W:WV):Value:=.agg #[.slice W.PA W.n W.pc,.slice W.TA W.m W.tc,.slice W.AA W.k W.ac,.slice W.GA W.g W.gc,.int .i64 W.V]
structure WAt (w:World) (W:WV):Prop where
 par:Rows (Value.int .i64) w W.PA W.n W.Ps
 tab:Rows (Value.int .i64) w W.TA W.m W.Ts
 ask:Sl (Value.int .i64) w W.AA W.k W.al
 giv:Sl (Value.int .i64) w W.GA W.g W.gl
 kc:W.k≤W.ac
instance {W:WV}:Stable (fun w=>WAt w W):=⟨fun hb h=>⟨h.par.below (Nat.le_refl _) hb,h.tab.below (Nat.le_refl _) hb,h.ask.below (Nat.le_refl _) hb,h.giv.below (Nat.le_refl _) hb,h.kc⟩⟩
structure WBox (w0 w:World) (g:Nat) (W:WV):Prop where
 box:RowC w g 25 W.cells
 at':WAt w W
 bel:Below w0.heap.size w0 w
theorem WBox.step {w0 w w':World} {g:Nat} {W:WV} (h:WBox w0 w g W) (hb:Below w.heap.size w w'):WBox w0 w' g W:=⟨h.box.below' hb,Stable.below (P:=fun w=>WAt w W) hb h.at',h.bel.trans (hb.mono h.bel.size)⟩
theorem WBox.cells {w0 w:World} {g:Nat} {W:WV} (h:WBox w0 w g W):w.cell? ⟨g,0,none⟩=some (.slice W.PA W.n W.pc)∧w.cell? ⟨g,1,none⟩=some (.slice W.TA W.m W.tc)∧w.cell? ⟨g,2,none⟩=some (.slice W.AA W.k W.ac)∧w.cell? ⟨g,3,none⟩=some (.slice W.GA W.g W.gc)∧w.cell? ⟨g,4,none⟩=some (.int .i64 W.V):=
 ⟨h.box.cell 0,h.box.cell 1,h.box.cell 2,h.box.cell 3,h.box.cell 4⟩
structure WOk (W:WV):Prop where
 n7:W.n≤7
 mn:W.m=W.n
 chk:checkP W.Ps=0
 k3:W.k≤3
 g9:W.g≤9
 askn:InN W.n W.al
 givn:InN W.n W.gl
theorem WOk.par {W:WV} (h:WOk W) (hl:W.Ps.length=W.n) {v:Nat} (hv:v < W.n):(∀ p,p ∈ nth W.Ps v→0≤p∧p < 7)∧(nth W.Ps v).length≤7:=by
 obtain ⟨h1,h2,_⟩:=checkP_ok h.chk
 have hin:=inR_row h1 (i:=v) (by omega)
 have h7:=h.n7
 refine ⟨fun p hp=>?_,?_⟩
 ·have:=hin p hp;omega
 ·have hnd:(nth W.Ps v).Nodup:=dup_nodup (by
   have:=List.any_eq_false.1 h2 _ (nth_mem (show v < W.Ps.length by omega))
   simpa using this)
  have h4:((nth W.Ps v).map Int.toNat).Nodup:=by
   rw [List.nodup_iff_pairwise_ne,List.pairwise_map]
   refine (List.nodup_iff_pairwise_ne.1 hnd).imp_of_mem fun {a b} ha hb hne e=>hne ?_
   have:=hin a ha
   have:=hin b hb
   omega
  have h5:=nodup_lt_length h4 (n:=W.Ps.length) (fun x hx=>by
   obtain ⟨y,hy,rfl⟩:=List.mem_map.1 hx
   have:=hin y hy
   omega)
  rw [List.length_map] at h5
  omega
set_option maxRecDepth 100000 in
set_option maxHeartbeats 400000 in
theorem entry_any (W:WV) (v k:Nat) (w:World) (h:WAt w W) (hok:WOk W) (hv:v < W.n):Calls Tryz.prog 16 #[W.val,.int .i64 (v:Int),.int .i64 (k:Int)] w (RatPost (entQ W.Ts W.Ps v (bitsA k)) w):=by
 obtain ⟨PA,n,pc,TA,m,tc,AA,kk,ac,GA,g,gc,V,Ps,Ts,al,gl⟩:=W
 have hpar:=hok.par h.par.len hv
 simp only at hv hpar
 have hmn:=hok.mn
 have hn7:=hok.n7
 simp only at hmn hn7
 subst hmn
 obtain ⟨b1,o1,B1,m1,d1,rfl,hb1,hc1,hs1⟩:=h.par.row hv
 obtain ⟨b2,o2,B2,m2,d2,rfl,hb2,hc2,hs2⟩:=h.tab.row hv
 simp only at hb1 hc1 hs1 hb2 hc2 hs2
 show Calls Tryz.prog 16 #[.agg #[.slice (some ⟨b1,o1,none⟩) m pc,.slice (some ⟨b2,o2,none⟩) m tc,.slice AA kk ac,.slice GA g gc,.int .i64 V],.int .i64 (v:Int),.int .i64 (k:Int)] w (RatPost (entQ Ts Ps v (bitsA k)) w)
 obtain ⟨Q,hQ⟩:∃ Q,Q=entQ Ts Ps v (bitsA k):=⟨_,rfl⟩
 rw [← hQ]
 have HQ:=Lib.hid hQ
 clear h hok hQ
 have hl1:=hs1.len
 have hl2:=hs2.len
 have hbig2:=hs2.big
 have iv:(v:Int) < (m:Int):=by omega
 have hm17:m1≤7:=by have:=hpar.2;omega
 have H1:=(((Held.init w).sl hs1).sl hs2).new 25 [.slice (some ⟨b1,o1,none⟩) m pc,.slice (some ⟨b2,o2,none⟩) m tc,.slice AA kk ac,.slice GA g gc,.int .i64 V]
 have H:=H1.new 38 [.bool false,.slice none 0 0,.slice none 0 0]
 rw [show (w.alloc (.cells [.slice (some ⟨b1,o1,none⟩) m pc,.slice (some ⟨b2,o2,none⟩) m tc,.slice AA kk ac,.slice GA g gc,.int .i64 V].toArray 25)).heap.size=w.heap.size + 1 from by simp] at H
 have q1:=bc H.bel hc1 hb1
 have q2:=bc H.bel hc2 hb2
 clear H1 hc1 hc2 hs1 hs2
 go_enter Tryz.func16,Tryz.ntmps16
 go_wp2_with fail
 obtain ⟨wq,hwq⟩:∃ wq:World,wq=(w.alloc (.cells #[.slice (some ⟨b1,o1,none⟩) m pc,.slice (some ⟨b2,o2,none⟩) m tc,.slice AA kk ac,.slice GA g gc,.int .i64 V] 25)).alloc (.cells #[.bool false,.slice none 0 0,.slice none 0 0] 38):=⟨_,rfl⟩
 rw [← hwq]
 rw [show ((w.alloc (.cells [.slice (some ⟨b1,o1,none⟩) m pc,.slice (some ⟨b2,o2,none⟩) m tc,.slice AA kk ac,.slice GA g gc,.int .i64 V].toArray 25)).alloc (.cells [.bool false,.slice none 0 0,.slice none 0 0].toArray 38))=wq from hwq.symm] at H q1 q2
 clear hwq
 have r0:=H.has.2.1.cell 0
 have r1:=H.has.2.1.cell 1
 go_loopw [7,8] (fun r i wr=>∃ t:Nat,t≤m1∧i=.int .i64 (t:Nat)∧r=.int .i64 (placeA ((nth Ps v).take t) (bitsA k):Nat)∧wr=wq) (fun _ i _=>m1 - (intOf i).toNat)
 case atStart=>exact ⟨0,by omega,rfl,rfl,rfl⟩
 case round =>
  obtain ⟨t,ht,rfl,rfl,hwr⟩:=hrel
  have hwr:=hwr.symm
  subst hwr
  have hRlt:∀ t,t≤m1→placeA ((nth Ps v).take t) (bitsA k) < 128:=fun t ht=>by
   have h1:=placeA_lt ((nth Ps v).take t) (bitsA k)
   have h2:((nth Ps v).take t).length≤7:=by rw [List.length_take];omega
   have h3:2 ^ ((nth Ps v).take t).length≤2 ^ 7:=Nat.pow_le_pow_right (by omega) h2
   omega
  have hs1:=H.has.2.2.2.1
  have hs2:=H.has.2.2.1
  by_cases htl:t < m1
  ·as_aux_lemma =>
   obtain ⟨b3,o3,rfl,hb3,hc3⟩:=hs1.at' (by omega)
   have c3:=hc3 t htl
   have i3:(t:Int) < (m1:Int):=by omega
   have hp:=hpar.1 (nth (nth Ps v) t) (nth_mem (by omega))
   have hR:=hRlt t (by omega)
   have hsn:placeA ((nth Ps v).take (t + 1)) (bitsA k)=2 * placeA ((nth Ps v).take t) (bitsA k) + (bitsA k (nth (nth Ps v) t).toNat).toNat:=by
    rw [take_snoc (by omega),placeA_snoc]
   have hbit:=bit_of k (nth (nth Ps v) t).toNat
   have hb1':(bitsA k (nth (nth Ps v) t).toNat).toNat≤1:=by cases bitsA k (nth (nth Ps v) t).toNat <;> decide
   obtain ⟨p,hpp⟩:∃ p,p=nth (nth Ps v) t:=⟨_,rfl⟩
   rw [← hpp] at c3 hp hsn hbit hb1'
   generalize (bitsA k p.toNat).toNat=bt at *
   obtain ⟨R,hRR⟩:∃ R,R=placeA ((nth Ps v).take t) (bitsA k):=⟨_,rfl⟩
   rw [← hRR] at hR hsn ⊢
   have hp0:=hp.1
   have hp1:p≤64:=by omega
   have HS:=Lib.hid hsn
   clear hc3 hs1 hs2 hRlt hpar hpp hRR hsn hp H
   go_wp2_with fail
   exact ⟨⟨t + 1,by omega,by go_num,by rw [HS.out];push_cast;rfl,trivial⟩,by simp [intOf];omega⟩
  ·obtain rfl:t=m1:=by omega
   have i3:¬ (t:Int) < (t:Int):=by omega
   have hR:=hRlt t (Nat.le_refl _)
   rw [take_all (show (nth Ps v).length≤t by omega)] at hR ⊢
   have hent:entQ Ts Ps v (bitsA k)=mkRat ((if bitsA k v then eig Ts v (placeA (nth Ps v) (bitsA k)) else 8 - eig Ts v (placeA (nth Ps v) (bitsA k)):Nat):Int) 8:=rfl
   have hbit:=bit_of k v
   have heig:eig Ts v (placeA (nth Ps v) (bitsA k))=if 8 < (if placeA (nth Ps v) (bitsA k) < (nth Ts v).length then (bits .and .i64 (nth (nth Ts v) (placeA (nth Ps v) (bitsA k))) 15).toNat else 3) then 16 - (if placeA (nth Ps v) (bitsA k) < (nth Ts v).length then (bits .and .i64 (nth (nth Ts v) (placeA (nth Ps v) (bitsA k))) 15).toNat else 3) else (if placeA (nth Ps v) (bitsA k) < (nth Ts v).length then (bits .and .i64 (nth (nth Ts v) (placeA (nth Ps v) (bitsA k))) 15).toNat else 3):=rfl
   have hele:=eig_le Ts v (placeA (nth Ps v) (bitsA k))
   obtain ⟨x,hx⟩:∃ x,x=nth (nth Ts v) (placeA (nth Ps v) (bitsA k)):=⟨_,rfl⟩
   have hc2:placeA (nth Ps v) (bitsA k) < m2→∃ b off,B2=some ⟨b,off,none⟩∧wq.cell? ⟨b,off + placeA (nth Ps v) (bitsA k),none⟩=some (.int .i64 x):=fun h=>by
    obtain ⟨b,off,e,_,hc⟩:=hs2.at' (by omega)
    exact ⟨b,off,e,by rw [hx];exact hc _ h⟩
   rw [← hx,hl2] at heig
   obtain ⟨e0,he0,hand⟩:=and15 x
   rw [hand,show ((e0:Nat):Int).toNat=e0 from rfl] at heig
   generalize placeA (nth Ps v) (bitsA k)=R at *
   generalize hE:eig Ts v R=E at *
   have HEN:=Lib.hid (And.intro hent heig)
   have HH:=Lib.hid H
   generalize hbt:bitsA k v=bv at *
   have v0:(0:Int)≤(v:Int):=by omega
   have v1:(v:Int)≤64:=by omega
   have HC2:=Lib.hid hc2
   have HL:=Lib.hid (And.intro hele hbit)
   clear hent heig H hs1 hs2 hRlt hpar hx hE hwr hbt hc2 hele hl1 hl2 hbit
   go_upto_if 43 with fail
   go_cut [9] from 43 to 56 (fun u wx=>u=.int .i64 (E:Nat)∧wx=wq)
   case first =>
    have hE2:=HEN.out.2
    by_cases hRm:R < m2
    ·obtain ⟨b,off,rfl,c2⟩:=HC2.out hRm
     have j1:(R:Int) < (m2:Int):=by omega
     have j3:decide (R < m2)=true:=decide_eq_true hRm
     rw [if_pos hRm] at hE2
     by_cases h8:8 < e0
     ·as_aux_lemma =>
      have j2:(8:Int) < (e0:Int):=by omega
      rw [if_pos h8] at hE2
      have HE2:=Lib.hid hE2
      clear hE2
      go_wp2_with fail
      go_meet
      exact ⟨by rw [HE2.out];congr 1;omega,rfl⟩
     ·as_aux_lemma =>
      have j2:¬ (8:Int) < (e0:Int):=by omega
      rw [if_neg h8] at hE2
      have HE2:=Lib.hid hE2
      clear hE2
      go_wp2_with fail
      go_meet
      exact ⟨by rw [HE2.out],rfl⟩
    ·as_aux_lemma =>
     have j1:¬ (R:Int) < (m2:Int):=by omega
     have j3:decide (R < m2)=false:=decide_eq_false hRm
     rw [if_neg hRm] at hE2
     have HE2:=Lib.hid hE2
     clear hE2
     go_wp2_with fail
     go_meet
     exact ⟨by rw [HE2.out];rfl,rfl⟩
   case rest =>
    obtain ⟨rfl,rfl⟩:=hcut
    have hq:∃ F:Nat,F≤8∧Q=mkRat (F:Int) 8∧(F:Int)=if bv then (E:Int) else 8 - (E:Int):=by
     have h8:=HL.out.1
     cases bv
     ·exact ⟨8 - E,by omega,HQ.out.trans HEN.out.1,by simp;omega⟩
     ·exact ⟨E,h8,HQ.out.trans HEN.out.1,rfl⟩
    obtain ⟨F,hF8,hFq,hFv⟩:=hq
    have hbit:=HL.out.2
    have HFQ:=Lib.hid (And.intro hFq (And.intro hF8 HL.out.1))
    have hof:=fun w=>frac_of F 8 w (by omega) (by omega) (by omega)
    have HOF:=Lib.hid hof
    clear hFq hof hF8
    have hmain:∀ (e:Ending) (w1:World),RatOkPost (mkRat (F:Int) 8) wc e w1→RatOkPost Q wc e w1:=fun e w1 h=>by rw [HFQ.out.1];exact h
    have HM:=Lib.hid hmain
    clear hmain
    cases bv
    ·as_aux_lemma =>
     have hbit:bits .and .i64 ((k:Int) / 2 ^ v) 1=0:=hbit
     have HFV:=Lib.hid (show (F:Int)=8 - (E:Int) from hFv)
     clear hFv
     have h8:=HFQ.out.2.2
     go_wp2_with fail
     rw [← HFV.out]
     refine (HOF.out _).mono ?_
     rintro e w1 hp
     obtain ⟨RA,cr,D,dr,rfl,ho,ho2,hsep,hb2⟩:=HM.out e w1 hp
     have H3:=HH.out.step hb2
     have hg:=HH.out.has.1.lt
     obtain ⟨wz,hwz⟩:∃ wz:World,wz=w1.alloc (.cells #[.bool (isNeg Q.num),.slice RA (limbs Q.num.natAbs).length cr,.slice D (limbs Q.den).length dr] 38):=⟨_,rfl⟩
     have hbz:Below w1.heap.size w1 wz:=by rw [hwz];exact (Below.refl _ _).alloc (Nat.le_refl _) _
     have H4:=H3.step hbz
     have ho:=(ho.below (Nat.le_refl _) hbz).mono (show w.heap.size + 1 + 1≤wc.heap.size by omega)
     have ho2:=(ho2.below (Nat.le_refl _) hbz).mono (show w.heap.size + 1 + 1≤wc.heap.size by omega)
     have t0:=H4.has.1.cell 0
     have t1:=H4.has.1.cell 1
     have t2:=H4.has.1.cell 2
     have f0:=H4.has.1.frozen 0
     have f1:=H4.has.1.frozen 1
     have f2:=H4.has.1.frozen 2
     have hq:=box3_fin (v0:=.bool (isNeg Q.num)) (v1:=.slice RA (limbs Q.num.natAbs).length cr) (v2:=.slice D (limbs Q.den).length dr) (g:=w.heap.size + 1) (by omega) H4.has.1 H4.bel ho ho2
     have c0:=hq.1.cell 0
     have c1:=hq.1.cell 1
     have c2:=hq.1.cell 2
     rw [hwz] at t0 t1 t2 f0 f1 f2 c0 c1 c2 hq
     have HK:=Lib.hid (And.intro hq hsep)
     clear hp ho ho2 hsep hb2 H3 H4 hbz hwz hq
     go_wp2_with fail
     exact bodyPost_ret (v:=.agg #[.bool (isNeg Q.num),.slice RA (limbs Q.num.natAbs).length cr,.slice D (limbs Q.den).length dr]) (by simp [results,Tryz.results16,go_sem,c0,c1,c2]) rfl ⟨RA,cr,D,dr,rfl,HK.out.1.2.1.mono (by omega),HK.out.1.2.2.1.mono (by omega),HK.out.2,HK.out.1.2.2.2⟩
    ·as_aux_lemma =>
     have hbit:bits .and .i64 ((k:Int) / 2 ^ v) 1=1:=hbit
     have HFV:=Lib.hid (show (F:Int)=(E:Int) from hFv)
     clear hFv
     have h8:=HFQ.out.2.2
     go_wp2_with fail
     rw [← HFV.out]
     refine (HOF.out _).mono ?_
     rintro e w1 hp
     obtain ⟨RA,cr,D,dr,rfl,ho,ho2,hsep,hb2⟩:=HM.out e w1 hp
     have H3:=HH.out.step hb2
     have hg:=HH.out.has.1.lt
     obtain ⟨wz,hwz⟩:∃ wz:World,wz=w1.alloc (.cells #[.bool (isNeg Q.num),.slice RA (limbs Q.num.natAbs).length cr,.slice D (limbs Q.den).length dr] 38):=⟨_,rfl⟩
     have hbz:Below w1.heap.size w1 wz:=by rw [hwz];exact (Below.refl _ _).alloc (Nat.le_refl _) _
     have H4:=H3.step hbz
     have ho:=(ho.below (Nat.le_refl _) hbz).mono (show w.heap.size + 1 + 1≤wc.heap.size by omega)
     have ho2:=(ho2.below (Nat.le_refl _) hbz).mono (show w.heap.size + 1 + 1≤wc.heap.size by omega)
     have t0:=H4.has.1.cell 0
     have t1:=H4.has.1.cell 1
     have t2:=H4.has.1.cell 2
     have f0:=H4.has.1.frozen 0
     have f1:=H4.has.1.frozen 1
     have f2:=H4.has.1.frozen 2
     have hq:=box3_fin (v0:=.bool (isNeg Q.num)) (v1:=.slice RA (limbs Q.num.natAbs).length cr) (v2:=.slice D (limbs Q.den).length dr) (g:=w.heap.size + 1) (by omega) H4.has.1 H4.bel ho ho2
     have c0:=hq.1.cell 0
     have c1:=hq.1.cell 1
     have c2:=hq.1.cell 2
     rw [hwz] at t0 t1 t2 f0 f1 f2 c0 c1 c2 hq
     have HK:=Lib.hid (And.intro hq hsep)
     clear hp ho ho2 hsep hb2 H3 H4 hbz hwz hq
     go_wp2_with fail
     exact bodyPost_ret (v:=.agg #[.bool (isNeg Q.num),.slice RA (limbs Q.num.natAbs).length cr,.slice D (limbs Q.den).length dr]) (by simp [results,Tryz.results16,go_sem,c0,c1,c2]) rfl ⟨RA,cr,D,dr,rfl,HK.out.1.2.1.mono (by omega),HK.out.1.2.2.1.mono (by omega),HK.out.2,HK.out.1.2.2.2⟩
end Go.Proofs.YtgbmnlmnhbkdbaaGreat
