/- nat.DivMod, walked. Conditions: the slices read as limbs, within Go's bound together. -/
import Derived.Test.YtgbmnlmnhbkdbaaGreatNatE
import Derived.Test.YtgbmnlmnhbkdbaaGreatJ22
import Derived.Test.YtgbmnlmnhbkdbaaGreatBitsShelf
set_option linter.unusedVariables false
set_option linter.unusedSimpArgs false
namespace Go.Proofs.YtgbmnlmnhbkdbaaGreat
open Go.RowKit

def DivPost (a b:Nat) (w:World) (e:Ending) (w':World):Prop:=
 ∃ Q cq R cr,e=.returned (.tuple #[.slice Q (limbs (a / b)).length cq,.slice R (limbs (if b=0 then 0 else a % b)).length cr,.int .i64 (if b=0 then 11 else 0)]) ∧
  OwnR eU w' w.heap.size 83 Q (limbs (a / b)).length cq (limbs (a / b))∧OwnR eU w' w.heap.size 83 R (limbs (if b=0 then 0 else a % b)).length cr (limbs (if b=0 then 0 else a % b))∧Below w.heap.size w w'
theorem div_ok {a b:Nat} (hb:b ≠ 0) {w w':World} {e:Ending} {Q R:Option Addr} {cq cr:Nat} (he:e=.returned (.tuple #[.slice Q (limbs (a / b)).length cq,.slice R (limbs (a % b)).length cr,.int .i64 0]))
 (h1:OwnR eU w' w.heap.size 83 Q (limbs (a / b)).length cq (limbs (a / b))) (h2:OwnR eU w' w.heap.size 83 R (limbs (a % b)).length cr (limbs (a % b))) (h3:Below w.heap.size w w'):DivPost a b w e w':=by
 refine ⟨Q,cq,R,cr,?_,h1,?_,h3⟩
 ·rw [if_neg hb,if_neg hb];exact he
 ·rw [if_neg hb];exact h2
set_option maxRecDepth 100000 in
set_option maxHeartbeats 1600000 in
theorem nat_divmod (A B:Option Addr) (n c m d:Nat) (xs ys:List Nat) (w:World) (h:Sl eU w A n xs) (hc:n≤c) (hl:L32 xs) (k:Sl eU w B m ys) (kc:m≤d) (kl:L32 ys) (hb:(n + m + 4) * 4≤140737488351232) :
 Calls Tryz.prog 45 #[.slice A n c,.slice B m d] w (DivPost (val xs) (val ys) w):=by
 have ht:=h.trimV hl
 have kt:=k.trimV kl
 have hle:(limbs (val xs)).length≤n:=by rw [limbs_val hl];have:=trimL_length xs;rw [h.len] at this;exact this
 have kle:(limbs (val ys)).length≤m:=by rw [limbs_val kl];have:=trimL_length ys;rw [k.len] at this;exact this
 obtain ⟨wa,hwa⟩:∃ wa:World,wa=w:=⟨_,rfl⟩
 subst hwa
 obtain ⟨a,hva⟩:∃ a,a=val xs:=⟨_,rfl⟩
 obtain ⟨b,hvb⟩:∃ b,b=val ys:=⟨_,rfl⟩
 rw [← hva,← hvb]
 rw [← hva] at ht hle
 rw [← hvb] at kt kle
 have HV:=Lib.hid (And.intro hva hvb)
 clear hva hvb
 go_enter Tryz.func45,Tryz.ntmps45
 go_wp2_with fail
 refine (nat_trim A n c xs _ h hc hl).mono ?_
 rintro e w1 ⟨rfl,rfl⟩
 rw [← HV.out.1]
 go_wp2_with fail
 refine (nat_trim B m d ys _ k kc kl).mono ?_
 rintro e w1 ⟨rfl,rfl⟩
 rw [← HV.out.2]
 clear h k hl kl HV
 have hn':(limbs a).length≤c:=by omega
 have hm':(limbs b).length≤d:=by omega
 generalize hp:(limbs a).length=p at *
 generalize hq:(limbs b).length=q at *
 have HP:=Lib.hid (And.intro hp (And.intro hq (And.intro ht kt)))
 clear hp hq
 rcases Nat.eq_zero_or_pos q with h0 | hq0
 ·have hb0:b=0:=limbs_nil.1 (List.eq_nil_of_length_eq_zero (by rw [HP.out.2.1];exact h0))
  subst h0
  have HB:=Lib.hid hb0
  clear hb0 ht kt
  go_wp2_with fail
  go_ret3
  refine ⟨none,0,none,0,?_,?_,?_,Below.refl _ _⟩
  ·rw [HB.out];simp [limbs_zero]
  ·rw [HB.out];simp only [Nat.div_zero,limbs_zero];exact OwnR.nil _ _ _ _
  ·rw [HB.out];simp only [if_true,limbs_zero];exact OwnR.nil _ _ _ _
 have hb0:b ≠ 0:=fun e=>by
  have:=HP.out.2.1
  rw [e,limbs_zero] at this
  simp at this;omega
 have hq1:¬ (q:Int)=0:=by omega
 have hq2:((q:Int) == 0)=false:=by simpa using hq1
 have hq3:(0:Int) < (q:Nat):=by omega
 go_wp2_with fail
 refine (nat_cmp A B p c q d (limbs a) (limbs b) _ ht hn' (limbs_L32 a) kt hm' (limbs_L32 b)).mono ?_
 rintro e w1 ⟨rfl,u,rfl⟩
 rw [val_limbs,val_limbs]
 have hs1:wa.heap.size≤(wa.drewN u).heap.size:=Nat.le_refl _
 have hB1:Below wa.heap.size wa (wa.drewN u):=below_refl_drewN _ _ _
 have ht1:=ht.drewN u
 have kt1:=kt.drewN u
 have HB:=Lib.hid hB1
 generalize wa.drewN u=w1 at *
 clear hB1 ht kt
 rcases Nat.lt_or_ge a b with hab | hab
 ·rw [cmpN_lt hab]
  go_wp2_with fail
  refine (nat_own A p c (limbs a) _ ht1 hn' (limbs_L32 a) (by omega)).mono ?_
  rintro e w2 ⟨R,dr,rfl,ho,hb2⟩
  rw [val_limbs] at ho ⊢
  have hdiv:a / b=0:=Nat.div_eq_of_lt hab
  have hmod:a % b=a:=Nat.mod_eq_of_lt hab
  have HF:=Lib.hid (And.intro (ho.mono hs1) (And.intro (HB.out.trans (hb2.mono hs1)) (And.intro hdiv hmod)))
  clear ho hb2 hdiv hmod
  go_wp2_with fail
  go_ret3
  refine div_ok (Q:=none) (cq:=0) (R:=R) (cr:=dr) hb0 ?_ ?_ ?_ HF.out.2.1
  ·rw [HF.out.2.2.1,HF.out.2.2.2,limbs_zero];rfl
  ·rw [HF.out.2.2.1,limbs_zero];exact OwnR.nil _ _ _ _
  ·rw [HF.out.2.2.2];exact HF.out.1
 have hge:¬ cmpN a b < 0:=by unfold cmpN;split <;> (try split) <;> omega
 generalize cmpN a b=cv at *
 have hge':decide (cv < 0)=false:=by simpa using hge
 have hqp:q≤p:=by
  rcases Nat.lt_or_ge p q with h | h
  ·have:=limbs_fewer (a:=a) (b:=b) (by rw [HP.out.1,HP.out.2.1];exact h);omega
  ·exact h
 rcases Nat.lt_or_ge 1 q with hq4 | hq4
 ·have hq5:¬ (q:Int)=1:=by omega
  have hq6:((q:Int) == 1)=false:=by simpa using hq5
  have HT:=Lib.hid (And.intro ht1 kt1)
  obtain ⟨bb,ob,hBe⟩:=sl_someU kt1 (by omega)
  subst hBe
  have g1:=sl_atU kt1 (i:=q - 1) (by omega)
  have i1:((q:Int) - 1).toNat=q - 1:=by omega
  have i3:(0:Int)≤(q:Int) - 1:=by omega
  have i5:(q:Int) - 1 < (q:Nat):=by omega
  have hx:=(limbs_L32 b).nth (q - 1)
  obtain ⟨x,hxe⟩:∃ x,x=nth (limbs b) (q - 1):=⟨_,rfl⟩
  rw [← hxe] at g1 hx
  have hx':(x:Int)≤4294967295:=by rw [bB_eq] at hx;omega
  have hbl:Lib.bitLen x≤32:=Lib.bitLen_le x 32 (by omega) (by rw [bB_eq] at hx;omega)
  obtain ⟨z,hz⟩:∃ z,z + Lib.bitLen x=32:=⟨32 - Lib.bitLen x,by omega⟩
  obtain ⟨hn1,hn2,hz31⟩:=shift_norm HP.out.2.1 (by omega) hxe.symm hz
  have hlow:=shift_low HP.out.2.1 (by omega) hxe.symm hz
  have hzI:(32 - (Lib.bitLen x:Int))=(z:Int):=by omega
  have HX:=Lib.hid (And.intro hn1 (And.intro hn2 (And.intro hlow hzI)))
  clear hxe hbl hz hn1 hn2 hlow hzI ht1 kt1
  go_wp2_with fail
  refine (Tryz.bits_LeadingZeros32 (x:Int) _ (by omega) hx').mono ?_
  rintro e w2 ⟨rfl,rfl⟩
  rw [show ((x:Int)).toNat=x by omega,HX.out.2.2.2]
  have ht1:=HT.out.1
  go_wp2_with fail
  refine (nat_left A p c z (limbs a) _ ht1 (limbs_L32 a) (by omega) (by omega)).mono ?_
  rintro e w2 ⟨gu,us,rfl,hgu,hru,hul,hul32,huv,hb2⟩
  rw [val_limbs] at huv
  have kt2:=HT.out.2.below (Nat.le_refl _) hb2
  have HU:=Lib.hid (And.intro hru (And.intro hul (And.intro hul32 (And.intro huv (And.intro (Nat.le_trans hs1 hgu) (HB.out.trans (hb2.mono hs1)))))))
  have hs2:=hb2.size
  clear hru hul hul32 huv hb2 hgu ht1
  go_wp2_with fail
  refine (nat_left _ q d z (limbs b) _ kt2 (limbs_L32 b) (by omega) (by omega)).mono ?_
  rintro e w3 ⟨gv,vs,rfl,hgv,hrv,hvl,hvl32,hvv,hb3⟩
  rw [val_limbs] at hvv
  have hsv:=hrv.slAll hvl (by omega)
  have hu3:=HU.out.1.below hb3 HU.out.1.lt
  have hs3:=hb3.size
  have HW:=Lib.hid (And.intro hu3 (And.intro hvv (And.intro (HU.out.2.2.2.2.2.trans (hb3.mono (by omega))) (And.intro (show gu < gv from Nat.lt_of_lt_of_le HU.out.1.lt hgv) (And.intro hsv hrv.lt)))))
  clear hrv hvv hb3 hu3 kt2
  go_wp2_with fail
  refine (nat_trim _ (q + 1) (q + 1) vs _ hsv (Nat.le_refl _) hvl32).mono ?_
  rintro e w4 ⟨rfl,rfl⟩
  have hsv2:=hsv.trimV hvl32
  rw [HW.out.2.1,HX.out.1] at hsv2 ⊢
  have HS:=Lib.hid hsv2
  clear hsv hsv2
  have hpq2:(0:Int)≤(p:Int) - (q:Nat):=by omega
  go_wp2_with (first
   | (refine wpList_mk _ eiNat eU 0 rfl rfl _ _ rfl (p - q + 1) ?_ ?_ (by omega) ?_)
   | fail)
  ·show Value.int .i64 ((p:Int) - (q:Nat) + 1)=_
   congr 1;omega
  ·show Value.int .i64 ((p:Int) - (q:Nat) + 1)=_
   congr 1;omega
  intro w5 hrq hb5
  have HQ:=Lib.hid (And.intro hrq (And.intro (HS.out.below (Nat.le_refl _) hb5) (And.intro (HW.out.1.below hb5 HW.out.1.lt) (And.intro (HW.out.2.2.1.trans (hb5.mono (by omega))) (And.intro (show gv < w3.heap.size from HW.out.2.2.2.2.2) (HW.out.2.2.2.1))))))
  clear hrq hb5
  go_wp2_with fail
  have hVpos:0 < 2 ^ z * b:=Nat.mul_pos (Nat.pow_pos (by omega)) (Nat.pos_of_ne_zero hb0)
  have hVn:2 ^ z * b≤bB ^ q:=by have:=limbs_lt (2 ^ z * b);rw [HX.out.1] at this;omega
  have hst:=DivAt.start HP.out.1 hz31 HX.out.2.2.1 hqp HU.out.2.2.2.1 HU.out.2.2.1 (L32.replicate (p - q + 1)) (by simp)
  have HST:=Lib.hid (And.intro hst (And.intro hVpos hVn))
  have hs5:=HQ.out.2.2.2.1.size
  have hguw:wa.heap.size≤gu:=HU.out.2.2.2.2.1
  clear hst hVpos hVn g1 i1 i3 i5 hx hx'
  generalize hgq:w3.heap.size=gq at *
  have hgvq:=HQ.out.2.2.2.2.1
  have hguv:=HQ.out.2.2.2.2.2
  clear hgq hgv hs3
  go_loopw [13] (fun iv wr=>∃ (t:Nat) (u' q':List Nat),iv=.int .i64 ((t:Int) - 1)∧t≤p - q + 1∧DivAt (2 ^ z * a) (2 ^ z * b) u' q' q t∧u'.length=p + 1∧q'.length=p - q + 1∧RowAt eU wr gu 83 u' []∧RowAt eU wr gq 83 q' []∧Sl eU wr (some ⟨gv,0,none⟩) q (limbs (2 ^ z * b))∧Below wa.heap.size wa wr) (fun iv _=>(intOf iv + 1).toNat)
  case atStart=>exact ⟨p - q + 1,us,_,by congr 1;omega,Nat.le_refl _,HST.out.1,HU.out.2.1,by simp,HQ.out.2.2.1,HQ.out.1,HQ.out.2.1,HQ.out.2.2.2.1⟩
  case round =>
   obtain ⟨t,u',q',rfl,htp,hD,hul,hql,hru,hrq,hsv,hbl⟩:=hrel
   obtain ⟨wb,hwb⟩:∃ wb:World,wb=wr:=⟨_,rfl⟩
   subst hwb
   rcases t with _ | j
   ·obtain ⟨hdq,hdu⟩:=hD.done
    rw [div_shift] at hdq
    have hdm:val u' / 2 ^ z=a % b:=by rw [hdu,mod_shift]
    have hsu:=hru.slAll hul (by omega)
    have hsq:=hrq.slAll hql (by omega)
    have hsz:=hbl.size
    have htk:u'.take (limbs (val u')).length=limbs (val u'):=by rw [limbs_val hD.lu];exact (trimL_take u').symm
    have hkl:(limbs (val u')).length≤p + 1:=by rw [limbs_val hD.lu,← hul];exact trimL_length u'
    have HL:=Lib.hid (And.intro hD.lu (And.intro hD.lq (And.intro hul (And.intro hql (And.intro hru (And.intro hrq (And.intro hbl (And.intro hdq (And.intro hdm htk)))))))))
    clear hD hul hql hru hrq hsv hbl hdq hdm hdu htk
    go_wp2_with fail
    refine (nat_trim _ (p + 1) (p + 1) u' _ hsu (Nat.le_refl _) HL.out.1).mono ?_
    rintro e w6 ⟨rfl,rfl⟩
    generalize hkk:(limbs (val u')).length=kk at *
    have HK:=Lib.hid hkk
    clear hkk hsu hsq
    go_wp2_with fail
    go_loopw [89] (fun iv wr=>∃ (i:Nat) (s:List Nat),iv=.int .i64 (i:Nat)∧i≤kk∧DownAt (limbs (val u')) s z i∧Win wr gu 0 [] s (u'.drop kk) []∧RowAt eU wr gq 83 q' []∧Below wa.heap.size wa wr) (fun iv _=>kk - (intOf iv).toNat)
    case atStart=>exact ⟨0,_,rfl,Nat.zero_le _,DownAt.start z (limbs_L32 _),⟨by
     rw [List.nil_append]
     have h1:=HL.out.2.2.2.2.2.2.2.2.2
     rw [← h1,List.take_append_drop]
     exact HL.out.2.2.2.2.1,rfl⟩,HL.out.2.2.2.2.2.1,HL.out.2.2.2.2.2.2.1⟩
    case round =>
     obtain ⟨i,s,rfl,hi,hS,hW,hrq,hbl⟩:=hrel
     obtain ⟨wc,hwc⟩:∃ wc:World,wc=wr:=⟨_,rfl⟩
     subst hwc
     have hsl:=hS.len
     rw [HK.out] at hsl
     by_cases hlt:i < kk
     ·as_aux_lemma =>
       have g1:=hW.cell (i:=i) (by omega)
       have g4:=hW.frozen i
       rw [hS.rest i (Nat.le_refl _),Nat.zero_add] at g1
       have hx:=(limbs_L32 (val u')).nth i
       have hy:=(limbs_L32 (val u')).nth (i + 1)
       have hst:=hS.step (limbs_L32 _) (by omega) (by rw [HK.out];exact hlt)
       have g2:i + 1 < kk→wc.cell? ⟨gu,i + 1,none⟩=some (.int .u32 ((nth (limbs (val u')) (i + 1):Nat):Int)):=fun h=>by
        have:=hW.cell (i:=i + 1) (by omega)
        rwa [hS.rest (i + 1) (by omega),Nat.zero_add] at this
       have hy0:kk≤i + 1→nth (limbs (val u')) (i + 1)=0:=fun h=>nth_none (by rw [HK.out];exact h)
       have hrow:=hW.set (i:=i) (by omega) ((nth (limbs (val u')) (i + 1) * bB + nth (limbs (val u')) i) / 2 ^ z % bB)
       have hr2:=hrq.far (p:=⟨gu,0 + i,none⟩) (show gq ≠ gu by omega) (eU ((nth (limbs (val u')) (i + 1) * bB + nth (limbs (val u')) i) / 2 ^ z % bB))
       have hr3:=hbl.setCell (p:=⟨gu,0 + i,none⟩) hguw (eU ((nth (limbs (val u')) (i + 1) * bB + nth (limbs (val u')) i) / 2 ^ z % bB))
       generalize nth (limbs (val u')) i=x at *
       generalize nth (limbs (val u')) (i + 1)=y at *
       have w1:=or_high hy hx
       have hN:(y * bB + x) / 2 ^ z < 18446744073709551616:=by
        have h1:(y + 1) * bB≤bB * bB:=Nat.mul_le_mul_right _ hy
        rw [Nat.add_mul] at h1
        have h2:=Nat.div_le_self (y * bB + x) (2 ^ z)
        have h3:bB * bB=18446744073709551616:=rfl
        omega
       have q1:((y:Int) * 4294967296 + (x:Nat)) / 2 ^ z=(((y * bB + x) / 2 ^ z:Nat):Int):=by
        have hc:(y:Int) * 4294967296 + (x:Nat)=((y * bB + x:Nat):Int):=by rw [bB_eq];omega
        rw [hc]
        generalize y * bB + x=N
        push_cast;rfl
       have e1:eU ((y * bB + x) / 2 ^ z % bB)=.int .u32 ((((y * bB + x) / 2 ^ z:Nat):Int) % 4294967296):=by unfold eU;rw [bB_eq];rfl
       rw [e1,Nat.zero_add] at hrow hr2 hr3
       have hx':(x:Int) < 4294967296:=by rw [bB_eq] at hx;omega
       have hy':(y:Int) < 4294967296:=by rw [bB_eq] at hy;omega
       have hN':(((y * bB + x) / 2 ^ z:Nat):Int) < 18446744073709551616:=by omega
       have hz1:(z:Int)≤31:=by omega
       have hz0:(0:Int)≤(z:Nat):=by omega
       have hlt':(i:Int) < (kk:Nat):=by omega
       have hlt2:(i:Int) < (p:Int) + 1:=by omega
       have HS2:=Lib.hid (And.intro hst (And.intro hrow (And.intro hr2 hr3)))
       clear hst hrow hr2 hr3 hS hW hrq hbl hx hy hN e1
       generalize (y * bB + x) / 2 ^ z=NN at *
       rcases Nat.lt_or_ge (i + 1) kk with hik | hik
       ·have g2:=g2 hik
        have hik':(i:Int) + 1 < (kk:Nat):=by omega
        clear hy0
        go_wp2_with fail
        exact ⟨⟨i + 1,_,by go_num,by omega,HS2.out.1,HS2.out.2.1,HS2.out.2.2.1,HS2.out.2.2.2⟩,by simp [intOf];omega⟩
       ·obtain rfl:y=0:=hy0 hik
        have hik':¬ (i:Int) + 1 < (kk:Nat):=by omega
        clear hy0 g2
        simp only [Int.natCast_zero,Int.zero_mul,Int.zero_add] at w1 q1
        go_wp2_with fail
        exact ⟨⟨i + 1,_,by go_num,by omega,HS2.out.1,HS2.out.2.1,HS2.out.2.2.1,HS2.out.2.2.2⟩,by simp [intOf];omega⟩
     ·obtain rfl:i=kk:=by omega
      have hS':=hS
      rw [← HK.out] at hS'
      have hfin:=hS'.fin (limbs_L32 _)
      rw [val_limbs,HL.out.2.2.2.2.2.2.2.2.1] at hfin
      have hsq:=hrq.slAll HL.out.2.2.2.1 (by omega)
      have hsu:=(hW.row.slAll (n:=p + 1) (by simp only [List.nil_append,List.length_append,List.length_drop,HL.out.2.2.1,hsl];omega) (by omega)).cutN (k:=i) hkl
      rw [List.nil_append,List.take_left' hsl] at hsu
      have hsz:=hbl.size
      have HF:=Lib.hid (And.intro hfin (And.intro hS.l32 (And.intro hbl (And.intro HL.out.2.2.2.2.2.2.2.1 HL.out.2.1))))
      have hlt':¬ (i:Int) < (i:Nat):=by omega
      clear hS hS' hfin hrq hW hbl
      go_wp2_with fail
      refine (nat_own _ (p - q + 1) (p - q + 1) q' _ hsq (Nat.le_refl _) HF.out.2.2.2.2 (by omega)).mono ?_
      rintro e w7 ⟨Q,cq,rfl,ho,hb7⟩
      rw [HF.out.2.2.2.1] at ho ⊢
      have hsu2:=hsu.below (Nat.le_refl _) hb7
      have hbl7:=HF.out.2.2.1.trans (hb7.mono hsz)
      have hsz7:=hbl7.size
      have HG:=Lib.hid (And.intro (ho.mono hsz) hbl7)
      clear ho hb7 hbl7 hsu hsq
      go_wp2_with fail
      refine (nat_own _ i (p + 1) s _ hsu2 hkl HF.out.2.1 (by omega)).mono ?_
      rintro e w8 ⟨R,cr,rfl,ho,hb8⟩
      rw [HF.out.1] at ho ⊢
      have HH:=Lib.hid (And.intro (HG.out.1.below (Nat.le_refl _) hb8) (And.intro (ho.mono hsz7) (HG.out.2.trans (hb8.mono hsz7))))
      clear ho hb8 hsu2
      go_wp2_with fail
      go_ret3
      exact div_ok hb0 rfl HH.out.1 HH.out.2.1 HH.out.2.2
   ·as_aux_lemma =>
     rw [show (((j + 1:Nat):Int) - 1)=(j:Int) by omega]
     have hwin:Win wb gu j (u'.take j) ((u'.drop j).take (q + 1)) (u'.drop (j + q + 1)) []:=⟨by
      rw [show u'.take j ++ (u'.drop j).take (q + 1) ++ u'.drop (j + q + 1)=u' from by
       rw [List.append_assoc,show j + q + 1=j + (q + 1) by omega,← List.drop_drop,List.take_append_drop,List.take_append_drop]]
      exact hru,by rw [List.length_take];omega⟩
     have hlt:=hD.win HST.out.2.2 (by omega)
     have j1:(0:Int)≤(j:Nat):=by omega
     have j2:(j:Int)≤(j:Int) + (q:Nat) + 1:=by omega
     have j3:(j:Int) + (q:Nat) + 1≤(p:Int) + 1:=by omega
     have j4:((j:Int) + (q:Nat) + 1).toNat=j + q + 1:=by omega
     have j5:j + q + 1≤p + 1:=by omega
     have j6:(j:Int) < ((p - q:Nat):Int) + 1:=by omega
     have g3:=hrq.cell (j:=j) (by omega)
     have g4:=hrq.frozen j
     have j7:j≤j + q + 1:=by omega
     have hsz:=hbl.size
     have HL:=Lib.hid (And.intro hD (And.intro hul (And.intro hql (And.intro hrq (And.intro hbl (And.intro hwin (And.intro hlt hsv)))))))
     clear hD hul hql hru hrq hsv hbl hwin hlt g3 g4
     go_wp2_with fail
     rw [show j + q + 1 - j=q + 1 by omega]
     refine (nat_digit gu j q (p + 1 - j) gv 0 (q + 1) (u'.take j) ((u'.drop j).take (q + 1)) (u'.drop (j + q + 1)) (limbs (2 ^ z * b)) [] _ HL.out.2.2.2.2.2.1 (by rw [List.length_take,List.length_drop,HL.out.2.1];omega) ((HL.out.1.lu.drop j).take _) HL.out.2.2.2.2.2.2.2 (limbs_L32 _) (by omega) hq4 (by omega) HX.out.2.1 (by rw [val_limbs];exact HL.out.2.2.2.2.2.2.1)).mono ?_
     rintro e wc ⟨t',rfl,hwin',htl,htl32,htv,hgr⟩
     rw [val_limbs] at htv ⊢
     obtain ⟨hstep,_,hqlt⟩:=HL.out.1.step HST.out.2.1 HST.out.2.2 (by rw [HL.out.2.1];omega) (by rw [HL.out.2.2.1];omega) htl32 htl htv
     have hrq':=HL.out.2.2.2.1.grown hgr (by intro e;injection e with e;omega)
     have hsv':=HL.out.2.2.2.2.2.2.2.grownM hgr (by omega)
     have hbl':=HL.out.2.2.2.2.1.trans (grown_below hgr hguw hsz)
     have hul':(u'.take j ++ t' ++ u'.drop (j + q + 1)).length=p + 1:=by
      simp only [List.length_append,List.length_take,List.length_drop,HL.out.2.1,htl];omega
     generalize val ((u'.drop j).take (q + 1)) / (2 ^ z * b)=qd at *
     have g3:=hrq'.cell (j:=j) (by rw [HL.out.2.2.1];omega)
     have g4:=hrq'.frozen j
     have hr1:=hrq'.set (j:=j) (by rw [HL.out.2.2.1];omega) qd
     have hr2:=hwin'.row.far (p:=⟨gq,j,none⟩) (show gu ≠ gq by omega) (eU qd)
     have hr3:=hsv'.grownM (grown_setCell (grown_refl wc (some gq)) j (eU qd)) (show gv ≠ gq by omega)
     have hr4:=hbl'.setCell (p:=⟨gq,j,none⟩) (show wa.heap.size≤gq by omega) (eU qd)
     unfold eU at hr1 hr2 hr3 hr4
     have HN:=Lib.hid (And.intro hstep (And.intro hul' (And.intro hr1 (And.intro hr2 (And.intro hr3 hr4)))))
     have hqd:(qd:Int) < 4294967296:=by rw [bB_eq] at hqlt;omega
     clear hstep hrq' hsv' hbl' hul' hr1 hr2 hr3 hr4 hwin' htl htl32 htv hgr hqlt
     go_wp2_with fail
     exact ⟨⟨j,_,_,rfl,by omega,HN.out.1,HN.out.2.1,by rw [List.length_set];exact HL.out.2.2.1,HN.out.2.2.2.1,HN.out.2.2.1,HN.out.2.2.2.2.1,HN.out.2.2.2.2.2⟩,by simp [intOf]⟩
 ·obtain rfl:q=1:=by omega
  clear hq1 hq2 hq3 hq0
  obtain ⟨bb,ob,hBe⟩:=sl_someU kt1 (by omega)
  subst hBe
  have g1:=sl_atU kt1 (i:=0) (by omega)
  rw [Nat.add_zero] at g1
  have hx:=(limbs_L32 b).nth 0
  have hxb:nth (limbs b) 0=b:=by
   have h1:limbs b=[nth (limbs b) 0]:=by
    have h2:=HP.out.2.1
    rcases hL:limbs b with _ | ⟨y,L⟩
    ·rw [hL] at h2;simp at h2
    ·rw [hL] at h2
     have:L=[]:=List.eq_nil_of_length_eq_zero (by simpa using h2)
     rw [this];rfl
   have h3:=val_limbs b
   rw [h1] at h3
   simpa [val] using h3
  rw [hxb] at g1 hx
  have g1':=g1
  clear hxb
  go_wp2_with fail
  refine (clone_u A p c (limbs a) _ ht1 (by omega)).mono ?_
  rintro e w2 ⟨R,dr,rfl,ho,hb2⟩
  have hB2:=HB.out.trans (hb2.mono hs1)
  have hs2:=hB2.size
  have ho2:=ho.mono hs1
  have g1:w2.cell? ⟨bb,ob,none⟩=some (.int .u32 (b:Int)):=cell_later hb2 g1'
  have HC:=Lib.hid (And.intro ho2 hB2)
  clear ho hb2 ho2 hB2 g1' kt1 ht1
  go_wp2_with fail
  refine (nat_small wa.heap.size R p dr b (limbs a) _ HC.out.1 (limbs_L32 a) (by omega) hx hs2 (by omega)).mono ?_
  rintro e w3 ⟨rfl,⟨s,ho,hs,hv⟩,hb3⟩
  rw [val_limbs] at hv ⊢
  have hB3:=HC.out.2.trans hb3
  have hs3:=hB3.size
  have hos:=ho.sl (by omega)
  have hcap:=ho.cap
  have hr:a % b < bB:=by have:=Nat.mod_lt a (Nat.pos_of_ne_zero hb0);omega
  generalize hrr:a % b=r at *
  have HR:=Lib.hid hrr
  have HD:=Lib.hid (And.intro hB3 (And.intro hv hr))
  clear hrr
  clear ho hb3 hv g1 hB3
  go_wp2_with fail
  refine (nat_own R p dr s _ hos hcap hs (by omega)).mono ?_
  rintro e w4 ⟨Q,cq,rfl,ho,hb4⟩
  rw [HD.out.2.1] at ho ⊢
  have hB4:=HD.out.1.trans (hb4.mono hs3)
  have hs4:=hB4.size
  have hrr:=HR.out
  have hlit:Sl eU (w4.alloc (.cells #[.int .u32 (r:Int)] 83)) (some ⟨w4.heap.size,0,none⟩) 1 [r]:=Sl.litM eU w4 83 [r] (by simp)
  have hb5:Below w4.heap.size w4 (w4.alloc (.cells #[.int .u32 (r:Int)] 83)):=(Below.refl _ _).alloc (Nat.le_refl _) _
  have HE:=Lib.hid (And.intro (ho.mono hs3) (And.intro hB4 (And.intro hrr (And.intro hb5 (L32.cons HD.out.2.2 L32.nil)))))
  clear ho hb4 hB4 hrr hb5 hr
  go_wp2_with fail
  refine (nat_own _ 1 1 [r] _ hlit (Nat.le_refl _) HE.out.2.2.2.2 (by omega)).mono ?_
  rintro e w5 ⟨R5,c5,rfl,ho5,hb5⟩
  have hv5:val [r]=r:=by simp [val]
  rw [hv5] at ho5 ⊢
  have hb6:=HE.out.2.2.2.1.trans (hb5.mono HE.out.2.2.2.1.size)
  have HG:=Lib.hid (And.intro (HE.out.1.below (Nat.le_refl _) hb6) (And.intro (ho5.mono (Nat.le_trans hs4 HE.out.2.2.2.1.size)) (HE.out.2.1.trans (hb6.mono hs4))))
  clear ho5 hb5 hb6 hv5
  go_wp2_with fail
  go_ret3
  refine div_ok (R:=R5) (cr:=c5) hb0 ?_ HG.out.1 ?_ HG.out.2.2
  ·rw [HE.out.2.2.1];rfl
  ·rw [HE.out.2.2.1];exact HG.out.2.1
end Go.Proofs.YtgbmnlmnhbkdbaaGreat
