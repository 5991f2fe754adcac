/- Joined by program out of: NatF, NatG, WholeA, WholeB. What each says stands at its own head. -/
import Derived.Test.YtmncjibcoffmfaaGreatNatE
import Derived.Test.YtmncjibcoffmfaaGreatJ9
import Derived.Test.YtmncjibcoffmfaaGreatBitsShelf
import Derived.Deep.RegionHeld3
import Derived.StillTailTactics
set_option linter.unusedVariables false
set_option linter.unusedSimpArgs false
/- nat.DivMod, walked. Conditions: the slices read as limbs, within Go's bound together. -/
namespace Go.Proofs.YtmncjibcoffmfaaGreat
open Go.RowKit

def DivPost (a b:Nat) (w:World) (e:Ending) (w':World):Prop:=
 ∃ Q cq R cr,e=.returned (.tuple #[.slice Q (limbs (a / b)).length cq,.slice R (limbs (if b=0 then 0 else a % b)).length cr,.int .i64 (if b=0 then 11 else 0)]) ∧
  OwnR eU w' w.heap.size 54 Q (limbs (a / b)).length cq (limbs (a / b))∧OwnR eU w' w.heap.size 54 R (limbs (if b=0 then 0 else a % b)).length cr (limbs (if b=0 then 0 else a % b))∧Below w.heap.size w w'
theorem div_ok {a b:Nat} (hb:b ≠ 0) {w w':World} {e:Ending} {Q R:Option Addr} {cq cr:Nat} (he:e=.returned (.tuple #[.slice Q (limbs (a / b)).length cq,.slice R (limbs (a % b)).length cr,.int .i64 0]))
 (h1:OwnR eU w' w.heap.size 54 Q (limbs (a / b)).length cq (limbs (a / b))) (h2:OwnR eU w' w.heap.size 54 R (limbs (a % b)).length cr (limbs (a % b))) (h3:Below w.heap.size w w'):DivPost a b w e w':=by
 refine ⟨Q,cq,R,cr,?_,h1,?_,h3⟩
 ·rw [if_neg hb,if_neg hb];exact he
 ·rw [if_neg hb];exact h2
set_option maxRecDepth 100000 in
set_option maxHeartbeats 1600000 in
theorem nat_divmod (A B:Option Addr) (n c m d:Nat) (xs ys:List Nat) (w:World) (h:Sl eU w A n xs) (hc:n≤c) (hl:L32 xs) (k:Sl eU w B m ys) (kc:m≤d) (kl:L32 ys) (hb:(n + m + 4) * 4≤140737488351232) :
 Calls Tryz.prog 88 #[.slice A n c,.slice B m d] w (DivPost (val xs) (val ys) w):=by
 have ht:=h.trimV hl
 have kt:=k.trimV kl
 have hle:(limbs (val xs)).length≤n:=by rw [limbs_val hl];have:=trimL_length xs;rw [h.len] at this;exact this
 have kle:(limbs (val ys)).length≤m:=by rw [limbs_val kl];have:=trimL_length ys;rw [k.len] at this;exact this
 obtain ⟨wa,hwa⟩:∃ wa:World,wa=w:=⟨_,rfl⟩
 subst hwa
 obtain ⟨a,hva⟩:∃ a,a=val xs:=⟨_,rfl⟩
 obtain ⟨b,hvb⟩:∃ b,b=val ys:=⟨_,rfl⟩
 rw [← hva,← hvb]
 rw [← hva] at ht hle
 rw [← hvb] at kt kle
 have HV:=Lib.hid (And.intro hva hvb)
 clear hva hvb
 go_enter Tryz.func88,Tryz.ntmps88
 go_wp2_with fail
 refine (nat_trim A n c xs _ h hc hl).mono ?_
 rintro e w1 ⟨rfl,rfl⟩
 rw [← HV.out.1]
 go_wp2_with fail
 refine (nat_trim B m d ys _ k kc kl).mono ?_
 rintro e w1 ⟨rfl,rfl⟩
 rw [← HV.out.2]
 clear h k hl kl HV
 have hn':(limbs a).length≤c:=by omega
 have hm':(limbs b).length≤d:=by omega
 generalize hp:(limbs a).length=p at *
 generalize hq:(limbs b).length=q at *
 have HP:=Lib.hid (And.intro hp (And.intro hq (And.intro ht kt)))
 clear hp hq
 rcases Nat.eq_zero_or_pos q with h0 | hq0
 ·have hb0:b=0:=limbs_nil.1 (List.eq_nil_of_length_eq_zero (by rw [HP.out.2.1];exact h0))
  subst h0
  have HB:=Lib.hid hb0
  clear hb0 ht kt
  go_wp2_with fail
  go_ret3
  refine ⟨none,0,none,0,?_,?_,?_,Below.refl _ _⟩
  ·rw [HB.out];simp [limbs_zero]
  ·rw [HB.out];simp only [Nat.div_zero,limbs_zero];exact OwnR.nil _ _ _ _
  ·rw [HB.out];simp only [if_true,limbs_zero];exact OwnR.nil _ _ _ _
 have hb0:b ≠ 0:=fun e=>by
  have:=HP.out.2.1
  rw [e,limbs_zero] at this
  simp at this;omega
 have hq1:¬ (q:Int)=0:=by omega
 have hq2:((q:Int) == 0)=false:=by simpa using hq1
 have hq3:(0:Int) < (q:Nat):=by omega
 go_wp2_with fail
 refine (nat_cmp A B p c q d (limbs a) (limbs b) _ ht hn' (limbs_L32 a) kt hm' (limbs_L32 b)).mono ?_
 rintro e w1 ⟨rfl,u,rfl⟩
 rw [val_limbs,val_limbs]
 have hs1:wa.heap.size≤(wa.drewN u).heap.size:=Nat.le_refl _
 have hB1:Below wa.heap.size wa (wa.drewN u):=below_refl_drewN _ _ _
 have ht1:=ht.drewN u
 have kt1:=kt.drewN u
 have HB:=Lib.hid hB1
 generalize wa.drewN u=w1 at *
 clear hB1 ht kt
 rcases Nat.lt_or_ge a b with hab | hab
 ·rw [cmpN_lt hab]
  go_wp2_with fail
  refine (nat_own A p c (limbs a) _ ht1 hn' (limbs_L32 a) (by omega)).mono ?_
  rintro e w2 ⟨R,dr,rfl,ho,hb2⟩
  rw [val_limbs] at ho ⊢
  have hdiv:a / b=0:=Nat.div_eq_of_lt hab
  have hmod:a % b=a:=Nat.mod_eq_of_lt hab
  have HF:=Lib.hid (And.intro (ho.mono hs1) (And.intro (HB.out.trans (hb2.mono hs1)) (And.intro hdiv hmod)))
  clear ho hb2 hdiv hmod
  go_wp2_with fail
  go_ret3
  refine div_ok (Q:=none) (cq:=0) (R:=R) (cr:=dr) hb0 ?_ ?_ ?_ HF.out.2.1
  ·rw [HF.out.2.2.1,HF.out.2.2.2,limbs_zero];rfl
  ·rw [HF.out.2.2.1,limbs_zero];exact OwnR.nil _ _ _ _
  ·rw [HF.out.2.2.2];exact HF.out.1
 have hge:¬ cmpN a b < 0:=by unfold cmpN;split <;> (try split) <;> omega
 generalize cmpN a b=cv at *
 have hge':decide (cv < 0)=false:=by simpa using hge
 have hqp:q≤p:=by
  rcases Nat.lt_or_ge p q with h | h
  ·have:=limbs_fewer (a:=a) (b:=b) (by rw [HP.out.1,HP.out.2.1];exact h);omega
  ·exact h
 rcases Nat.lt_or_ge 1 q with hq4 | hq4
 ·have hq5:¬ (q:Int)=1:=by omega
  have hq6:((q:Int) == 1)=false:=by simpa using hq5
  have HT:=Lib.hid (And.intro ht1 kt1)
  obtain ⟨bb,ob,hBe⟩:=sl_someU kt1 (by omega)
  subst hBe
  have g1:=sl_atU kt1 (i:=q - 1) (by omega)
  have i1:((q:Int) - 1).toNat=q - 1:=by omega
  have i3:(0:Int)≤(q:Int) - 1:=by omega
  have i5:(q:Int) - 1 < (q:Nat):=by omega
  have hx:=(limbs_L32 b).nth (q - 1)
  obtain ⟨x,hxe⟩:∃ x,x=nth (limbs b) (q - 1):=⟨_,rfl⟩
  rw [← hxe] at g1 hx
  have hx':(x:Int)≤4294967295:=by rw [bB_eq] at hx;omega
  have hbl:Lib.bitLen x≤32:=Lib.bitLen_le x 32 (by omega) (by rw [bB_eq] at hx;omega)
  obtain ⟨z,hz⟩:∃ z,z + Lib.bitLen x=32:=⟨32 - Lib.bitLen x,by omega⟩
  obtain ⟨hn1,hn2,hz31⟩:=shift_norm HP.out.2.1 (by omega) hxe.symm hz
  have hlow:=shift_low HP.out.2.1 (by omega) hxe.symm hz
  have hzI:(32 - (Lib.bitLen x:Int))=(z:Int):=by omega
  have HX:=Lib.hid (And.intro hn1 (And.intro hn2 (And.intro hlow hzI)))
  clear hxe hbl hz hn1 hn2 hlow hzI ht1 kt1
  go_wp2_with fail
  refine (Tryz.bits_LeadingZeros32 (x:Int) _ (by omega) hx').mono ?_
  rintro e w2 ⟨rfl,rfl⟩
  rw [show ((x:Int)).toNat=x by omega,HX.out.2.2.2]
  have ht1:=HT.out.1
  go_wp2_with fail
  refine (nat_left A p c z (limbs a) _ ht1 (limbs_L32 a) (by omega) (by omega)).mono ?_
  rintro e w2 ⟨gu,us,rfl,hgu,hru,hul,hul32,huv,hb2⟩
  rw [val_limbs] at huv
  have kt2:=HT.out.2.below (Nat.le_refl _) hb2
  have HU:=Lib.hid (And.intro hru (And.intro hul (And.intro hul32 (And.intro huv (And.intro (Nat.le_trans hs1 hgu) (HB.out.trans (hb2.mono hs1)))))))
  have hs2:=hb2.size
  clear hru hul hul32 huv hb2 hgu ht1
  go_wp2_with fail
  refine (nat_left _ q d z (limbs b) _ kt2 (limbs_L32 b) (by omega) (by omega)).mono ?_
  rintro e w3 ⟨gv,vs,rfl,hgv,hrv,hvl,hvl32,hvv,hb3⟩
  rw [val_limbs] at hvv
  have hsv:=hrv.slAll hvl (by omega)
  have hu3:=HU.out.1.below hb3 HU.out.1.lt
  have hs3:=hb3.size
  have HW:=Lib.hid (And.intro hu3 (And.intro hvv (And.intro (HU.out.2.2.2.2.2.trans (hb3.mono (by omega))) (And.intro (show gu < gv from Nat.lt_of_lt_of_le HU.out.1.lt hgv) (And.intro hsv hrv.lt)))))
  clear hrv hvv hb3 hu3 kt2
  go_wp2_with fail
  refine (nat_trim _ (q + 1) (q + 1) vs _ hsv (Nat.le_refl _) hvl32).mono ?_
  rintro e w4 ⟨rfl,rfl⟩
  have hsv2:=hsv.trimV hvl32
  rw [HW.out.2.1,HX.out.1] at hsv2 ⊢
  have HS:=Lib.hid hsv2
  clear hsv hsv2
  have hpq2:(0:Int)≤(p:Int) - (q:Nat):=by omega
  go_wp2_with (first
   | (refine wpList_mk _ eiNat eU 0 rfl rfl _ _ rfl (p - q + 1) ?_ ?_ (by omega) ?_)
   | fail)
  ·show Value.int .i64 ((p:Int) - (q:Nat) + 1)=_
   congr 1;omega
  ·show Value.int .i64 ((p:Int) - (q:Nat) + 1)=_
   congr 1;omega
  intro w5 hrq hb5
  have HQ:=Lib.hid (And.intro hrq (And.intro (HS.out.below (Nat.le_refl _) hb5) (And.intro (HW.out.1.below hb5 HW.out.1.lt) (And.intro (HW.out.2.2.1.trans (hb5.mono (by omega))) (And.intro (show gv < w3.heap.size from HW.out.2.2.2.2.2) (HW.out.2.2.2.1))))))
  clear hrq hb5
  go_wp2_with fail
  have hVpos:0 < 2 ^ z * b:=Nat.mul_pos (Nat.pow_pos (by omega)) (Nat.pos_of_ne_zero hb0)
  have hVn:2 ^ z * b≤bB ^ q:=by have:=limbs_lt (2 ^ z * b);rw [HX.out.1] at this;omega
  have hst:=DivAt.start HP.out.1 hz31 HX.out.2.2.1 hqp HU.out.2.2.2.1 HU.out.2.2.1 (L32.replicate (p - q + 1)) (by simp)
  have HST:=Lib.hid (And.intro hst (And.intro hVpos hVn))
  have hs5:=HQ.out.2.2.2.1.size
  have hguw:wa.heap.size≤gu:=HU.out.2.2.2.2.1
  clear hst hVpos hVn g1 i1 i3 i5 hx hx'
  generalize hgq:w3.heap.size=gq at *
  have hgvq:=HQ.out.2.2.2.2.1
  have hguv:=HQ.out.2.2.2.2.2
  clear hgq hgv hs3
  go_loopw [13] (fun iv wr=>∃ (t:Nat) (u' q':List Nat),iv=.int .i64 ((t:Int) - 1)∧t≤p - q + 1∧DivAt (2 ^ z * a) (2 ^ z * b) u' q' q t∧u'.length=p + 1∧q'.length=p - q + 1∧RowAt eU wr gu 54 u' []∧RowAt eU wr gq 54 q' []∧Sl eU wr (some ⟨gv,0,none⟩) q (limbs (2 ^ z * b))∧Below wa.heap.size wa wr) (fun iv _=>(intOf iv + 1).toNat)
  case atStart=>exact ⟨p - q + 1,us,_,by congr 1;omega,Nat.le_refl _,HST.out.1,HU.out.2.1,by simp,HQ.out.2.2.1,HQ.out.1,HQ.out.2.1,HQ.out.2.2.2.1⟩
  case round =>
   obtain ⟨t,u',q',rfl,htp,hD,hul,hql,hru,hrq,hsv,hbl⟩:=hrel
   obtain ⟨wb,hwb⟩:∃ wb:World,wb=wr:=⟨_,rfl⟩
   subst hwb
   rcases t with _ | j
   ·obtain ⟨hdq,hdu⟩:=hD.done
    rw [div_shift] at hdq
    have hdm:val u' / 2 ^ z=a % b:=by rw [hdu,mod_shift]
    have hsu:=hru.slAll hul (by omega)
    have hsq:=hrq.slAll hql (by omega)
    have hsz:=hbl.size
    have htk:u'.take (limbs (val u')).length=limbs (val u'):=by rw [limbs_val hD.lu];exact (trimL_take u').symm
    have hkl:(limbs (val u')).length≤p + 1:=by rw [limbs_val hD.lu,← hul];exact trimL_length u'
    have HL:=Lib.hid (And.intro hD.lu (And.intro hD.lq (And.intro hul (And.intro hql (And.intro hru (And.intro hrq (And.intro hbl (And.intro hdq (And.intro hdm htk)))))))))
    clear hD hul hql hru hrq hsv hbl hdq hdm hdu htk
    go_wp2_with fail
    refine (nat_trim _ (p + 1) (p + 1) u' _ hsu (Nat.le_refl _) HL.out.1).mono ?_
    rintro e w6 ⟨rfl,rfl⟩
    generalize hkk:(limbs (val u')).length=kk at *
    have HK:=Lib.hid hkk
    clear hkk hsu hsq
    go_wp2_with fail
    go_loopw [89] (fun iv wr=>∃ (i:Nat) (s:List Nat),iv=.int .i64 (i:Nat)∧i≤kk∧DownAt (limbs (val u')) s z i∧Win wr gu 0 [] s (u'.drop kk) []∧RowAt eU wr gq 54 q' []∧Below wa.heap.size wa wr) (fun iv _=>kk - (intOf iv).toNat)
    case atStart=>exact ⟨0,_,rfl,Nat.zero_le _,DownAt.start z (limbs_L32 _),⟨by
     rw [List.nil_append]
     have h1:=HL.out.2.2.2.2.2.2.2.2.2
     rw [← h1,List.take_append_drop]
     exact HL.out.2.2.2.2.1,rfl⟩,HL.out.2.2.2.2.2.1,HL.out.2.2.2.2.2.2.1⟩
    case round =>
     obtain ⟨i,s,rfl,hi,hS,hW,hrq,hbl⟩:=hrel
     obtain ⟨wc,hwc⟩:∃ wc:World,wc=wr:=⟨_,rfl⟩
     subst hwc
     have hsl:=hS.len
     rw [HK.out] at hsl
     by_cases hlt:i < kk
     ·as_aux_lemma =>
       have g1:=hW.cell (i:=i) (by omega)
       have g4:=hW.frozen i
       rw [hS.rest i (Nat.le_refl _),Nat.zero_add] at g1
       have hx:=(limbs_L32 (val u')).nth i
       have hy:=(limbs_L32 (val u')).nth (i + 1)
       have hst:=hS.step (limbs_L32 _) (by omega) (by rw [HK.out];exact hlt)
       have g2:i + 1 < kk→wc.cell? ⟨gu,i + 1,none⟩=some (.int .u32 ((nth (limbs (val u')) (i + 1):Nat):Int)):=fun h=>by
        have:=hW.cell (i:=i + 1) (by omega)
        rwa [hS.rest (i + 1) (by omega),Nat.zero_add] at this
       have hy0:kk≤i + 1→nth (limbs (val u')) (i + 1)=0:=fun h=>nth_none (by rw [HK.out];exact h)
       have hrow:=hW.set (i:=i) (by omega) ((nth (limbs (val u')) (i + 1) * bB + nth (limbs (val u')) i) / 2 ^ z % bB)
       have hr2:=hrq.far (p:=⟨gu,0 + i,none⟩) (show gq ≠ gu by omega) (eU ((nth (limbs (val u')) (i + 1) * bB + nth (limbs (val u')) i) / 2 ^ z % bB))
       have hr3:=hbl.setCell (p:=⟨gu,0 + i,none⟩) hguw (eU ((nth (limbs (val u')) (i + 1) * bB + nth (limbs (val u')) i) / 2 ^ z % bB))
       generalize nth (limbs (val u')) i=x at *
       generalize nth (limbs (val u')) (i + 1)=y at *
       have w1:=or_high hy hx
       have hN:(y * bB + x) / 2 ^ z < 18446744073709551616:=by
        have h1:(y + 1) * bB≤bB * bB:=Nat.mul_le_mul_right _ hy
        rw [Nat.add_mul] at h1
        have h2:=Nat.div_le_self (y * bB + x) (2 ^ z)
        have h3:bB * bB=18446744073709551616:=rfl
        omega
       have q1:((y:Int) * 4294967296 + (x:Nat)) / 2 ^ z=(((y * bB + x) / 2 ^ z:Nat):Int):=by
        have hc:(y:Int) * 4294967296 + (x:Nat)=((y * bB + x:Nat):Int):=by rw [bB_eq];omega
        rw [hc]
        generalize y * bB + x=N
        push_cast;rfl
       have e1:eU ((y * bB + x) / 2 ^ z % bB)=.int .u32 ((((y * bB + x) / 2 ^ z:Nat):Int) % 4294967296):=by unfold eU;rw [bB_eq];rfl
       rw [e1,Nat.zero_add] at hrow hr2 hr3
       have hx':(x:Int) < 4294967296:=by rw [bB_eq] at hx;omega
       have hy':(y:Int) < 4294967296:=by rw [bB_eq] at hy;omega
       have hN':(((y * bB + x) / 2 ^ z:Nat):Int) < 18446744073709551616:=by omega
       have hz1:(z:Int)≤31:=by omega
       have hz0:(0:Int)≤(z:Nat):=by omega
       have hlt':(i:Int) < (kk:Nat):=by omega
       have hlt2:(i:Int) < (p:Int) + 1:=by omega
       have HS2:=Lib.hid (And.intro hst (And.intro hrow (And.intro hr2 hr3)))
       clear hst hrow hr2 hr3 hS hW hrq hbl hx hy hN e1
       generalize (y * bB + x) / 2 ^ z=NN at *
       rcases Nat.lt_or_ge (i + 1) kk with hik | hik
       ·have g2:=g2 hik
        have hik':(i:Int) + 1 < (kk:Nat):=by omega
        clear hy0
        go_wp2_with fail
        exact ⟨⟨i + 1,_,by go_num,by omega,HS2.out.1,HS2.out.2.1,HS2.out.2.2.1,HS2.out.2.2.2⟩,by simp [intOf];omega⟩
       ·obtain rfl:y=0:=hy0 hik
        have hik':¬ (i:Int) + 1 < (kk:Nat):=by omega
        clear hy0 g2
        simp only [Int.natCast_zero,Int.zero_mul,Int.zero_add] at w1 q1
        go_wp2_with fail
        exact ⟨⟨i + 1,_,by go_num,by omega,HS2.out.1,HS2.out.2.1,HS2.out.2.2.1,HS2.out.2.2.2⟩,by simp [intOf];omega⟩
     ·obtain rfl:i=kk:=by omega
      have hS':=hS
      rw [← HK.out] at hS'
      have hfin:=hS'.fin (limbs_L32 _)
      rw [val_limbs,HL.out.2.2.2.2.2.2.2.2.1] at hfin
      have hsq:=hrq.slAll HL.out.2.2.2.1 (by omega)
      have hsu:=(hW.row.slAll (n:=p + 1) (by simp only [List.nil_append,List.length_append,List.length_drop,HL.out.2.2.1,hsl];omega) (by omega)).cutN (k:=i) hkl
      rw [List.nil_append,List.take_left' hsl] at hsu
      have hsz:=hbl.size
      have HF:=Lib.hid (And.intro hfin (And.intro hS.l32 (And.intro hbl (And.intro HL.out.2.2.2.2.2.2.2.1 HL.out.2.1))))
      have hlt':¬ (i:Int) < (i:Nat):=by omega
      clear hS hS' hfin hrq hW hbl
      go_wp2_with fail
      refine (nat_own _ (p - q + 1) (p - q + 1) q' _ hsq (Nat.le_refl _) HF.out.2.2.2.2 (by omega)).mono ?_
      rintro e w7 ⟨Q,cq,rfl,ho,hb7⟩
      rw [HF.out.2.2.2.1] at ho ⊢
      have hsu2:=hsu.below (Nat.le_refl _) hb7
      have hbl7:=HF.out.2.2.1.trans (hb7.mono hsz)
      have hsz7:=hbl7.size
      have HG:=Lib.hid (And.intro (ho.mono hsz) hbl7)
      clear ho hb7 hbl7 hsu hsq
      go_wp2_with fail
      refine (nat_own _ i (p + 1) s _ hsu2 hkl HF.out.2.1 (by omega)).mono ?_
      rintro e w8 ⟨R,cr,rfl,ho,hb8⟩
      rw [HF.out.1] at ho ⊢
      have HH:=Lib.hid (And.intro (HG.out.1.below (Nat.le_refl _) hb8) (And.intro (ho.mono hsz7) (HG.out.2.trans (hb8.mono hsz7))))
      clear ho hb8 hsu2
      go_wp2_with fail
      go_ret3
      exact div_ok hb0 rfl HH.out.1 HH.out.2.1 HH.out.2.2
   ·as_aux_lemma =>
     rw [show (((j + 1:Nat):Int) - 1)=(j:Int) by omega]
     have hwin:Win wb gu j (u'.take j) ((u'.drop j).take (q + 1)) (u'.drop (j + q + 1)) []:=⟨by
      rw [show u'.take j ++ (u'.drop j).take (q + 1) ++ u'.drop (j + q + 1)=u' from by
       rw [List.append_assoc,show j + q + 1=j + (q + 1) by omega,← List.drop_drop,List.take_append_drop,List.take_append_drop]]
      exact hru,by rw [List.length_take];omega⟩
     have hlt:=hD.win HST.out.2.2 (by omega)
     have j1:(0:Int)≤(j:Nat):=by omega
     have j2:(j:Int)≤(j:Int) + (q:Nat) + 1:=by omega
     have j3:(j:Int) + (q:Nat) + 1≤(p:Int) + 1:=by omega
     have j4:((j:Int) + (q:Nat) + 1).toNat=j + q + 1:=by omega
     have j5:j + q + 1≤p + 1:=by omega
     have j6:(j:Int) < ((p - q:Nat):Int) + 1:=by omega
     have g3:=hrq.cell (j:=j) (by omega)
     have g4:=hrq.frozen j
     have j7:j≤j + q + 1:=by omega
     have hsz:=hbl.size
     have HL:=Lib.hid (And.intro hD (And.intro hul (And.intro hql (And.intro hrq (And.intro hbl (And.intro hwin (And.intro hlt hsv)))))))
     clear hD hul hql hru hrq hsv hbl hwin hlt g3 g4
     go_wp2_with fail
     rw [show j + q + 1 - j=q + 1 by omega]
     refine (nat_digit gu j q (p + 1 - j) gv 0 (q + 1) (u'.take j) ((u'.drop j).take (q + 1)) (u'.drop (j + q + 1)) (limbs (2 ^ z * b)) [] _ HL.out.2.2.2.2.2.1 (by rw [List.length_take,List.length_drop,HL.out.2.1];omega) ((HL.out.1.lu.drop j).take _) HL.out.2.2.2.2.2.2.2 (limbs_L32 _) (by omega) hq4 (by omega) HX.out.2.1 (by rw [val_limbs];exact HL.out.2.2.2.2.2.2.1)).mono ?_
     rintro e wc ⟨t',rfl,hwin',htl,htl32,htv,hgr⟩
     rw [val_limbs] at htv ⊢
     obtain ⟨hstep,_,hqlt⟩:=HL.out.1.step HST.out.2.1 HST.out.2.2 (by rw [HL.out.2.1];omega) (by rw [HL.out.2.2.1];omega) htl32 htl htv
     have hrq':=HL.out.2.2.2.1.grown hgr (by intro e;injection e with e;omega)
     have hsv':=HL.out.2.2.2.2.2.2.2.grownM hgr (by omega)
     have hbl':=HL.out.2.2.2.2.1.trans (grown_below hgr hguw hsz)
     have hul':(u'.take j ++ t' ++ u'.drop (j + q + 1)).length=p + 1:=by
      simp only [List.length_append,List.length_take,List.length_drop,HL.out.2.1,htl];omega
     generalize val ((u'.drop j).take (q + 1)) / (2 ^ z * b)=qd at *
     have g3:=hrq'.cell (j:=j) (by rw [HL.out.2.2.1];omega)
     have g4:=hrq'.frozen j
     have hr1:=hrq'.set (j:=j) (by rw [HL.out.2.2.1];omega) qd
     have hr2:=hwin'.row.far (p:=⟨gq,j,none⟩) (show gu ≠ gq by omega) (eU qd)
     have hr3:=hsv'.grownM (grown_setCell (grown_refl wc (some gq)) j (eU qd)) (show gv ≠ gq by omega)
     have hr4:=hbl'.setCell (p:=⟨gq,j,none⟩) (show wa.heap.size≤gq by omega) (eU qd)
     unfold eU at hr1 hr2 hr3 hr4
     have HN:=Lib.hid (And.intro hstep (And.intro hul' (And.intro hr1 (And.intro hr2 (And.intro hr3 hr4)))))
     have hqd:(qd:Int) < 4294967296:=by rw [bB_eq] at hqlt;omega
     clear hstep hrq' hsv' hbl' hul' hr1 hr2 hr3 hr4 hwin' htl htl32 htv hgr hqlt
     go_wp2_with fail
     exact ⟨⟨j,_,_,rfl,by omega,HN.out.1,HN.out.2.1,by rw [List.length_set];exact HL.out.2.2.1,HN.out.2.2.2.1,HN.out.2.2.1,HN.out.2.2.2.2.1,HN.out.2.2.2.2.2⟩,by simp [intOf]⟩
 ·obtain rfl:q=1:=by omega
  clear hq1 hq2 hq3 hq0
  obtain ⟨bb,ob,hBe⟩:=sl_someU kt1 (by omega)
  subst hBe
  have g1:=sl_atU kt1 (i:=0) (by omega)
  rw [Nat.add_zero] at g1
  have hx:=(limbs_L32 b).nth 0
  have hxb:nth (limbs b) 0=b:=by
   have h1:limbs b=[nth (limbs b) 0]:=by
    have h2:=HP.out.2.1
    rcases hL:limbs b with _ | ⟨y,L⟩
    ·rw [hL] at h2;simp at h2
    ·rw [hL] at h2
     have:L=[]:=List.eq_nil_of_length_eq_zero (by simpa using h2)
     rw [this];rfl
   have h3:=val_limbs b
   rw [h1] at h3
   simpa [val] using h3
  rw [hxb] at g1 hx
  have g1':=g1
  clear hxb
  go_wp2_with fail
  refine (clone_u A p c (limbs a) _ ht1 (by omega)).mono ?_
  rintro e w2 ⟨R,dr,rfl,ho,hb2⟩
  have hB2:=HB.out.trans (hb2.mono hs1)
  have hs2:=hB2.size
  have ho2:=ho.mono hs1
  have g1:w2.cell? ⟨bb,ob,none⟩=some (.int .u32 (b:Int)):=cell_later hb2 g1'
  have HC:=Lib.hid (And.intro ho2 hB2)
  clear ho hb2 ho2 hB2 g1' kt1 ht1
  go_wp2_with fail
  refine (nat_small wa.heap.size R p dr b (limbs a) _ HC.out.1 (limbs_L32 a) (by omega) hx hs2 (by omega)).mono ?_
  rintro e w3 ⟨rfl,⟨s,ho,hs,hv⟩,hb3⟩
  rw [val_limbs] at hv ⊢
  have hB3:=HC.out.2.trans hb3
  have hs3:=hB3.size
  have hos:=ho.sl (by omega)
  have hcap:=ho.cap
  have hr:a % b < bB:=by have:=Nat.mod_lt a (Nat.pos_of_ne_zero hb0);omega
  generalize hrr:a % b=r at *
  have HR:=Lib.hid hrr
  have HD:=Lib.hid (And.intro hB3 (And.intro hv hr))
  clear hrr
  clear ho hb3 hv g1 hB3
  go_wp2_with fail
  refine (nat_own R p dr s _ hos hcap hs (by omega)).mono ?_
  rintro e w4 ⟨Q,cq,rfl,ho,hb4⟩
  rw [HD.out.2.1] at ho ⊢
  have hB4:=HD.out.1.trans (hb4.mono hs3)
  have hs4:=hB4.size
  have hrr:=HR.out
  have hlit:Sl eU (w4.alloc (.cells #[.int .u32 (r:Int)] 54)) (some ⟨w4.heap.size,0,none⟩) 1 [r]:=Sl.litM eU w4 54 [r] (by simp)
  have hb5:Below w4.heap.size w4 (w4.alloc (.cells #[.int .u32 (r:Int)] 54)):=(Below.refl _ _).alloc (Nat.le_refl _) _
  have HE:=Lib.hid (And.intro (ho.mono hs3) (And.intro hB4 (And.intro hrr (And.intro hb5 (L32.cons HD.out.2.2 L32.nil)))))
  clear ho hb4 hB4 hrr hb5 hr
  go_wp2_with fail
  refine (nat_own _ 1 1 [r] _ hlit (Nat.le_refl _) HE.out.2.2.2.2 (by omega)).mono ?_
  rintro e w5 ⟨R5,c5,rfl,ho5,hb5⟩
  have hv5:val [r]=r:=by simp [val]
  rw [hv5] at ho5 ⊢
  have hb6:=HE.out.2.2.2.1.trans (hb5.mono HE.out.2.2.2.1.size)
  have HG:=Lib.hid (And.intro (HE.out.1.below (Nat.le_refl _) hb6) (And.intro (ho5.mono (Nat.le_trans hs4 HE.out.2.2.2.1.size)) (HE.out.2.1.trans (hb6.mono hs4))))
  clear ho5 hb5 hb6 hv5
  go_wp2_with fail
  go_ret3
  refine div_ok (R:=R5) (cr:=c5) hb0 ?_ HG.out.1 ?_ HG.out.2.2
  ·rw [HE.out.2.2.1];rfl
  ·rw [HE.out.2.2.1];exact HG.out.2.1
end Go.Proofs.YtmncjibcoffmfaaGreat
/- nat.Gcd and Bits, walked. Conditions: the slices read as limbs, within Go's bound together. -/
namespace Go.Proofs.YtmncjibcoffmfaaGreat
open Go.RowKit

def natAt (w:World):Value→Nat
 | .slice (some a) n _=>val ((List.range n).map fun i=>match w.cell? ⟨a.block,a.off + i,none⟩ with
   | some (.int _ x)=>x.toNat
   | _=>0)
 | _=>0
theorem natAt_eq {w:World} {A:Option Addr} {n c:Nat} {l:List Nat} (h:Sl eU w A n l):natAt w (.slice A n c)=val l:=by
 rcases Nat.eq_zero_or_pos n with h0 | h0
 ·subst h0
  have hl:l=[]:=List.eq_nil_of_length_eq_zero h.len
  subst hl
  rcases A with _ | a
  ·rfl
  ·rfl
 ·obtain ⟨b,o,rfl,_,hc⟩:=h.at' h0
  show val ((List.range n).map fun i=>match w.cell? ⟨b,o + i,none⟩ with | some (.int _ x)=>x.toNat | _=>0)=val l
  congr 1
  apply nth_ext
  ·rw [List.length_map,List.length_range,h.len]
  ·intro j hj
   rw [List.length_map,List.length_range] at hj
   rw [nth_map _ (by simpa using hj)]
   have e:nth (List.range n) j=j:=by rw [nth_eq (by simpa using hj)];simp
   rw [e,hc j hj]
   unfold eU
   simp
theorem limbs_mono {a b:Nat} (h:a≤b):(limbs a).length≤(limbs b).length:=by
 rcases Nat.lt_or_ge (limbs b).length (limbs a).length with h1 | h1
 ·have:=limbs_fewer h1;omega
 ·exact h1
theorem limbs_val_len {xs:List Nat} (hl:L32 xs):(limbs (val xs)).length≤xs.length:=by rw [limbs_val hl];exact trimL_length xs
set_option maxRecDepth 100000 in
set_option maxHeartbeats 800000 in
theorem nat_gcd (A B:Option Addr) (n c m d:Nat) (xs ys:List Nat) (w:World) (h:Sl eU w A n xs) (hc:n≤c) (hl:L32 xs) (k:Sl eU w B m ys) (kc:m≤d) (kl:L32 ys) (hb:(n + m + 4) * 8≤140737488351232) :
 Calls Tryz.prog 87 #[.slice A n c,.slice B m d] w (NatPost (Nat.gcd (val xs) (val ys)) w):=by
 obtain ⟨wa,hwa⟩:∃ wa:World,wa=w:=⟨_,rfl⟩
 subst hwa
 have hle:=limbs_val_len hl
 have kle:=limbs_val_len kl
 rw [h.len] at hle
 rw [k.len] at kle
 obtain ⟨a,hva⟩:∃ a,a=val xs:=⟨_,rfl⟩
 obtain ⟨b,hvb⟩:∃ b,b=val ys:=⟨_,rfl⟩
 rw [← hva,← hvb]
 rw [← hva] at hle
 rw [← hvb] at kle
 have HV:=Lib.hid (And.intro hva hvb)
 clear hva hvb
 go_enter Tryz.func87,Tryz.ntmps87
 go_wp2_with fail
 refine (nat_own A n c xs _ h hc hl (by omega)).mono ?_
 rintro e w1 ⟨R1,c1,rfl,ho1,hb1⟩
 rw [← HV.out.1] at ho1 ⊢
 have k1:=k.below (Nat.le_refl _) hb1
 have hs1:=hb1.size
 have H1:=Lib.hid (And.intro ho1 hb1)
 clear h ho1 hb1 k
 go_wp2_with fail
 refine (nat_own B m d ys _ k1 kc kl (by omega)).mono ?_
 rintro e w2 ⟨R2,c2,rfl,ho2,hb2⟩
 rw [← HV.out.2] at ho2 ⊢
 have H2:=Lib.hid (And.intro (H1.out.1.below (Nat.le_refl _) hb2) (And.intro (ho2.mono hs1) (H1.out.2.trans (hb2.mono hs1))))
 clear k1 ho2 hb2 H1
 go_wp2_with fail
 go_loopw [0,1] (fun v0 v1 wr=>∃ (x y:Nat) (P Q:Option Addr) (cp cq:Nat),v0=.slice P (limbs x).length cp∧v1=.slice Q (limbs y).length cq∧Nat.gcd x y=Nat.gcd a b∧(limbs x).length≤n + m∧(limbs y).length≤n + m ∧
  OwnR eU wr wa.heap.size 54 P (limbs x).length cp (limbs x)∧OwnR eU wr wa.heap.size 54 Q (limbs y).length cq (limbs y)∧Below wa.heap.size wa wr) (fun _ v1 wr=>natAt wr v1)
 case atStart=>exact ⟨a,b,R1,R2,c1,c2,rfl,rfl,rfl,by omega,by omega,H2.out.1,H2.out.2.1,H2.out.2.2⟩
 case round =>
  obtain ⟨x,y,P,Q,cp,cq,rfl,rfl,hg,hxn,hyn,hP,hQ,hbl⟩:=hrel
  obtain ⟨wb,hwb⟩:∃ wb:World,wb=wr:=⟨_,rfl⟩
  subst hwb
  have hsx:=hP.sl (by omega)
  have hsy:=hQ.sl (by omega)
  have hcx:=hP.cap
  have hcy:=hQ.cap
  have hsz:=hbl.size
  have hm:=natAt_eq (c:=cq) hsy
  rw [val_limbs] at hm
  have HR:=Lib.hid (And.intro hg (And.intro hP (And.intro hQ (And.intro hbl hm))))
  clear hg hP hQ hbl hm
  generalize hp:(limbs x).length=p at *
  generalize hq:(limbs y).length=q at *
  have HL:=Lib.hid (And.intro hp hq)
  clear hp hq
  rcases Nat.eq_zero_or_pos q with hq0 | hq0
  ·have hy:y=0:=limbs_nil.1 (List.eq_nil_of_length_eq_zero (by rw [HL.out.2];exact hq0))
   have hx:x=Nat.gcd a b:=by have:=HR.out.1;rw [hy,Nat.gcd_zero_right] at this;exact this
   subst hq0
   have HX:=Lib.hid hx
   clear hx hy hsx hsy
   go_wp2_with fail
   go_ret
   exact ⟨P,cp,by rw [← HX.out,HL.out.1];rfl,by rw [← HX.out,HL.out.1];exact HR.out.2.1,HR.out.2.2.2.1⟩
  ·have hq1:(0:Int) < (q:Nat):=by omega
   have hy0:y ≠ 0:=fun e=>by have:=HL.out.2;rw [e,limbs_zero] at this;simp at this;omega
   go_wp2_with fail
   refine (nat_divmod P Q p cp q cq (limbs x) (limbs y) _ hsx hcx (limbs_L32 x) hsy hcy (limbs_L32 y) (by omega)).mono ?_
   rintro e w3 ⟨Q3,cq3,R3,cr3,rfl,_,ho,hb3⟩
   rw [val_limbs,val_limbs,if_neg hy0] at ho
   rw [val_limbs,val_limbs,if_neg hy0,if_neg hy0]
   have hmod:x % y < y:=Nat.mod_lt _ (by omega)
   have hQ3:=HR.out.2.2.1.below (Nat.le_refl _) hb3
   have hR3:=ho.mono hsz
   have hsr:=natAt_eq (c:=cr3) (hR3.sl (by have:=limbs_mono (Nat.le_of_lt hmod);have:=HL.out.2;omega))
   rw [val_limbs] at hsr
   have hgc:Nat.gcd y (x % y)=Nat.gcd a b:=by rw [← HR.out.1,Nat.gcd_comm x y,Nat.gcd_rec y x,Nat.gcd_comm]
   have hln:=limbs_mono (Nat.le_of_lt hmod)
   rw [HL.out.2] at hln
   have HF:=Lib.hid (And.intro hgc (And.intro hQ3 (And.intro hR3 (And.intro (HR.out.2.2.2.1.trans (hb3.mono hsz)) (And.intro hsr (And.intro hmod hln))))))
   clear ho hb3 hmod hQ3 hR3 hsr hgc hsx hsy hln
   go_wp2_with fail
   refine ⟨⟨y,x % y,Q,R3,cq,cr3,by rw [HL.out.2],rfl,HF.out.1,by rw [HL.out.2];omega,by have:=HF.out.2.2.2.2.2.2;omega,by rw [HL.out.2];exact HF.out.2.1,HF.out.2.2.1,HF.out.2.2.2.1⟩,?_⟩
   rw [HF.out.2.2.2.2.1,HR.out.2.2.2.2]
   exact HF.out.2.2.2.2.2.1
def bitsN (v:Nat):Int:=if v=0 then 0 else 32 * ((limbs v).length - 1:Nat) + Lib.bitLen (nth (limbs v) ((limbs v).length - 1))
theorem bitsN_zero {v:Nat}:bitsN v=0 ↔ v=0:=by
 unfold bitsN
 constructor
 ·intro h
  by_cases h0:v=0
  ·exact h0
  ·rw [if_neg h0] at h
   exfalso
   have hl:0 < (limbs v).length:=by
    rcases Nat.eq_zero_or_pos (limbs v).length with h1 | h1
    ·exact absurd (limbs_nil.1 (List.eq_nil_of_length_eq_zero h1)) h0
    ·exact h1
   have he:=limbs_end hl
   have hb:=(limbs_L32 v).nth ((limbs v).length - 1)
   have:=bitLen_bounds _ he (by rw [bB_eq] at hb;omega)
   generalize nth (limbs v) ((limbs v).length - 1)=x at *
   have h0:Lib.bitLen x=0:=by omega
   rw [h0] at this
   omega
 ·intro h;rw [if_pos h]
set_option maxRecDepth 100000 in
set_option maxHeartbeats 800000 in
theorem nat_bits (A:Option Addr) (n c:Nat) (xs:List Nat) (w:World) (h:Sl eU w A n xs) (hc:n≤c) (hl:L32 xs) (hb:n≤140737488351232) :
 Calls Tryz.prog 79 #[.slice A n c] w fun e w'=>e=.returned (.int .i64 (bitsN (val xs)))∧w'=w:=by
 have ht:=h.trimV hl
 have hle:=limbs_val_len hl
 rw [h.len] at hle
 obtain ⟨a,hva⟩:∃ a,a=val xs:=⟨_,rfl⟩
 rw [← hva]
 rw [← hva] at ht hle
 have HV:=Lib.hid hva
 clear hva
 go_enter Tryz.func79,Tryz.ntmps79
 go_wp2_with fail
 refine (nat_trim A n c xs _ h hc hl).mono ?_
 rintro e w1 ⟨rfl,rfl⟩
 rw [← HV.out]
 clear h hl
 generalize hp:(limbs a).length=p at *
 have HP:=Lib.hid hp
 clear hp
 rcases Nat.eq_zero_or_pos p with hp0 | hp0
 ·have ha:a=0:=limbs_nil.1 (List.eq_nil_of_length_eq_zero (by rw [HP.out];exact hp0))
  subst hp0
  have hr:bitsN a=0:=bitsN_zero.2 ha
  have HR:=Lib.hid hr
  clear hr ha ht
  go_wp2_with fail
  go_ret
  exact ⟨ret_int (by rw [HR.out]),rfl⟩
 ·have ha:a ≠ 0:=fun e=>by have:=HP.out;rw [e,limbs_zero] at this;simp at this;omega
  have hr:bitsN a=32 * ((p - 1:Nat):Int) + Lib.bitLen (nth (limbs a) (p - 1)):=by unfold bitsN;rw [if_neg ha,HP.out]
  obtain ⟨b,o,hAe⟩:=sl_someU ht hp0
  subst hAe
  have g1:=sl_atU ht (i:=p - 1) (by omega)
  have hx:=(limbs_L32 a).nth (p - 1)
  generalize nth (limbs a) (p - 1)=x at *
  have HR:=Lib.hid hr
  have i1:((p:Int) - 1).toNat=p - 1:=by omega
  have i3:(0:Int)≤(p:Int) - 1:=by omega
  have i5:(p:Int) - 1 < (p:Nat):=by omega
  have i6:¬ (p:Int)=0:=by omega
  have i7:((p:Int) == 0)=false:=by simpa using i6
  have hx':(x:Int)≤4294967295:=by rw [bB_eq] at hx;omega
  have hbl:Lib.bitLen x≤32:=Lib.bitLen_le x 32 (by omega) (by rw [bB_eq] at hx;omega)
  clear hr ha hx
  go_wp2_with fail
  refine (Tryz.bits_Len32 (x:Int) _ (by omega) hx').mono ?_
  rintro e w2 ⟨rfl,rfl⟩
  rw [show ((x:Int)).toNat=x by omega]
  generalize Lib.bitLen x=bl at *
  have hbl':(bl:Int)≤32:=by omega
  have hbl0:(0:Int)≤(bl:Nat):=by omega
  go_wp2_with fail
  go_ret
  exact ⟨ret_int (by rw [HR.out];omega),rfl⟩
end Go.Proofs.YtmncjibcoffmfaaGreat
/- whole.of, Norm, Of, Sign, Mul, Add, Cmp, walked. Conditions: the limbs read, within Go's bound together. -/
namespace Go.Proofs.YtmncjibcoffmfaaGreat
open Go.RowKit

def IntPost (z:Int) (w:World) (e:Ending) (w':World):Prop:=
 ∃ R c,e=.returned (.agg #[.bool (isNeg z),.slice R (limbs z.natAbs).length c])∧OwnR eU w' w.heap.size 54 R (limbs z.natAbs).length c (limbs z.natAbs)∧Below w.heap.size w w'
set_option maxRecDepth 100000 in
set_option maxHeartbeats 400000 in
theorem whole_of (neg:Bool) (A:Option Addr) (n c:Nat) (xs:List Nat) (w:World) (h:Sl eU w A n xs) (hc:n≤c) (hl:L32 xs) (hb:n * 4≤140737488351232) :
 Calls Tryz.prog 84 #[.bool neg,.slice A n c] w (IntPost (sgn neg (val xs)) w):=by
 have hz1:(sgn neg (val xs)).natAbs=val xs:=sgn_natAbs _ _
 have hz2:isNeg (sgn neg (val xs))=(neg && decide (0 < (limbs (val xs)).length)):=by
  rw [sgn_neg]
  congr 1
  rw [decide_eq_decide]
  constructor
  ·intro h0
   rcases Nat.eq_zero_or_pos (limbs (val xs)).length with h1 | h1
   ·exact absurd (limbs_nil.1 (List.eq_nil_of_length_eq_zero h1)) h0
   ·exact h1
  ·intro h1 h0
   rw [h0,limbs_zero] at h1
   simp at h1
 have HZ:=Lib.hid (And.intro hz1 hz2)
 clear hz1 hz2
 have H1:=((Held.init w).sl h).new 34 [.bool false,.slice none 0 0]
 have hsl:=H1.has.2.1
 clear h
 go_enter Tryz.func84,Tryz.ntmps84
 go_wp2_with fail
 refine (nat_norm A n c xs _ hsl hc hl (by omega)).mono ?_
 rintro e w1 ⟨R,d,rfl,ho,hb1⟩
 have hbox:=(H1.step hb1).has.1
 have hbel:=(H1.step hb1).bel
 have r0:=hbox.cell 0
 have r1:=hbox.cell 1
 have f0:=hbox.frozen 0
 have f1:=hbox.frozen 1
 have hob:=ho.mono (base':=w.heap.size + 1) (by simp)
 have HB:=Lib.hid (And.intro hbox (And.intro hbel hob))
 clear hbox hbel ho hb1 hsl H1 hob
 generalize hL:(limbs (val xs)).length=L at *
 have hfin:∀ b:Bool,(neg && decide (0 < L))=b→RowC ((w1.setCell ⟨w.heap.size,0,none⟩ (.bool b)).setCell ⟨w.heap.size,1,none⟩ (.slice R L d)) w.heap.size 34 [.bool b,.slice R L d] ∧
  OwnR eU ((w1.setCell ⟨w.heap.size,0,none⟩ (.bool b)).setCell ⟨w.heap.size,1,none⟩ (.slice R L d)) w.heap.size 54 R L d (limbs (val xs))∧Below w.heap.size w ((w1.setCell ⟨w.heap.size,0,none⟩ (.bool b)).setCell ⟨w.heap.size,1,none⟩ (.slice R L d)):=fun b _=>by
  have hne:∀ g,R=some ⟨g,0,none⟩→g ≠ w.heap.size:=fun g e=>by
   rcases HB.out.2.2.at_row with h1 | ⟨g',h1,h2,_⟩
   ·rw [h1] at e;cases e
   ·rw [h1] at e;injection e with e;injection e with e;omega
  exact ⟨(HB.out.1.put 0 _).put 1 _,((HB.out.2.2.setFar (p:=⟨w.heap.size,0,none⟩) hne _).setFar (p:=⟨w.heap.size,1,none⟩) hne _).mono (by omega),(HB.out.2.1.setCell (p:=⟨w.heap.size,0,none⟩) (Nat.le_refl _) _).setCell (p:=⟨w.heap.size,1,none⟩) (Nat.le_refl _) _⟩
 have HF:=Lib.hid hfin
 have HL:=Lib.hid hL
 clear hfin hL
 cases neg
 ·have hq:=HF.out false rfl
  have c0:=hq.1.cell 0
  have c1:=hq.1.cell 1
  have HQ:=Lib.hid hq
  clear hq
  go_wp2_with fail
  exact bodyPost_ret (v:=.agg #[.bool false,.slice R L d]) (by simp [results,Tryz.results84,go_sem,c0,c1]) rfl ⟨R,d,by rw [HZ.out.1,HL.out,HZ.out.2];rfl,by rw [HZ.out.1,HL.out];exact HQ.out.2.1,HQ.out.2.2⟩
 ·rcases Nat.eq_zero_or_pos L with hL0 | hL0
  ·subst hL0
   have hq:=HF.out false (by simp)
   have hz:isNeg (sgn true (val xs))=false:=by rw [HZ.out.2];rfl
   have c0:=hq.1.cell 0
   have c1:=hq.1.cell 1
   have HQ:=Lib.hid (And.intro hq hz)
   clear hq hz
   go_wp2_with fail
   exact bodyPost_ret (v:=.agg #[.bool false,.slice R 0 d]) (by simp [results,Tryz.results84,go_sem,c0,c1]) rfl ⟨R,d,by rw [HZ.out.1,HL.out,HQ.out.2],by rw [HZ.out.1,HL.out];exact HQ.out.1.2.1,HQ.out.1.2.2⟩
  ·have hd:decide ((0:Int) < (L:Nat))=true:=by simp;omega
   have hd2:decide (0 < L)=true:=by simp;omega
   have hq:=HF.out true (by simp;omega)
   have hz:isNeg (sgn true (val xs))=true:=by rw [HZ.out.2];simp;omega
   have c0:=hq.1.cell 0
   have c1:=hq.1.cell 1
   have HQ:=Lib.hid (And.intro hq hz)
   clear hq hz
   go_wp2_with fail
   exact bodyPost_ret (v:=.agg #[.bool true,.slice R L d]) (by simp [results,Tryz.results84,go_sem,c0,c1]) rfl ⟨R,d,by rw [HZ.out.1,HL.out,HQ.out.2],by rw [HZ.out.1,HL.out];exact HQ.out.1.2.1,HQ.out.1.2.2⟩
theorem box2_fin {w w1:World} {g:Nat} {v0 v1 u0 u1:Value} {R:Option Addr} {L d:Nat} {l:List Nat} (hg:w.heap.size≤g) (hbox:RowC w1 g 34 [u0,u1]) (hbel:Below w.heap.size w w1) (ho:OwnR eU w1 (g + 1) 54 R L d l) :
 RowC ((w1.setCell ⟨g,0,none⟩ v0).setCell ⟨g,1,none⟩ v1) g 34 [v0,v1]∧OwnR eU ((w1.setCell ⟨g,0,none⟩ v0).setCell ⟨g,1,none⟩ v1) w.heap.size 54 R L d l ∧
  Below w.heap.size w ((w1.setCell ⟨g,0,none⟩ v0).setCell ⟨g,1,none⟩ v1):=by
 have hne:∀ g',R=some ⟨g',0,none⟩→g' ≠ g:=fun g' e=>by
  rcases ho.at_row with h1 | ⟨g'',h1,h2,_⟩
  ·rw [h1] at e;cases e
  ·rw [h1] at e;injection e with e;injection e with e;omega
 exact ⟨(hbox.put 0 _).put 1 _,((ho.setFar (p:=⟨g,0,none⟩) hne _).setFar (p:=⟨g,1,none⟩) hne _).mono (by omega),(hbel.setCell (p:=⟨g,0,none⟩) hg _).setCell (p:=⟨g,1,none⟩) hg _⟩
set_option maxRecDepth 100000 in
set_option maxHeartbeats 400000 in
theorem whole_norm (neg:Bool) (A:Option Addr) (n c:Nat) (xs:List Nat) (w:World) (h:Sl eU w A n xs) (hc:n≤c) (hl:L32 xs) (hb:n * 4≤140737488351232) :
 Calls Tryz.prog 89 #[.agg #[.bool neg,.slice A n c]] w (IntPost (sgn neg (val xs)) w):=by
 have H1:=(((Held.init w).sl h).new 34 [.bool neg,.slice A n c])
 have H2:=H1.new 34 [.bool false,.slice none 0 0]
 rw [show (w.alloc (.cells [.bool neg,.slice A n c].toArray 34)).heap.size=w.heap.size + 1 from by simp] at H2
 have a0:=H2.has.2.1.cell 0
 have a1:=H2.has.2.1.cell 1
 have hsl:=H2.has.2.2.1
 clear h H1
 go_enter Tryz.func89,Tryz.ntmps89
 go_wp2_with fail
 refine (whole_of neg A n c xs _ hsl hc hl hb).mono ?_
 rintro e w1 ⟨R,d,rfl,ho,hb1⟩
 have H3:=H2.step hb1
 have hq:=box2_fin (v0:=.bool (isNeg (sgn neg (val xs)))) (v1:=.slice R (limbs (sgn neg (val xs)).natAbs).length d) (by omega) H3.has.1 H3.bel (ho.mono (by simp))
 have r0:=H3.has.1.cell 0
 have r1:=H3.has.1.cell 1
 have f0:=H3.has.1.frozen 0
 have f1:=H3.has.1.frozen 1
 generalize sgn neg (val xs)=z at *
 generalize hL:(limbs z.natAbs).length=L at *
 have HL:=Lib.hid hL
 have c0:=hq.1.cell 0
 have c1:=hq.1.cell 1
 have HQ:=Lib.hid hq
 clear hq H3 H2 hsl ho hb1 a0 a1 hL
 go_wp2_with fail
 exact bodyPost_ret (v:=.agg #[.bool (isNeg z),.slice R L d]) (by simp [results,Tryz.results89,go_sem,c0,c1]) rfl ⟨R,d,by rw [HL.out],by rw [HL.out];exact HQ.out.2.1,HQ.out.2.2⟩
set_option maxRecDepth 100000 in
set_option maxHeartbeats 400000 in
theorem whole_sign (neg:Bool) (A:Option Addr) (n c:Nat) (xs:List Nat) (w:World) (h:Sl eU w A n xs) (hc:n≤c) (hl:L32 xs) :
 Calls Tryz.prog 42 #[.agg #[.bool neg,.slice A n c]] w fun e w'=>e=.returned (.int .i64 (sgnI (sgn neg (val xs))))∧Below w.heap.size w w':=by
 have H1:=(((Held.init w).sl h).new 34 [.bool neg,.slice A n c])
 have a0:=H1.has.1.cell 0
 have a1:=H1.has.1.cell 1
 have hsl:=H1.has.2.1
 have hbig:=h.big
 clear h
 obtain ⟨z,hz⟩:∃ z,z=sgn neg (val xs):=⟨_,rfl⟩
 rw [← hz]
 have hz0:bitsN (val xs)=0 ↔ z=0:=by rw [bitsN_zero,hz,sgn_eq_zero]
 have hzn:z ≠ 0→(z < 0 ↔ neg=true):=fun h0=>by
  rw [hz] at h0 ⊢
  have hv:val xs ≠ 0:=fun h=>h0 (by rw [h];exact sgn_zero _)
  unfold sgn
  cases neg
  ·simp
  ·simp;omega
 have HB:=Lib.hid (And.intro H1.bel (And.intro hz0 hzn))
 clear hz hz0 hzn H1
 go_enter Tryz.func42,Tryz.ntmps42
 go_wp2_with fail
 refine (nat_bits A n c xs _ hsl hc hl hbig).mono ?_
 rintro e w1 ⟨rfl,rfl⟩
 generalize bitsN (val xs)=bn at *
 clear hsl
 by_cases h0:bn=0
 ·have hs:sgnI z=0:=by unfold sgnI;rw [HB.out.2.1.1 h0];rfl
  have HS:=Lib.hid hs
  subst h0
  clear hs
  go_wp2_with fail
  go_ret
  exact ⟨ret_int HS.out.symm,HB.out.1⟩
 ·have hne:z ≠ 0:=fun e=>h0 (HB.out.2.1.2 e)
  have h1:(bn == 0)=false:=by simpa using h0
  cases neg
  ·have hs:sgnI z=1:=by
    unfold sgnI
    rw [if_neg (fun h=>by have:=(HB.out.2.2 hne).1 h;cases this),if_neg hne]
   have HS:=Lib.hid hs
   clear hs hne
   go_wp2_with fail
   go_ret
   exact ⟨ret_int HS.out.symm,HB.out.1⟩
  ·have hs:sgnI z=-1:=by
    unfold sgnI
    rw [if_pos ((HB.out.2.2 hne).2 rfl)]
   have HS:=Lib.hid hs
   clear hs hne
   go_wp2_with fail
   go_ret
   exact ⟨ret_int HS.out.symm,HB.out.1⟩
set_option maxRecDepth 100000 in
set_option maxHeartbeats 400000 in
theorem whole_ofI (k:Nat) (w:World) (h:k < 4294967296):Calls Tryz.prog 94 #[.int .i64 (k:Int)] w (IntPost (k:Int) w):=by
 have H2:=(Held.init w).new 34 [.bool false,.slice none 0 0]
 have hk:¬ (k:Int) < 0:=by omega
 have hk2:(k:Int) < 4294967296:=by omega
 have hs:sgn false (val (limbs k))=(k:Int):=by rw [val_limbs];rfl
 have HS:=Lib.hid hs
 clear hs
 go_enter Tryz.func94,Tryz.ntmps94
 go_wp2_with fail
 refine (nat_of k _ (by rw [bB_eq];omega)).mono ?_
 rintro e w1 ⟨R1,d1,rfl,ho1,hb1⟩
 have H3:=H2.step hb1
 have hlen:=limbs_len (n:=k) (k:=1) (by rw [Nat.pow_one,bB_eq];exact h)
 have hsl:=ho1.sl (by omega)
 have hcap:=ho1.cap
 clear H2 ho1 hb1
 go_wp2_with fail
 refine (whole_of false R1 (limbs k).length d1 (limbs k) _ hsl hcap (limbs_L32 k) (by omega)).mono ?_
 rintro e w2 ⟨R,d,rfl,ho,hb1⟩
 rw [HS.out] at ho ⊢
 have H4:=H3.step hb1
 have hq:=box2_fin (v0:=.bool (isNeg (k:Int))) (v1:=.slice R (limbs (k:Int).natAbs).length d) (by omega) H4.has.1 H4.bel (ho.mono (by have h2:=H3.has.1.lt;omega))
 have r0:=H4.has.1.cell 0
 have r1:=H4.has.1.cell 1
 have f0:=H4.has.1.frozen 0
 have f1:=H4.has.1.frozen 1
 have hn:isNeg (k:Int)=false:=by unfold isNeg;simp
 rw [hn] at hq ⊢
 generalize hL:(limbs (k:Int).natAbs).length=L at *
 have HL:=Lib.hid (And.intro hL hn)
 have c0:=hq.1.cell 0
 have c1:=hq.1.cell 1
 have HQ:=Lib.hid hq
 clear hq H4 H3 hsl ho hb1 hL hn hlen hcap
 go_wp2_with fail
 exact bodyPost_ret (v:=.agg #[.bool false,.slice R L d]) (by simp [results,Tryz.results94,go_sem,c0,c1]) rfl ⟨R,d,by rw [HL.out.1,HL.out.2],by rw [HL.out.1];exact HQ.out.2.1,HQ.out.2.2⟩
end Go.Proofs.YtmncjibcoffmfaaGreat
/- whole.Mul, Add, Cmp, walked. Conditions: the limbs read, within Go's bound together. -/
namespace Go.Proofs.YtmncjibcoffmfaaGreat
open Go.RowKit

theorem cell_farN {w:World} {g h o o':Nat} {u:Value} (hne:g ≠ h):(w.setCell ⟨h,o,none⟩ u).cell? ⟨g,o',none⟩=w.cell? ⟨g,o',none⟩:=by
 simp only [World.cell?,Below.heap_setCell w ⟨h,o,none⟩ u g hne]
theorem limbs_mul_len (a b:Nat):(limbs (a * b)).length≤(limbs a).length + (limbs b).length:=by
 refine limbs_len ?_
 rw [Nat.pow_add]
 exact Nat.mul_lt_mul'' (limbs_lt a) (limbs_lt b)
set_option maxRecDepth 100000 in
set_option maxHeartbeats 800000 in
theorem whole_mul (s t:Bool) (A B:Option Addr) (n c m d:Nat) (xs ys:List Nat) (w:World) (h:Sl eU w A n xs) (hc:n≤c) (hl:L32 xs) (k:Sl eU w B m ys) (kc:m≤d) (kl:L32 ys) (hb:(n + m + 4) * 8≤140737488351232) :
 Calls Tryz.prog 81 #[.agg #[.bool s,.slice A n c],.agg #[.bool t,.slice B m d]] w (IntPost (sgn s (val xs) * sgn t (val ys)) w):=by
 have hzz:sgn (s != t) (val (limbs (val xs * val ys)))=sgn s (val xs) * sgn t (val ys):=by rw [val_limbs,sgn_mul]
 rw [← hzz]
 clear hzz
 have H1:=(((Held.init w).sl h).sl k).new 34 [.bool s,.slice A n c]
 have H2:=H1.new 34 [.bool t,.slice B m d]
 rw [show (w.alloc (.cells [.bool s,.slice A n c].toArray 34)).heap.size=w.heap.size + 1 from by simp] at H2
 have H3:=H2.new 34 [.bool false,.slice none 0 0]
 rw [show ((w.alloc (.cells [.bool s,.slice A n c].toArray 34)).alloc (.cells [.bool t,.slice B m d].toArray 34)).heap.size=w.heap.size + 1 + 1 from by simp] at H3
 clear H1 H2 h k
 obtain ⟨wq,hwq⟩:∃ wq:World,wq=((w.alloc (.cells #[.bool s,.slice A n c] 34)).alloc (.cells #[.bool t,.slice B m d] 34)).alloc (.cells #[.bool false,.slice none 0 0] 34):=⟨_,rfl⟩
 rw [← hwq] at H3
 have r0:=H3.has.2.2.1.cell 0
 have r1:=H3.has.2.2.1.cell 1
 have r2:=H3.has.2.1.cell 0
 have r3:=H3.has.2.1.cell 1
 have hsx:=H3.has.2.2.2.2.1.drewN 1
 have hsy:=H3.has.2.2.2.1.drewN 1
 have HH:=Lib.hid H3.drew
 have hlm:=limbs_mul_len (val xs) (val ys)
 have hl1:=limbs_val_len hl
 have hl2:=limbs_val_len kl
 rw [H3.has.2.2.2.2.1.len] at hl1
 rw [H3.has.2.2.2.1.len] at hl2
 have hln:(limbs (val xs * val ys)).length * 4≤140737488351232:=by omega
 clear H3 hlm hl1 hl2
 have q1:∀ (w':World) (o o':Nat) (u:Value),(w'.setCell ⟨w.heap.size + 1 + 1,o,none⟩ u).cell? ⟨w.heap.size,o',none⟩=w'.cell? ⟨w.heap.size,o',none⟩:=fun w' o o' u=>cell_farN (by omega)
 have q2:∀ (w':World) (o o':Nat) (u:Value),(w'.setCell ⟨w.heap.size + 1 + 1,o,none⟩ u).cell? ⟨w.heap.size + 1,o',none⟩=w'.cell? ⟨w.heap.size + 1,o',none⟩:=fun w' o o' u=>cell_farN (by omega)
 go_enter Tryz.func81,Tryz.ntmps81
 go_wp2_with fail
 rw [← hwq]
 clear hwq
 go_region_held3 (fun w'=>w'.cell? ⟨w.heap.size,0,none⟩=some (.bool s)∧w'.cell? ⟨w.heap.size,1,none⟩=some (.slice A n c)∧w'.cell? ⟨w.heap.size + 1,0,none⟩=some (.bool t)∧w'.cell? ⟨w.heap.size + 1,1,none⟩=some (.slice B m d))
  (first | exact ⟨r0,r1,r2,r3⟩ | assumption | go_keep | exact ⟨(q1 _ _ _ _).trans ((q1 _ _ _ _).trans r0),(q1 _ _ _ _).trans ((q1 _ _ _ _).trans r1),(q2 _ _ _ _).trans ((q2 _ _ _ _).trans r2),(q2 _ _ _ _).trans ((q2 _ _ _ _).trans r3)⟩)
  (first
    | ((go_at_call 48);(refine (nat_mul A B n c m d xs ys _ hsx hc hl hsy kc kl (by omega)).mono ?_);(rintro e w1 ⟨R1,d1,rfl,ho1,hb1⟩);
       (have H5:=HH.out.step hb1);(have r0:=H5.has.2.2.1.cell 0);(have r1:=H5.has.2.2.1.cell 1);(have r2:=H5.has.2.1.cell 0);(have r3:=H5.has.2.1.cell 1);
       (have hs1:=ho1.sl (by omega));(have hcp:=ho1.cap))
    | ((go_at_call 84);(refine (whole_of (s != t) R1 (limbs (val xs * val ys)).length d1 (limbs (val xs * val ys)) _ hs1 hcp (limbs_L32 _) hln).mono ?_);(rintro e w2 ⟨R,dr,rfl,ho,hb2⟩);
       (have H6:=H5.step hb2);(have r0:=H6.has.2.2.1.cell 0);(have r1:=H6.has.2.2.1.cell 1);(have r2:=H6.has.2.1.cell 0);(have r3:=H6.has.2.1.cell 1);
       (have r4:=H6.has.1.cell 0);(have r5:=H6.has.1.cell 1);(have f4:=H6.has.1.frozen 0);(have f5:=H6.has.1.frozen 1)))
 all_goals
  generalize sgn (s != t) (val (limbs (val xs * val ys)))=z at *
  have hq:=box2_fin (v0:=.bool (isNeg z)) (v1:=.slice R (limbs z.natAbs).length dr) (by omega) H6.has.1 H6.bel (ho.mono (by have h2:=H5.has.1.lt;omega))
  generalize hL:(limbs z.natAbs).length=L at *
  have HL:=Lib.hid hL
  have c0:=hq.1.cell 0
  have c1:=hq.1.cell 1
  have HQ:=Lib.hid hq
  clear hq H6 H5 ho hb2 hb1 ho1 hL hs1 hcp hln r0 r1 r2 r3 r4 r5 f4 f5
  go_wp2_with fail
  exact bodyPost_ret (v:=.agg #[.bool (isNeg z),.slice R L dr]) (by simp [results,Tryz.results81,go_sem,c0,c1]) rfl ⟨R,dr,by rw [HL.out],by rw [HL.out];exact HQ.out.2.1,HQ.out.2.2⟩
theorem limbs_add_len (a b:Nat):(limbs (a + b)).length≤(limbs a).length + (limbs b).length + 1:=by
 refine limbs_len ?_
 have h1:=limbs_lt a
 have h2:=limbs_lt b
 have h3:bB ^ (limbs a).length≤bB ^ ((limbs a).length + (limbs b).length):=Nat.pow_le_pow_right bB_pos (by omega)
 have h4:bB ^ (limbs b).length≤bB ^ ((limbs a).length + (limbs b).length):=Nat.pow_le_pow_right bB_pos (by omega)
 rw [Nat.pow_succ]
 have h5:bB ^ ((limbs a).length + (limbs b).length) * 2≤bB ^ ((limbs a).length + (limbs b).length) * bB:=Nat.mul_le_mul_left _ (by rw [bB_eq];omega)
 omega
theorem sgn_add_same (s:Bool) (a b:Nat):sgn s (a + b)=sgn s a + sgn s b:=by unfold sgn;split <;> omega
theorem sgn_add_ge {s t:Bool} (h:¬ s=t) {a b:Nat} (hab:b≤a):sgn s (a - b)=sgn s a + sgn t b:=by
 unfold sgn
 cases s <;> cases t <;> simp at h ⊢ <;> omega
theorem sgn_add_lt {s t:Bool} (h:¬ s=t) {a b:Nat} (hab:a < b):sgn t (b - a)=sgn s a + sgn t b:=by
 unfold sgn
 cases s <;> cases t <;> simp at h ⊢ <;> omega
set_option maxRecDepth 100000 in
set_option maxHeartbeats 800000 in
theorem whole_add (s t:Bool) (A B:Option Addr) (n c m d:Nat) (xs ys:List Nat) (w:World) (h:Sl eU w A n xs) (hc:n≤c) (hl:L32 xs) (k:Sl eU w B m ys) (kc:m≤d) (kl:L32 ys) (hb:(n + m + 4) * 8≤140737488351232) :
 Calls Tryz.prog 46 #[.agg #[.bool s,.slice A n c],.agg #[.bool t,.slice B m d]] w (IntPost (sgn s (val xs) + sgn t (val ys)) w):=by
 have H1:=(((Held.init w).sl h).sl k).new 34 [.bool s,.slice A n c]
 have H2:=H1.new 34 [.bool t,.slice B m d]
 rw [show (w.alloc (.cells [.bool s,.slice A n c].toArray 34)).heap.size=w.heap.size + 1 from by simp] at H2
 have H3:=H2.new 34 [.bool false,.slice none 0 0]
 rw [show ((w.alloc (.cells [.bool s,.slice A n c].toArray 34)).alloc (.cells [.bool t,.slice B m d].toArray 34)).heap.size=w.heap.size + 1 + 1 from by simp] at H3
 clear H1 H2
 have r0:=H3.has.2.2.1.cell 0
 have r1:=H3.has.2.2.1.cell 1
 have r2:=H3.has.2.1.cell 0
 have r3:=H3.has.2.1.cell 1
 have hsx:=H3.has.2.2.2.2.1
 have hsy:=H3.has.2.2.2.1
 have hln:=limbs_add_len (val xs) (val ys)
 have hl1:=limbs_val_len hl
 have hl2:=limbs_val_len kl
 rw [h.len] at hl1
 rw [k.len] at hl2
 clear h k
 obtain ⟨z,hz⟩:∃ z,z=sgn s (val xs) + sgn t (val ys):=⟨_,rfl⟩
 rw [← hz]
 have HZ:=Lib.hid hz
 clear hz
 go_enter Tryz.func46,Tryz.ntmps46
 by_cases hst:s=t
 ·subst hst
  have hzz:sgn s (val (limbs (val xs + val ys)))=z:=by rw [val_limbs,sgn_add_same,HZ.out]
  have HZZ:=Lib.hid hzz
  have hss:(s == s)=true:=by simp
  clear hzz
  obtain ⟨wq,hwq⟩:∃ wq:World,wq=((w.alloc (.cells #[.bool s,.slice A n c] 34)).alloc (.cells #[.bool s,.slice B m d] 34)).alloc (.cells #[.bool false,.slice none 0 0] 34):=⟨_,rfl⟩
  rw [← hwq] at H3 hsx hsy r0 r1 r2 r3
  have q1:∀ (w':World) (o o':Nat) (u:Value),(w'.setCell ⟨w.heap.size + 1 + 1,o,none⟩ u).cell? ⟨w.heap.size,o',none⟩=w'.cell? ⟨w.heap.size,o',none⟩:=fun w' o o' u=>cell_farN (by omega)
  have q2:∀ (w':World) (o o':Nat) (u:Value),(w'.setCell ⟨w.heap.size + 1 + 1,o,none⟩ u).cell? ⟨w.heap.size + 1,o',none⟩=w'.cell? ⟨w.heap.size + 1,o',none⟩:=fun w' o o' u=>cell_farN (by omega)
  have hsx:=hsx.drewN 1
  have hsy:=hsy.drewN 1
  have HH:=Lib.hid H3.drew
  clear H3
  rw [hwq] at r0 r1 r2 r3
  go_wp2_with fail
  rw [← hwq] at r0 r1 r2 r3 ⊢
  clear hwq
  go_region_held3 (fun w'=>w'.cell? ⟨w.heap.size,0,none⟩=some (.bool s)∧w'.cell? ⟨w.heap.size,1,none⟩=some (.slice A n c)∧w'.cell? ⟨w.heap.size + 1,1,none⟩=some (.slice B m d))
   (first | exact ⟨r0,r1,r3⟩ | assumption | go_keep | exact ⟨(q1 _ _ _ _).trans ((q1 _ _ _ _).trans r0),(q1 _ _ _ _).trans ((q1 _ _ _ _).trans r1),(q2 _ _ _ _).trans ((q2 _ _ _ _).trans r3)⟩)
   (first
     | ((go_at_call 85);(refine (nat_add A B n c m d xs ys _ hsx hc hl hsy kc kl (by omega)).mono ?_);(rintro e w1 ⟨R1,d1,rfl,ho1,hb1⟩);
        (have HPREV:=HH.out.step hb1);(have r0:=HPREV.has.2.2.1.cell 0);(have r1:=HPREV.has.2.2.1.cell 1);(have r3:=HPREV.has.2.1.cell 1);
        (have hs1:=ho1.sl (by omega));(have hcp:=ho1.cap))
     | ((go_at_call 84);(refine (whole_of s R1 (limbs (val xs + val ys)).length d1 (limbs (val xs + val ys)) _ hs1 hcp (limbs_L32 _) (by omega)).mono ?_);(rintro e w2 ⟨R,dr,rfl,ho,hb2⟩);
        (have H6:=HPREV.step hb2);(have r0:=H6.has.2.2.1.cell 0);(have r1:=H6.has.2.2.1.cell 1);(have r3:=H6.has.2.1.cell 1);
        (have r4:=H6.has.1.cell 0);(have r5:=H6.has.1.cell 1);(have f4:=H6.has.1.frozen 0);(have f5:=H6.has.1.frozen 1)))
  all_goals
   rw [HZZ.out] at ho ⊢
   have hq:=box2_fin (v0:=.bool (isNeg z)) (v1:=.slice R (limbs z.natAbs).length dr) (by omega) H6.has.1 H6.bel (ho.mono (by have h2:=HPREV.has.1.lt;omega))
   generalize hL:(limbs z.natAbs).length=L at *
   have HL:=Lib.hid hL
   have c0:=hq.1.cell 0
   have c1:=hq.1.cell 1
   have HQ:=Lib.hid hq
   clear hq H6 HPREV ho hb2 hb1 ho1 hL hs1 hcp r0 r1 r2 r3 r4 r5 f4 f5
   go_wp2_with fail
   exact bodyPost_ret (v:=.agg #[.bool (isNeg z),.slice R L dr]) (by simp [results,Tryz.results46,go_sem,c0,c1]) rfl ⟨R,dr,by rw [HL.out],by rw [HL.out];exact HQ.out.2.1,HQ.out.2.2⟩
 ·have hne:(s == t)=false:=by simpa using hst
  have hne2:¬ (s=true ↔ t=true):=by cases s <;> cases t <;> simp at hst ⊢
  go_wp2_with fail
  refine (nat_sub A B n c m d xs ys _ hsx hc hl hsy kc kl (by omega)).mono ?_
  rintro e w1 ⟨R1,d1,rfl,ho1,hb1⟩
  have HPREV:=H3.step hb1
  rcases Nat.lt_or_ge (val xs) (val ys) with hab | hab
  ·rw [show decide (val ys≤val xs)=false by simp;omega]
   have hzz:sgn t (val (limbs (val ys - val xs)))=z:=by rw [val_limbs,sgn_add_lt hst hab,HZ.out]
   have HZZ:=Lib.hid hzz
   have hlm:=limbs_mono (show val ys - val xs≤val ys by omega)
   have r0:=HPREV.has.2.2.1.cell 0
   have r1:=HPREV.has.2.2.1.cell 1
   have r2:=HPREV.has.2.1.cell 0
   have r3:=HPREV.has.2.1.cell 1
   have hsx:=HPREV.has.2.2.2.2.1
   have hsy:=HPREV.has.2.2.2.1
   clear hzz H3 ho1 hb1
   go_wp2_with fail
   refine (nat_sub B A m d n c ys xs _ hsy kc kl hsx hc hl (by omega)).mono ?_
   rintro e w2 ⟨R2,d2,rfl,ho1,hb1⟩
   rw [show decide (val xs≤val ys)=true by simp;omega]
   have H4:=HPREV.step hb1
   have hs1:=ho1.sl (by omega)
   have hcp:=ho1.cap
   have r2:=H4.has.2.1.cell 0
   clear HPREV ho1 hb1 r0 r1 r3 hsx hsy
   go_wp2_with fail
   refine (whole_of t R2 (limbs (val ys - val xs)).length d2 (limbs (val ys - val xs)) _ hs1 hcp (limbs_L32 _) (by omega)).mono ?_
   rintro e w3 ⟨R,dr,rfl,ho,hb2⟩
   have H6:=H4.step hb2
   have HPREV:=H4
   clear hb2 hs1 hcp H4
   rw [HZZ.out] at ho ⊢
   have hq:=box2_fin (v0:=.bool (isNeg z)) (v1:=.slice R (limbs z.natAbs).length dr) (by omega) H6.has.1 H6.bel (ho.mono (by have h2:=HPREV.has.1.lt;omega))
   have r0:=H6.has.1.cell 0
   have r1:=H6.has.1.cell 1
   have f0:=H6.has.1.frozen 0
   have f1:=H6.has.1.frozen 1
   generalize hL:(limbs z.natAbs).length=L at *
   have HL:=Lib.hid hL
   have c0:=hq.1.cell 0
   have c1:=hq.1.cell 1
   have HQ:=Lib.hid hq
   clear hq H6 HPREV ho hL
   go_wp2_with fail
   exact bodyPost_ret (v:=.agg #[.bool (isNeg z),.slice R L dr]) (by simp [results,Tryz.results46,go_sem,c0,c1]) rfl ⟨R,dr,by rw [HL.out],by rw [HL.out];exact HQ.out.2.1,HQ.out.2.2⟩
  ·rw [show decide (val ys≤val xs)=true by simp;omega]
   have hzz:sgn s (val (limbs (val xs - val ys)))=z:=by rw [val_limbs,sgn_add_ge hst hab,HZ.out]
   have HZZ:=Lib.hid hzz
   have hlm:=limbs_mono (show val xs - val ys≤val xs by omega)
   have r0:=HPREV.has.2.2.1.cell 0
   have hs1:=ho1.sl (by omega)
   have hcp:=ho1.cap
   clear hzz H3 ho1 hb1 r1 r2 r3 hsx hsy
   go_wp2_with fail
   refine (whole_of s R1 (limbs (val xs - val ys)).length d1 (limbs (val xs - val ys)) _ hs1 hcp (limbs_L32 _) (by omega)).mono ?_
   rintro e w3 ⟨R,dr,rfl,ho,hb2⟩
   have H6:=HPREV.step hb2
   clear hb2 hs1 hcp
   rw [HZZ.out] at ho ⊢
   have hq:=box2_fin (v0:=.bool (isNeg z)) (v1:=.slice R (limbs z.natAbs).length dr) (by omega) H6.has.1 H6.bel (ho.mono (by have h2:=HPREV.has.1.lt;omega))
   have r0:=H6.has.1.cell 0
   have r1:=H6.has.1.cell 1
   have f0:=H6.has.1.frozen 0
   have f1:=H6.has.1.frozen 1
   generalize hL:(limbs z.natAbs).length=L at *
   have HL:=Lib.hid hL
   have c0:=hq.1.cell 0
   have c1:=hq.1.cell 1
   have HQ:=Lib.hid hq
   clear hq H6 HPREV ho hL
   go_wp2_with fail
   exact bodyPost_ret (v:=.agg #[.bool (isNeg z),.slice R L dr]) (by simp [results,Tryz.results46,go_sem,c0,c1]) rfl ⟨R,dr,by rw [HL.out],by rw [HL.out];exact HQ.out.2.1,HQ.out.2.2⟩
end Go.Proofs.YtmncjibcoffmfaaGreat
