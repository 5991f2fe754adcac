/- Joined by program out of: RNatG, RIntA. What each says stands at its own head. -/
import Derived.Test.YtmncjibcoffmfaaGreatJ9
import Derived.Test.YtmncjibcoffmfaaGreatJ10
set_option linter.unusedVariables false
set_option linter.unusedSimpArgs false
/- The document's naturals: Gcd, walked. Conditions: the slices read as limbs, within their capacities and Go's bound together. -/
namespace Go.Proofs.YtmncjibcoffmfaaGreat
open Go.RowKit

theorem twos_lt {t X a n:Nat} (h:2 ^ t * X≤a) (hX:X ≠ 0) (ha:a < bB ^ n):t < 32 * n:=by
 rcases Nat.lt_or_ge t (32 * n) with h1 | h1
 ·exact h1
 ·have h2:2 ^ (32 * n)≤2 ^ t:=Nat.pow_le_pow_right (by omega) h1
  rw [← bB_two] at h2
  have h3:2 ^ t * 1≤2 ^ t * X:=Nat.mul_le_mul_left _ (by omega)
  omega
set_option maxRecDepth 100000 in
set_option maxHeartbeats 1600000 in
theorem rnat_gcd (A B:Option Addr) (n c m d:Nat) (xs ys:List Nat) (w:World) (h:Sl eU w A n xs) (hc:n≤c) (hl:L32 xs) (k:Sl eU w B m ys) (kc:m≤d) (kl:L32 ys) (hb0:n + m≤1000000000000) :
 Calls Tryz.prog 104 #[.slice A n c,.slice B m d] w (NatPost (Nat.gcd (val xs) (val ys)) w):=by
 have hle:(limbs (val xs)).length≤n:=by rw [limbs_val hl];have:=trimL_length xs;rw [h.len] at this;exact this
 have kle:(limbs (val ys)).length≤m:=by rw [limbs_val kl];have:=trimL_length ys;rw [k.len] at this;exact this
 go_enter Tryz.func104,Tryz.ntmps104
 go_wp2_with fail
 refine (rnat_norm A n c xs _ h hc hl (by omega)).mono ?_
 rintro e w1 ⟨X1,c1,rfl,o1,hb1⟩
 have k1:=k.below (Nat.le_refl _) hb1
 have HO1:=Lib.hid (And.intro o1 hb1)
 clear o1 hb1 h k
 go_wp2_with fail
 refine (rnat_norm B m d ys _ k1 kc kl (by omega)).mono ?_
 rintro e w2 ⟨Y1,c2,rfl,o2,hb2⟩
 have o1:=HO1.out.1.below (Nat.le_refl _) hb2
 have hB2:=HO1.out.2.trans (hb2.mono HO1.out.2.size)
 have o2:=o2.mono HO1.out.2.size
 clear HO1 hb2 k1 hl kl
 generalize hva:val xs=a at *
 generalize hvb:val ys=b at *
 clear hva hvb
 have HO:=Lib.hid (And.intro o1 (And.intro o2 hB2))
 clear o1 o2 hB2
 by_cases ha:a=0
 ·subst ha
  have e0:(limbs 0).length=0:=by rw [limbs_zero];rfl
  have HE:=Lib.hid e0
  rw [e0] at hle ⊢
  clear e0
  go_wp2_with fail
  go_ret
  exact ⟨Y1,c2,by rw [Nat.gcd_zero_left];rfl,by rw [Nat.gcd_zero_left];exact HO.out.2.1,HO.out.2.2⟩
 ·have hpa:(limbs a).length ≠ 0:=fun h0=>ha (limbs_nil.1 (List.eq_nil_of_length_eq_zero h0))
  have i1:¬ ((limbs a).length:Int)=0:=by omega
  have i2:(((limbs a).length:Int) == 0)=false:=beq_eq_false_iff_ne.2 i1
  by_cases hb:b=0
  ·subst hb
   have e0:(limbs 0).length=0:=by rw [limbs_zero];rfl
   rw [e0]
   clear e0
   go_wp2_with fail
   go_ret
   exact ⟨X1,c1,by rw [Nat.gcd_zero_right];rfl,by rw [Nat.gcd_zero_right];exact HO.out.1,HO.out.2.2⟩
  ·have hpb:(limbs b).length ≠ 0:=fun h0=>hb (limbs_nil.1 (List.eq_nil_of_length_eq_zero h0))
   have i3:¬ ((limbs b).length:Int)=0:=by omega
   have i4:(((limbs b).length:Int) == 0)=false:=beq_eq_false_iff_ne.2 i3
   have halt:a < bB ^ n:=Nat.lt_of_lt_of_le (limbs_lt a) (Nat.pow_le_pow_right bB_pos hle)
   have HA:=Lib.hid halt
   clear hpa hpb halt
   go_wp2_with fail
   clear i1 i2 i3 i4
   go_loopw [5,6,7] (fun xv yv tv wr=>∃ (X Y t:Nat) (R1:Option Addr) (c1:Nat) (R2:Option Addr) (c2:Nat),xv=.slice R1 (limbs X).length c1∧yv=.slice R2 (limbs Y).length c2∧tv=.int .i64 (t:Nat)∧X ≠ 0∧Y ≠ 0∧Y≤b∧2 ^ t * X≤a∧Nat.gcd a b=2 ^ t * Nat.gcd X Y∧OwnR eU wr w.heap.size 54 R1 (limbs X).length c1 (limbs X)∧OwnR eU wr w.heap.size 54 R2 (limbs Y).length c2 (limbs Y)∧Below w.heap.size w wr) (fun xv _ _ wr=>natAt wr xv)
   case atStart=>exact ⟨a,b,0,X1,c1,Y1,c2,rfl,rfl,rfl,ha,hb,Nat.le_refl _,by simp,by simp,HO.out.1,HO.out.2.1,HO.out.2.2⟩
   case round =>
    obtain ⟨X,Y,t,R1,cx,R2,cy,rfl,rfl,rfl,hX,hY,hYb,htX,hg,hO1,hO2,hB⟩:=hrel
    obtain ⟨wb,hwb⟩:∃ wb:World,wb=wr:=⟨_,rfl⟩
    subst hwb
    have hXa:X≤a:=by
     have h1:1 * X≤2 ^ t * X:=Nat.mul_le_mul_right _ (Nat.pow_pos (by omega))
     omega
    have hlX:=limbs_mono hXa
    have hlY:=limbs_mono hYb
    have s1:=hO1.sl (by omega)
    have s2:=hO2.sl (by omega)
    have htl:=twos_lt htX hX HA.out
    have HH:=Lib.hid (And.intro hYb (And.intro htX (And.intro hg (And.intro hO1 (And.intro hO2 hB)))))
    clear hYb htX hg hO1 hO2 hB hXa
    go_wp2_with fail
    refine (rnat_even R1 (limbs X).length cx (limbs X) _ s1 (limbs_L32 X)).mono ?_
    rintro e w3 ⟨rfl,rfl⟩
    rw [val_limbs]
    by_cases hboth:X % 2=0∧Y % 2=0
    ·have q1:decide (X % 2=0)=true:=decide_eq_true hboth.1
     have q2:decide (Y % 2=0)=true:=decide_eq_true hboth.2
     rw [q1]
     go_wp2_with fail
     refine (rnat_even R2 (limbs Y).length cy (limbs Y) _ s2 (limbs_L32 Y)).mono ?_
     rintro e w3 ⟨rfl,rfl⟩
     rw [val_limbs,q2]
     clear q1 q2
     go_wp2_with fail
     refine (rnat_half R1 (limbs X).length cx (limbs X) _ s1 (limbs_L32 X) (by omega)).mono ?_
     rintro e w4 ⟨R4,c4,rfl,o4,hb4⟩
     rw [val_limbs] at o4 ⊢
     have s2:=s2.below (Nat.le_refl _) hb4
     have H4:=Lib.hid (And.intro o4 hb4)
     clear o4 hb4
     go_wp2_with fail
     refine (rnat_half R2 (limbs Y).length cy (limbs Y) _ s2 (limbs_L32 Y) (by omega)).mono ?_
     rintro e w5 ⟨R5,c5,rfl,o5,hb5⟩
     rw [val_limbs] at o5 ⊢
     have o4:=H4.out.1.below (Nat.le_refl _) hb5
     have hsz:=HH.out.2.2.2.2.2.size
     have hsz4:=H4.out.2.size
     have hb45:=H4.out.2.trans (hb5.mono hsz4)
     have H5:=Lib.hid (And.intro (o4.mono hsz) (And.intro (o5.mono (Nat.le_trans hsz hsz4)) (HH.out.2.2.2.2.2.trans (hb45.mono hsz))))
     have hms:natAt w5 (.slice R4 (limbs (X / 2)).length c4) < natAt wb (.slice R1 (limbs X).length cx):=by
      rw [natAt_eq s1,natAt_eq (H5.out.1.sl (by have:=limbs_mono (show X / 2≤X by omega);omega)),val_limbs,val_limbs];omega
     have HMS:=Lib.hid hms
     clear o4 o5 hb5 hb45 hms s1 s2
     have e1:2 ^ (t + 1) * (X / 2)=2 ^ t * X:=by rw [Nat.pow_succ,Nat.mul_assoc];congr 1;omega
     have e2:Nat.gcd X Y=2 * Nat.gcd (X / 2) (Y / 2):=by
      rw [← gcd_both];congr 1 <;> omega
     have HE:=Lib.hid (And.intro e1 e2)
     clear e1 e2
     go_wp2_with fail
     exact ⟨⟨X / 2,Y / 2,t + 1,R4,c4,R5,c5,rfl,rfl,by go_num,by omega,by omega,by have:=HH.out.1;omega,by rw [HE.out.1];exact HH.out.2.1,by rw [HH.out.2.2.1,HE.out.2,Nat.pow_succ,Nat.mul_assoc],H5.out.1,H5.out.2.1,H5.out.2.2⟩,HMS.out⟩
    ·have hodd:X % 2=1 ∨ Y % 2=1:=by omega
     clear hboth
     have hex:∃ bx:Bool,decide (X % 2=0)=bx∧(bx=true→decide (Y % 2=0)=false):=⟨_,rfl,fun hq=>by have:=of_decide_eq_true hq;simp;omega⟩
     obtain ⟨bx,q1,q2⟩:=hex
     have HQ:=Lib.hid q2
     rw [q1]
     clear q1 q2
     have hM1:X≤a + b:=by have:=HH.out.2.1;have h1:1 * X≤2 ^ t * X:=Nat.mul_le_mul_right _ (Nat.pow_pos (by omega));omega
     have hM2:Y≤a + b:=by have:=HH.out.1;omega
     have hML:(limbs (a + b)).length≤n + m + 1:=by have:=limbs_add_len a b;omega
     have HSL:=Lib.hid (And.intro s1 s2)
     clear s1
     cases bx with
     | false=>?_
     | true=>?_
     case' true =>
      go_wp2_with fail
      refine (rnat_even R2 (limbs Y).length cy (limbs Y) _ s2 (limbs_L32 Y)).mono ?_
      rintro e w3 ⟨rfl,rfl⟩
      rw [val_limbs,HQ.out (by first | rfl | trivial)]
      clear s2
      go_wp2_with fail
     case' false =>
      clear s2
      go_wp2_with fail
     all_goals
      go_loopw [5,6] (fun xv yv wr=>∃ (U V:Nat) (R1:Option Addr) (c1:Nat) (R2:Option Addr) (c2:Nat),xv=.slice R1 (limbs U).length c1∧yv=.slice R2 (limbs V).length c2∧U ≠ 0∧(U % 2=1 ∨ V % 2=1)∧U≤a + b∧V≤a + b∧Nat.gcd U V=Nat.gcd X Y∧OwnR eU wr w.heap.size 54 R1 (limbs U).length c1 (limbs U)∧OwnR eU wr w.heap.size 54 R2 (limbs V).length c2 (limbs V)∧Below w.heap.size w wr) (fun xv yv wr=>natAt wr xv + natAt wr yv)
      case atStart=>exact ⟨X,Y,R1,cx,R2,cy,rfl,rfl,hX,hodd,hM1,hM2,rfl,HH.out.2.2.2.1,HH.out.2.2.2.2.1,HH.out.2.2.2.2.2⟩
      case round=>as_aux_lemma =>
       clear HSL HQ hodd
       obtain ⟨U,V,R3,c3,R4,c4,rfl,rfl,hU,hUV,hUb,hVb,hG,hO1,hO2,hB⟩:=hrel
       obtain ⟨wd,hwd⟩:∃ wd:World,wd=wr:=⟨_,rfl⟩
       subst hwd
       have s1:=hO1.sl (by have:=limbs_mono hUb;omega)
       have s2:=hO2.sl (by have:=limbs_mono hVb;omega)
       have m1:natAt wd (.slice R3 (limbs U).length c3)=U:=by rw [natAt_eq s1,val_limbs]
       have m2:natAt wd (.slice R4 (limbs V).length c4)=V:=by rw [natAt_eq s2,val_limbs]
       have HMS:=Lib.hid (And.intro m1 m2)
       clear m1 m2 s1 s2
       by_cases hV:V=0
       ·subst hV
        have e0:(limbs 0).length=0:=by rw [limbs_zero];rfl
        rw [e0]
        clear e0
        have hG0:U=Nat.gcd X Y:=by rw [← hG,Nat.gcd_zero_right]
        have HD:=Lib.hid (And.intro hG0 (And.intro hO1 hB))
        clear hG hG0 hO1 hO2 hB hUV
        go_wp2_with fail
        go_loopw [5,8] (fun xv iv wr=>∃ (i:Nat) (R:Option Addr) (cr:Nat),iv=.int .i64 (i:Nat)∧i≤t∧xv=.slice R (limbs (2 ^ i * U)).length cr∧OwnR eU wr w.heap.size 54 R (limbs (2 ^ i * U)).length cr (limbs (2 ^ i * U))∧Below w.heap.size w wr) (fun _ iv _=>t - (intOf iv).toNat)
        case atStart=>exact ⟨0,R3,c3,rfl,Nat.zero_le _,by simp,by simpa using HD.out.2.1,HD.out.2.2⟩
        case round=>as_aux_lemma =>
         obtain ⟨i,R,cr,rfl,hi,rfl,hO,hBr⟩:=hrel
         obtain ⟨we,hwe⟩:∃ we:World,we=wr:=⟨_,rfl⟩
         subst hwe
         have hfin:2 ^ t * U=Nat.gcd a b:=by rw [HH.out.2.2.1,HD.out.1]
         have hle2:2 ^ i * U≤Nat.gcd a b:=by rw [← hfin];exact Nat.mul_le_mul_right _ (Nat.pow_le_pow_right (by omega) hi)
         have hga:Nat.gcd a b≤a:=Nat.gcd_le_left _ (by omega)
         have hlen:=limbs_mono (Nat.le_trans hle2 hga)
         have hne:2 ^ i * U ≠ 0:=Nat.mul_ne_zero (Nat.pos_iff_ne_zero.1 (Nat.pow_pos (by omega))) hU
         by_cases hit:i < t
         ·have hs:=hO.sl (by omega)
          have i1:(i:Int) < (t:Nat):=by omega
          have e2:2 * (2 ^ i * U) + 0=2 ^ (i + 1) * U:=by rw [Nat.pow_succ,Nat.add_zero];ac_rfl
          have HR:=Lib.hid (And.intro e2 (And.intro hO hBr))
          clear e2 hO hBr hfin hle2
          generalize 2 ^ i * U=z at *
          go_wp2_with fail
          refine (rnat_double R (limbs z).length cr (limbs z) 0 _ hs (limbs_L32 z) (by omega) (by omega)).mono ?_
          rintro e w6 ⟨R6,k6,m6,l6,rfl,o6,_,_,_,hd6,hb6⟩
          have hd:=hd6 (by rw [val_limbs]) (by rw [val_limbs];exact hne)
          rw [val_limbs,HR.out.1] at hd
          subst hd
          obtain rfl:(limbs (2 ^ (i + 1) * U)).length=m6:=o6.length
          have hsz:=HR.out.2.2.size
          have H6:=Lib.hid (And.intro (o6.mono hsz) (HR.out.2.2.trans (hb6.mono hsz)))
          clear o6 hb6 hd6 hs
          go_wp2_with fail
          exact ⟨⟨i + 1,R6,k6,by go_num,by omega,rfl,H6.out.1,H6.out.2⟩,by simp [intOf];omega⟩
         ·obtain rfl:i=t:=by omega
          have i1:¬ (i:Int) < (i:Nat):=by omega
          have HR:=Lib.hid (And.intro hfin (And.intro hO hBr))
          clear hO hBr hfin
          go_wp2_with fail
          go_ret
          exact ⟨R,cr,by rw [← HR.out.1];rfl,by rw [← HR.out.1];exact HR.out.2.1,HR.out.2.2⟩
       ·have hpv:(limbs V).length ≠ 0:=fun h0=>hV (limbs_nil.1 (List.eq_nil_of_length_eq_zero h0))
        have j1:0 < (limbs V).length:=by omega
        have HU:=Lib.hid (And.intro hG (And.intro hO1 (And.intro hO2 hB)))
        clear hG hO1 hO2 hB hpv
        go_wp2_with fail
        go_loopw [5] (fun xv wr=>∃ (U2:Nat) (R:Option Addr) (cr:Nat),xv=.slice R (limbs U2).length cr∧U2 ≠ 0∧U2≤U∧(U2 % 2=1 ∨ V % 2=1)∧Nat.gcd U2 V=Nat.gcd X Y∧OwnR eU wr w.heap.size 54 R (limbs U2).length cr (limbs U2)∧Below wd.heap.size wd wr) (fun xv wr=>natAt wr xv)
        case atStart=>exact ⟨U,R3,c3,rfl,hU,Nat.le_refl _,hUV,HU.out.1,HU.out.2.1,Below.refl _ _⟩
        case round=>as_aux_lemma =>
         obtain ⟨U2,R,cr,rfl,hU2,hU2b,hodd2,hG2,hO,hBr⟩:=hrel
         obtain ⟨we,hwe⟩:∃ we:World,we=wr:=⟨_,rfl⟩
         subst hwe
         have hl1:=limbs_mono (Nat.le_trans hU2b hUb)
         have hs:=hO.sl (by omega)
         have m3:natAt we (.slice R (limbs U2).length cr)=U2:=by rw [natAt_eq hs,val_limbs]
         have HM3:=Lib.hid m3
         clear m3 hUV
         go_wp2_with fail
         refine (rnat_even R (limbs U2).length cr (limbs U2) _ hs (limbs_L32 U2)).mono ?_
         rintro e w3 ⟨rfl,rfl⟩
         rw [val_limbs]
         by_cases hev:U2 % 2=0
         ·have q1:decide (U2 % 2=0)=true:=decide_eq_true hev
          rw [q1]
          clear q1
          have hVo:V % 2=1:=by omega
          have e1:Nat.gcd (U2 / 2) V=Nat.gcd X Y:=by rw [← hG2,← gcd_half_left (x:=U2 / 2) hVo];congr 1;omega
          have HR:=Lib.hid (And.intro e1 (And.intro hO hBr))
          clear e1 hO hBr hG2 hodd2
          go_wp2_with fail
          refine (rnat_half R (limbs U2).length cr (limbs U2) _ hs (limbs_L32 U2) (by omega)).mono ?_
          rintro e w4 ⟨R5,c5,rfl,o5,hb5⟩
          rw [val_limbs] at o5 ⊢
          have hsz:=HR.out.2.2.size
          have hsw:=HU.out.2.2.2.size
          have H5:=Lib.hid (And.intro (o5.mono (Nat.le_trans hsw hsz)) (HR.out.2.2.trans (hb5.mono hsz)))
          clear o5 hb5 hs
          go_wp2_with fail
          refine ⟨⟨U2 / 2,R5,c5,rfl,by omega,by omega,.inr hVo,HR.out.1,H5.out.1,H5.out.2⟩,?_⟩
          rw [HM3.out,natAt_eq (H5.out.1.sl (by have:=limbs_mono (show U2 / 2≤U2 by omega);omega)),val_limbs];omega
         ·have q1:decide (U2 % 2=0)=false:=decide_eq_false hev
          rw [q1]
          clear q1 hodd2
          have hUo:U2 % 2=1:=by omega
          have HR:=Lib.hid (And.intro hG2 (And.intro hO hBr))
          clear hO hBr hG2 hs hev
          go_wp2_with fail
          go_loopw [6] (fun yv wr=>∃ (V2:Nat) (R:Option Addr) (cr:Nat),yv=.slice R (limbs V2).length cr∧V2 ≠ 0∧V2≤V∧Nat.gcd U2 V2=Nat.gcd X Y∧OwnR eU wr w.heap.size 54 R (limbs V2).length cr (limbs V2)∧Below we.heap.size we wr) (fun yv wr=>natAt wr yv)
          case atStart=>exact ⟨V,R4,c4,rfl,hV,Nat.le_refl _,HR.out.1,HU.out.2.2.1.below (Nat.le_refl _) HR.out.2.2,Below.refl _ _⟩
          case round=>as_aux_lemma =>
           obtain ⟨V2,R6,c6,rfl,hV2,hV2b,hG3,hO3,hB3⟩:=hrel
           obtain ⟨wf,hwf⟩:∃ wf:World,wf=wr:=⟨_,rfl⟩
           subst hwf
           have hl2:=limbs_mono (Nat.le_trans hV2b hVb)
           have hs3:=hO3.sl (by omega)
           have m4:natAt wf (.slice R6 (limbs V2).length c6)=V2:=by rw [natAt_eq hs3,val_limbs]
           have HM4:=Lib.hid m4
           have hpv:(limbs V2).length ≠ 0:=fun h0=>hV2 (limbs_nil.1 (List.eq_nil_of_length_eq_zero h0))
           have j2:0 < (limbs V2).length:=by omega
           clear m4 hpv
           have hbw:Below w.heap.size w wf:=HU.out.2.2.2.trans ((HR.out.2.2.trans (hB3.mono HR.out.2.2.size)).mono HU.out.2.2.2.size)
           go_wp2_with fail
           refine (rnat_even R6 (limbs V2).length c6 (limbs V2) _ hs3 (limbs_L32 V2)).mono ?_
           rintro e w3 ⟨rfl,rfl⟩
           rw [val_limbs]
           by_cases hev:V2 % 2=0
           ·have q1:decide (V2 % 2=0)=true:=decide_eq_true hev
            rw [q1]
            clear q1
            have e1:Nat.gcd U2 (V2 / 2)=Nat.gcd X Y:=by rw [← hG3,← gcd_half_right (y:=V2 / 2) hUo];congr 1;omega
            have HQ3:=Lib.hid (And.intro e1 (And.intro hB3 hbw))
            clear e1 hO3 hB3 hG3 hbw
            go_wp2_with fail
            refine (rnat_half R6 (limbs V2).length c6 (limbs V2) _ hs3 (limbs_L32 V2) (by omega)).mono ?_
            rintro e w4 ⟨R5,c5,rfl,o5,hb5⟩
            rw [val_limbs] at o5 ⊢
            have hsz:=HQ3.out.2.1.size
            have H5:=Lib.hid (And.intro (o5.mono HQ3.out.2.2.size) (HQ3.out.2.1.trans (hb5.mono hsz)))
            clear o5 hb5 hs3
            go_wp2_with fail
            refine ⟨⟨V2 / 2,R5,c5,rfl,by omega,by omega,HQ3.out.1,H5.out.1,H5.out.2⟩,?_⟩
            rw [HM4.out,natAt_eq (H5.out.1.sl (by have:=limbs_mono (show V2 / 2≤V2 by omega);omega)),val_limbs];omega
           ·have q1:decide (V2 % 2=0)=false:=decide_eq_false hev
            rw [q1]
            clear q1
            have hVo:V2 % 2=1:=by omega
            have ho1:=HR.out.2.1.below (Nat.le_refl _) hB3
            have hs1:=ho1.sl (by omega)
            have HQ3:=Lib.hid (And.intro hG3 (And.intro ho1 (And.intro hO3 hbw)))
            clear ho1 hO3 hB3 hG3 hbw hev
            go_wp2_with fail
            refine (rnat_cmp R R6 (limbs U2).length cr (limbs V2).length c6 (limbs U2) (limbs V2) _ hs1 (limbs_L32 _) hs3 (limbs_L32 _)).mono ?_
            rintro e w7 ⟨rfl,rfl⟩
            rw [val_limbs,val_limbs]
            have hsz:=HQ3.out.2.2.2.size
            rcases Nat.lt_or_ge V2 U2 with hlt | hge
            ·rw [cmpN_gt hlt]
             have hbd:((limbs U2).length + (limbs V2).length + 4) * 8≤140737488351232:=rfits8 (by omega)
             go_wp2_with fail
             refine (rnat_sub R R6 (limbs U2).length cr (limbs V2).length c6 (limbs U2) (limbs V2) _ hs1 (limbs_L32 _) hs3 (limbs_L32 _) hbd).mono ?_
             intro e w8 hp8
             rw [val_limbs,val_limbs] at hp8
             rcases hp8 with ⟨hbad,_⟩ | ⟨_,R8,k8,rfl,o8,hb8⟩
             ·omega
             ·have hls:=limbs_mono (Nat.sub_le U2 V2)
              have o6:=HQ3.out.2.2.1.below (Nat.le_refl _) hb8
              have H8:=Lib.hid (And.intro (o8.mono hsz) (And.intro o6 (HQ3.out.2.2.2.trans (hb8.mono hsz))))
              have hg8:Nat.gcd V2 (U2 - V2)=Nat.gcd X Y:=by rw [gcd_less (Nat.le_of_lt hlt),Nat.gcd_comm];exact HQ3.out.1
              have HG8:=Lib.hid hg8
              clear o8 hb8 hg8 o6 hs1 hs3 hbd
              go_wp2_with fail
              refine ⟨⟨V2,U2 - V2,R6,c6,R8,k8,rfl,rfl,hV2,.inl hVo,by omega,by omega,HG8.out,H8.out.2.1,H8.out.1,H8.out.2.2⟩,?_⟩
              rw [HMS.out.1,HMS.out.2,natAt_eq (H8.out.2.1.sl (by omega)),natAt_eq (H8.out.1.sl (by omega)),val_limbs,val_limbs]
              omega
            ·have hz:∃ z,cmpN U2 V2=z∧z≤0:=⟨_,rfl,by
              rcases Nat.eq_or_lt_of_le hge with h9 | h9
              ·rw [cmpN_eq h9];omega
              ·rw [cmpN_lt h9];omega⟩
             obtain ⟨z,hz1,hz2⟩:=hz
             rw [hz1]
             have z1:decide (z > 0)=false:=by simpa using hz2
             have hbd:((limbs V2).length + (limbs U2).length + 4) * 8≤140737488351232:=rfits8 (by omega)
             clear hz1
             go_wp2_with fail
             refine (rnat_sub R6 R (limbs V2).length c6 (limbs U2).length cr (limbs V2) (limbs U2) _ hs3 (limbs_L32 _) hs1 (limbs_L32 _) hbd).mono ?_
             intro e w8 hp8
             rw [val_limbs,val_limbs] at hp8
             rcases hp8 with ⟨hbad,_⟩ | ⟨_,R8,k8,rfl,o8,hb8⟩
             ·omega
             ·have hls:=limbs_mono (Nat.sub_le V2 U2)
              have o6:=HQ3.out.2.1.below (Nat.le_refl _) hb8
              have H8:=Lib.hid (And.intro (o8.mono hsz) (And.intro o6 (HQ3.out.2.2.2.trans (hb8.mono hsz))))
              have hg8:Nat.gcd U2 (V2 - U2)=Nat.gcd X Y:=by rw [gcd_less hge];exact HQ3.out.1
              have HG8:=Lib.hid hg8
              clear o8 hb8 hg8 o6 hs1 hs3 hbd
              go_wp2_with fail
              refine ⟨⟨U2,V2 - U2,R,cr,R8,k8,rfl,rfl,hU2,.inl hUo,by omega,by omega,HG8.out,H8.out.2.1.mono (Nat.le_of_eq (by first | rfl | omega)),H8.out.1,H8.out.2.2⟩,?_⟩
              rw [HMS.out.1,HMS.out.2,natAt_eq (H8.out.2.1.sl (by omega)),natAt_eq (H8.out.1.sl (by omega)),val_limbs,val_limbs]
              omega
end Go.Proofs.YtmncjibcoffmfaaGreat
/- The document's whole numbers: Make, Norm, Sign, Neg, walked. Conditions: the size reads as limbs, within its capacity and Go's bound. -/
namespace Go.Proofs.YtmncjibcoffmfaaGreat
open Go.RowKit

set_option maxRecDepth 100000 in
set_option maxHeartbeats 400000 in
theorem rint_make (neg:Bool) (A:Option Addr) (n c:Nat) (xs:List Nat) (w:World) (h:Sl eU w A n xs) (hc:n≤c) (hl:L32 xs) (hb:n * 4≤140737488351232) :
 Calls Tryz.prog 63 #[.bool neg,.slice A n c] w (IntPost (sgn neg (val xs)) w):=by
 have hz1:(sgn neg (val xs)).natAbs=val xs:=sgn_natAbs _ _
 have hz2:isNeg (sgn neg (val xs))=(neg && decide (0 < (limbs (val xs)).length)):=by
  rw [sgn_neg]
  congr 1
  rw [decide_eq_decide]
  constructor
  ·intro h0
   rcases Nat.eq_zero_or_pos (limbs (val xs)).length with h1 | h1
   ·exact absurd (limbs_nil.1 (List.eq_nil_of_length_eq_zero h1)) h0
   ·exact h1
  ·intro h1 h0
   rw [h0,limbs_zero] at h1
   simp at h1
 have HZ:=Lib.hid (And.intro hz1 hz2)
 clear hz1 hz2
 have H1:=((Held.init w).sl h).new 34 [.bool false,.slice none 0 0]
 have hsl:=H1.has.2.1
 clear h
 go_enter Tryz.func63,Tryz.ntmps63
 go_wp2_with fail
 refine (rnat_norm A n c xs _ hsl hc hl (by omega)).mono ?_
 rintro e w1 ⟨R,d,rfl,ho,hb1⟩
 have hbox:=(H1.step hb1).has.1
 have hbel:=(H1.step hb1).bel
 have r0:=hbox.cell 0
 have r1:=hbox.cell 1
 have f0:=hbox.frozen 0
 have f1:=hbox.frozen 1
 have hob:=ho.mono (base':=w.heap.size + 1) (by simp)
 have HB:=Lib.hid (And.intro hbox (And.intro hbel hob))
 clear hbox hbel ho hb1 hsl H1 hob
 generalize hL:(limbs (val xs)).length=L at *
 have hfin:∀ b:Bool,(neg && decide (0 < L))=b→RowC ((w1.setCell ⟨w.heap.size,0,none⟩ (.bool b)).setCell ⟨w.heap.size,1,none⟩ (.slice R L d)) w.heap.size 34 [.bool b,.slice R L d] ∧
  OwnR eU ((w1.setCell ⟨w.heap.size,0,none⟩ (.bool b)).setCell ⟨w.heap.size,1,none⟩ (.slice R L d)) w.heap.size 54 R L d (limbs (val xs))∧Below w.heap.size w ((w1.setCell ⟨w.heap.size,0,none⟩ (.bool b)).setCell ⟨w.heap.size,1,none⟩ (.slice R L d)):=fun b _=>by
  have hne:∀ g,R=some ⟨g,0,none⟩→g ≠ w.heap.size:=fun g e=>by
   rcases HB.out.2.2.at_row with h1 | ⟨g',h1,h2,_⟩
   ·rw [h1] at e;cases e
   ·rw [h1] at e;injection e with e;injection e with e;omega
  exact ⟨(HB.out.1.put 0 _).put 1 _,((HB.out.2.2.setFar (p:=⟨w.heap.size,0,none⟩) hne _).setFar (p:=⟨w.heap.size,1,none⟩) hne _).mono (by omega),(HB.out.2.1.setCell (p:=⟨w.heap.size,0,none⟩) (Nat.le_refl _) _).setCell (p:=⟨w.heap.size,1,none⟩) (Nat.le_refl _) _⟩
 have HF:=Lib.hid hfin
 have HL:=Lib.hid hL
 clear hfin hL
 cases neg
 ·have hq:=HF.out false rfl
  have c0:=hq.1.cell 0
  have c1:=hq.1.cell 1
  have HQ:=Lib.hid hq
  clear hq
  go_wp2_with fail
  exact bodyPost_ret (v:=.agg #[.bool false,.slice R L d]) (by simp [results,Tryz.results63,go_sem,c0,c1]) rfl ⟨R,d,by rw [HZ.out.1,HL.out,HZ.out.2];rfl,by rw [HZ.out.1,HL.out];exact HQ.out.2.1,HQ.out.2.2⟩
 ·rcases Nat.eq_zero_or_pos L with hL0 | hL0
  ·subst hL0
   have hq:=HF.out false (by simp)
   have hz:isNeg (sgn true (val xs))=false:=by rw [HZ.out.2];rfl
   have c0:=hq.1.cell 0
   have c1:=hq.1.cell 1
   have HQ:=Lib.hid (And.intro hq hz)
   clear hq hz
   go_wp2_with fail
   exact bodyPost_ret (v:=.agg #[.bool false,.slice R 0 d]) (by simp [results,Tryz.results63,go_sem,c0,c1]) rfl ⟨R,d,by rw [HZ.out.1,HL.out,HQ.out.2],by rw [HZ.out.1,HL.out];exact HQ.out.1.2.1,HQ.out.1.2.2⟩
  ·have hd:decide ((0:Int) < (L:Nat))=true:=by simp;omega
   have hd2:decide (0 < L)=true:=by simp;omega
   have hq:=HF.out true (by simp;omega)
   have hz:isNeg (sgn true (val xs))=true:=by rw [HZ.out.2];simp;omega
   have c0:=hq.1.cell 0
   have c1:=hq.1.cell 1
   have HQ:=Lib.hid (And.intro hq hz)
   clear hq hz
   go_wp2_with fail
   exact bodyPost_ret (v:=.agg #[.bool true,.slice R L d]) (by simp [results,Tryz.results63,go_sem,c0,c1]) rfl ⟨R,d,by rw [HZ.out.1,HL.out,HQ.out.2],by rw [HZ.out.1,HL.out];exact HQ.out.1.2.1,HQ.out.1.2.2⟩
set_option maxRecDepth 100000 in
set_option maxHeartbeats 400000 in
theorem rint_norm (neg:Bool) (A:Option Addr) (n c:Nat) (xs:List Nat) (w:World) (h:Sl eU w A n xs) (hc:n≤c) (hl:L32 xs) (hb:n * 4≤140737488351232) :
 Calls Tryz.prog 61 #[.agg #[.bool neg,.slice A n c]] w (IntPost (sgn neg (val xs)) w):=by
 have H1:=(((Held.init w).sl h).new 34 [.bool neg,.slice A n c])
 have H2:=H1.new 34 [.bool false,.slice none 0 0]
 rw [show (w.alloc (.cells [.bool neg,.slice A n c].toArray 34)).heap.size=w.heap.size + 1 from by simp] at H2
 have a0:=H2.has.2.1.cell 0
 have a1:=H2.has.2.1.cell 1
 have hsl:=H2.has.2.2.1
 clear h H1
 go_enter Tryz.func61,Tryz.ntmps61
 go_wp2_with fail
 refine (rint_make neg A n c xs _ hsl hc hl hb).mono ?_
 rintro e w1 ⟨R,d,rfl,ho,hb1⟩
 have H3:=H2.step hb1
 have hq:=box2_fin (v0:=.bool (isNeg (sgn neg (val xs)))) (v1:=.slice R (limbs (sgn neg (val xs)).natAbs).length d) (by omega) H3.has.1 H3.bel (ho.mono (by simp))
 have r0:=H3.has.1.cell 0
 have r1:=H3.has.1.cell 1
 have f0:=H3.has.1.frozen 0
 have f1:=H3.has.1.frozen 1
 generalize sgn neg (val xs)=z at *
 generalize hL:(limbs z.natAbs).length=L at *
 have HL:=Lib.hid hL
 have c0:=hq.1.cell 0
 have c1:=hq.1.cell 1
 have HQ:=Lib.hid hq
 clear hq H3 H2 hsl ho hb1 a0 a1 hL
 go_wp2_with fail
 exact bodyPost_ret (v:=.agg #[.bool (isNeg z),.slice R L d]) (by simp [results,Tryz.results61,go_sem,c0,c1]) rfl ⟨R,d,by rw [HL.out],by rw [HL.out];exact HQ.out.2.1,HQ.out.2.2⟩
set_option maxRecDepth 100000 in
set_option maxHeartbeats 400000 in
theorem rint_neg (neg:Bool) (A:Option Addr) (n c:Nat) (xs:List Nat) (w:World) (h:Sl eU w A n xs) (hc:n≤c) (hl:L32 xs) (hb:n * 4≤140737488351232) :
 Calls Tryz.prog 101 #[.agg #[.bool neg,.slice A n c]] w (IntPost (sgn (!neg) (val xs)) w):=by
 have H1:=(((Held.init w).sl h).new 34 [.bool neg,.slice A n c])
 have H2:=H1.new 34 [.bool false,.slice none 0 0]
 rw [show (w.alloc (.cells [.bool neg,.slice A n c].toArray 34)).heap.size=w.heap.size + 1 from by simp] at H2
 have a0:=H2.has.2.1.cell 0
 have a1:=H2.has.2.1.cell 1
 have hsl:=H2.has.2.2.1
 clear h H1
 go_enter Tryz.func101,Tryz.ntmps101
 go_wp2_with fail
 refine (rint_make (!neg) A n c xs _ hsl hc hl hb).mono ?_
 rintro e w1 ⟨R,d,rfl,ho,hb1⟩
 have H3:=H2.step hb1
 have hq:=box2_fin (v0:=.bool (isNeg (sgn (!neg) (val xs)))) (v1:=.slice R (limbs (sgn (!neg) (val xs)).natAbs).length d) (by omega) H3.has.1 H3.bel (ho.mono (by simp))
 have r0:=H3.has.1.cell 0
 have r1:=H3.has.1.cell 1
 have f0:=H3.has.1.frozen 0
 have f1:=H3.has.1.frozen 1
 generalize sgn (!neg) (val xs)=z at *
 generalize hL:(limbs z.natAbs).length=L at *
 have HL:=Lib.hid hL
 have c0:=hq.1.cell 0
 have c1:=hq.1.cell 1
 have HQ:=Lib.hid hq
 clear hq H3 H2 hsl ho hb1 a0 a1 hL
 go_wp2_with fail
 exact bodyPost_ret (v:=.agg #[.bool (isNeg z),.slice R L d]) (by simp [results,Tryz.results101,go_sem,c0,c1]) rfl ⟨R,d,by rw [HL.out],by rw [HL.out];exact HQ.out.2.1,HQ.out.2.2⟩
set_option maxRecDepth 100000 in
set_option maxHeartbeats 400000 in
theorem rint_sign (neg:Bool) (A:Option Addr) (n c:Nat) (xs:List Nat) (w:World) (h:Sl eU w A n xs) (hc:n≤c) (hl:L32 xs) (hb:n * 4≤140737488351232) :
 Calls Tryz.prog 31 #[.agg #[.bool neg,.slice A n c]] w fun e w'=>e=.returned (.int .i64 (sgnI (sgn neg (val xs))))∧Below w.heap.size w w':=by
 have H1:=((Held.init w).sl h).new 34 [.bool neg,.slice A n c]
 have a0:=H1.has.1.cell 0
 have a1:=H1.has.1.cell 1
 have hsl:=H1.has.2.1
 clear h
 go_enter Tryz.func31,Tryz.ntmps31
 go_wp2_with fail
 refine (rint_norm neg A n c xs _ hsl hc hl hb).mono ?_
 rintro e w1 ⟨R,d,rfl,ho,hb1⟩
 generalize hzv:sgn neg (val xs)=z at *
 have HZ:=Lib.hid hzv
 clear hzv
 have hlen:(limbs z.natAbs).length=0 ↔ z=0:=by
  rw [List.length_eq_zero_iff,limbs_nil];omega
 generalize (limbs z.natAbs).length=L at *
 have HF:=Lib.hid (And.intro hlen ((H1.step hb1).bel.trans ((Below.refl w1.heap.size w1).alloc (Nat.le_refl _) (.cells #[.bool (isNeg z),.slice R L d] 34) |>.mono (H1.step hb1).bel.size)))
 have hnew:=RowC.new w1 34 [.bool (isNeg z),.slice R L d]
 have c0:=hnew.cell 0
 have c1:=hnew.cell 1
 clear ho hb1 hnew H1 a0 a1 hsl
 by_cases hz:z=0
 ·have hL:L=0:=hlen.2 hz
  have HE:=Lib.hid (show sgnI (sgn neg (val xs))=0 by rw [HZ.out,hz];rfl)
  subst hL
  clear hlen hz
  go_wp2_with fail
  go_ret
  exact ⟨by rw [HE.out];rfl,HF.out.2⟩
 ·have hL:L ≠ 0:=fun h=>hz (hlen.1 h)
  have i1:¬ (L:Int)=0:=by omega
  have i2:((L:Int) == 0)=false:=beq_eq_false_iff_ne.2 i1
  clear hlen
  by_cases hn:z < 0
  ·have e1:isNeg z=true:=decide_eq_true hn
   have e2:sgnI (sgn neg (val xs))=-1:=by rw [HZ.out];unfold sgnI;rw [if_pos hn]
   have HE:=Lib.hid e2
   rw [e1] at c0 ⊢
   rw [e1] at HF
   clear e1 e2
   go_wp2_with fail
   go_ret
   exact ⟨by rw [HE.out];rfl,HF.out.2⟩
  ·have e1:isNeg z=false:=decide_eq_false hn
   have e2:sgnI (sgn neg (val xs))=1:=by rw [HZ.out];unfold sgnI;rw [if_neg hn,if_neg hz]
   have HE:=Lib.hid e2
   rw [e1] at c0 ⊢
   rw [e1] at HF
   clear e1 e2
   go_wp2_with fail
   go_ret
   exact ⟨by rw [HE.out];rfl,HF.out.2⟩
end Go.Proofs.YtmncjibcoffmfaaGreat
