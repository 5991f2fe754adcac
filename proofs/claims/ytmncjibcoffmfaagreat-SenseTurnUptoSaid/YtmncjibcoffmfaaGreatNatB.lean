/- nat.Cmp, Add, less, Sub, Mul and small, walked. Conditions: the slices read as limbs, within Go's bound together. -/
import Derived.Test.YtmncjibcoffmfaaGreatNatA
import Derived.Test.YtmncjibcoffmfaaGreatJ6
set_option linter.unusedVariables false
set_option linter.unusedSimpArgs false
namespace Go.Proofs.YtmncjibcoffmfaaGreat
open Go.RowKit

theorem sl_atU {w:World} {b o n:Nat} {xs:List Nat} (h:Sl eU w (some ⟨b,o,none⟩) n xs) {i:Nat} (hi:i < n):w.cell? ⟨b,o + i,none⟩=some (.int .u32 ((nth xs i:Nat):Int)):=by
 obtain ⟨b',o',e,_,hc⟩:=h.at' (by omega)
 injection e with e
 injection e with e1 e2 _
 subst e1 e2
 exact hc i hi
theorem sl_someU {w:World} {A:Option Addr} {n:Nat} {xs:List Nat} (h:Sl eU w A n xs) (hi:0 < n):∃ b o,A=some ⟨b,o,none⟩:=by
 obtain ⟨b',o',e,_,hc⟩:=h.at' (by omega)
 exact ⟨b',o',e⟩
theorem limbs_cmp_lt {a b i m:Nat} (ha:(limbs a).length=m) (hb:(limbs b).length=m) (hi:i < m) (he:∀ j,i < j→j < m→nth (limbs a) j=nth (limbs b) j) (h:nth (limbs a) i < nth (limbs b) i):a < b:=by
 have:=vTo_top (limbs_L32 a) hi he h
 rwa [vTo_all (Nat.le_of_eq ha),vTo_all (Nat.le_of_eq hb),val_limbs,val_limbs] at this
theorem limbs_cmp_eq {a b m:Nat} (ha:(limbs a).length=m) (hb:(limbs b).length=m) (he:∀ j,j < m→nth (limbs a) j=nth (limbs b) j):a=b:=
 limbs_inj (nth_ext (by omega) (fun j hj=>he j (by omega)))
set_option maxRecDepth 100000 in
set_option maxHeartbeats 800000 in
theorem nat_cmp (A B:Option Addr) (n c m d:Nat) (xs ys:List Nat) (w:World) (h:Sl eU w A n xs) (hc:n≤c) (hl:L32 xs) (k:Sl eU w B m ys) (kc:m≤d) (kl:L32 ys) :
 Calls Tryz.prog 80 #[.slice A n c,.slice B m d] w fun e w'=>e=.returned (.int .i64 (cmpN (val xs) (val ys)))∧∃ q,w'=w.drewN q:=by
 have ht:=h.trimV hl
 have kt:=k.trimV kl
 obtain ⟨wa,hwa⟩:∃ wa:World,wa=w:=⟨_,rfl⟩
 subst hwa
 go_enter Tryz.func80,Tryz.ntmps80
 go_wp2_with fail
 refine (nat_trim A n c xs _ h hc hl).mono ?_
 rintro e w1 ⟨rfl,rfl⟩
 go_wp2_with fail
 refine (nat_trim B m d ys _ k kc kl).mono ?_
 rintro e w1 ⟨rfl,rfl⟩
 clear h k hc kc hl kl
 generalize hva:val xs=a at *
 generalize hvb:val ys=b at *
 have HA:=Lib.hid (And.intro hva hvb)
 clear hva hvb
 generalize hp:(limbs a).length=p at *
 generalize hq:(limbs b).length=q at *
 have hbig:=ht.big
 have hbig2:=kt.big
 rcases Nat.lt_trichotomy p q with hpq | hpq | hpq
 ·have hr:cmpN a b=-1:=cmpN_lt (limbs_fewer (by omega))
  have HR:=Lib.hid hr
  have i1:¬ p=q:=by omega
  have i2:(p:Int) < (q:Nat):=by omega
  have i3:((p:Int) == (q:Nat))=false:=by simp;omega
  clear hr hp hq ht kt
  go_wp2_with fail
  go_ret
  exact ⟨ret_int (by rw [HA.out.1,HA.out.2,HR.out]),0,rfl⟩
 ·subst hpq
  have HP:=Lib.hid (And.intro hp hq)
  clear hp hq
  go_wp2_with fail
  go_loopw [5] (fun v wr=>∃ t g:Nat,v=.int .i64 ((t:Int) - 1)∧t≤p∧(∀ j,t≤j→j < p→nth (limbs a) j=nth (limbs b) j)∧wr=wa.drewN g) (fun v _=>(intOf v + 1).toNat)
  case atStart=>exact ⟨p,0,rfl,Nat.le_refl _,fun j h1 h2=>by omega,rfl⟩
  case round =>
   obtain ⟨t,g,rfl,htp,heq,hwr⟩:=hrel
   have HE:=Lib.hid (And.intro heq hwr)
   clear heq hwr
   rcases t with _ | s
   ·have hr:cmpN a b=0:=cmpN_eq (limbs_cmp_eq HP.out.1 HP.out.2 (fun j hj=>HE.out.1 j (Nat.zero_le _) hj))
    have HR:=Lib.hid hr
    clear hr
    go_wp2_with fail
    go_ret
    exact ⟨ret_int (by rw [HA.out.1,HA.out.2,HR.out]),g,HE.out.2⟩
   ·rw [show (((s + 1:Nat):Int) - 1)=(s:Int) by omega]
    have hsp:s < p:=htp
    have ht2:Sl eU wr A p (limbs a):=by rw [HE.out.2];exact ht.drewN g
    have kt2:Sl eU wr B p (limbs b):=by rw [HE.out.2];exact kt.drewN g
    obtain ⟨b1,o1,rfl⟩:=sl_someU ht2 (by omega)
    obtain ⟨b2,o2,rfl⟩:=sl_someU kt2 (by omega)
    have g1:=sl_atU ht2 hsp
    have g2:=sl_atU kt2 hsp
    have i1:(s:Int) < (p:Nat):=by omega
    have i2:(0:Int)≤(s:Nat):=by omega
    have hcase:∀ x y,nth (limbs a) s=x→nth (limbs b) s=y→(x < y→cmpN a b=-1)∧(y < x→cmpN a b=1):=fun x y hx hy =>
     ⟨fun h=>cmpN_lt (limbs_cmp_lt HP.out.1 HP.out.2 hsp (fun j h1 h2=>HE.out.1 j h1 h2) (by rw [hx,hy];exact h)),
      fun h=>cmpN_gt (limbs_cmp_lt HP.out.2 HP.out.1 hsp (fun j h1 h2=>(HE.out.1 j h1 h2).symm) (by rw [hx,hy];exact h))⟩
    generalize hx:nth (limbs a) s=x at *
    generalize hy:nth (limbs b) s=y at *
    have HC:=Lib.hid (And.intro (hcase x y rfl rfl) (And.intro hx hy))
    clear hcase hx hy ht2 kt2
    rcases Nat.lt_trichotomy x y with hxy | hxy | hxy
    ·have HR:=Lib.hid (HC.out.1.1 hxy)
     have j1:decide (x < y)=true:=by simp;omega
     have j2:decide ((x:Int) < (y:Nat))=true:=by simp;omega
     go_wp2_with fail
     go_quiet (fail)
     go_wp2_with fail
     go_ret
     exact ⟨ret_int (by rw [HA.out.1,HA.out.2,HR.out]),g + nq,by rw [HE.out.2,World.drewN_drewN]⟩
    ·subst hxy
     have j1:decide (x < x)=false:=by simp
     have j2:decide ((x:Int) < (x:Nat))=false:=by simp
     go_wp2_with fail
     go_quiet (fail)
     obtain ⟨wq,hwq⟩:∃ wq:World,wq=wr.drewN nq:=⟨_,rfl⟩
     rw [← hwq]
     have g1:wq.cell? ⟨b1,o1 + s,none⟩=some (.int .u32 (x:Int)):=by rw [hwq];exact g1
     have g2:wq.cell? ⟨b2,o2 + s,none⟩=some (.int .u32 (x:Int)):=by rw [hwq];exact g2
     have HW:=Lib.hid hwq
     clear hwq
     go_wp2_with fail
     go_quiet (fail)
     go_wp2_with fail
     exact ⟨⟨s,_,by first | rfl | go_num,by omega,fun j h1 h2=>by
      rcases Nat.eq_or_lt_of_le h1 with rfl | h3
      ·rw [HC.out.2.1,HC.out.2.2]
      ·exact HE.out.1 j h3 h2,by rw [HW.out,HE.out.2,World.drewN_drewN];exact World.drewN_drewN _ _ _⟩,by simp [intOf]⟩
    ·have HR:=Lib.hid (HC.out.1.2 hxy)
     have j1:decide (x < y)=false:=by simp;omega
     have j2:decide ((x:Int) < (y:Nat))=false:=by simp;omega
     have j3:decide (y < x)=true:=by simp;omega
     have j4:decide ((y:Int) < (x:Nat))=true:=by simp;omega
     go_wp2_with fail
     go_quiet (fail)
     obtain ⟨wq,hwq⟩:∃ wq:World,wq=wr.drewN nq:=⟨_,rfl⟩
     rw [← hwq]
     have g1:wq.cell? ⟨b1,o1 + s,none⟩=some (.int .u32 (x:Int)):=by rw [hwq];exact g1
     have g2:wq.cell? ⟨b2,o2 + s,none⟩=some (.int .u32 (y:Int)):=by rw [hwq];exact g2
     have HW:=Lib.hid hwq
     clear hwq
     go_wp2_with fail
     go_quiet (fail)
     go_wp2_with fail
     go_ret
     exact ⟨ret_int (by rw [HA.out.1,HA.out.2,HR.out]),_,by rw [HW.out,HE.out.2,World.drewN_drewN,World.drewN_drewN]⟩
 ·have hr:cmpN a b=1:=cmpN_gt (limbs_fewer (by omega))
  have HR:=Lib.hid hr
  have i1:¬ p=q:=by omega
  have i2:¬ (p:Int) < (q:Nat):=by omega
  have i3:((p:Int) == (q:Nat))=false:=by simp;omega
  clear hr hp hq ht kt
  go_wp2_with fail
  go_ret
  exact ⟨ret_int (by rw [HA.out.1,HA.out.2,HR.out]),0,rfl⟩
theorem RowAt.slAll {w:World} {g:Nat} {e:TypeId} {xs:List Nat} {rest:List Value} (h:RowAt eU w g e xs rest) {n:Nat} (hn:xs.length=n) (hbig:n≤140737488351232):Sl eU w (some ⟨g,0,none⟩) n xs:=by subst hn;exact h.sl hbig
set_option maxRecDepth 100000 in
set_option maxHeartbeats 800000 in
theorem nat_add (A B:Option Addr) (n c m d:Nat) (xs ys:List Nat) (w:World) (h:Sl eU w A n xs) (hc:n≤c) (hl:L32 xs) (k:Sl eU w B m ys) (kc:m≤d) (kl:L32 ys) (hb:(n + m + 1) * 4≤140737488351232) :
 Calls Tryz.prog 85 #[.slice A n c,.slice B m d] w (NatPost (val xs + val ys) w):=by
 have ht:=h.trimV hl
 have kt:=k.trimV kl
 have hle:(limbs (val xs)).length≤n:=by rw [limbs_val hl];have:=trimL_length xs;rw [h.len] at this;exact this
 have kle:(limbs (val ys)).length≤m:=by rw [limbs_val kl];have:=trimL_length ys;rw [k.len] at this;exact this
 obtain ⟨wa,hwa⟩:∃ wa:World,wa=w:=⟨_,rfl⟩
 subst hwa
 obtain ⟨S,hS⟩:∃ S,S=val xs + val ys:=⟨_,rfl⟩
 rw [← hS]
 go_enter Tryz.func85,Tryz.ntmps85
 go_wp2_with fail
 refine (nat_trim A n c xs _ h hc hl).mono ?_
 rintro e w1 ⟨rfl,rfl⟩
 go_wp2_with fail
 refine (nat_trim B m d ys _ k kc kl).mono ?_
 rintro e w1 ⟨rfl,rfl⟩
 clear h k hl kl
 generalize hva:val xs=a at *
 generalize hvb:val ys=b at *
 generalize hp:(limbs a).length=p at *
 generalize hq:(limbs b).length=q at *
 have hsum:S=a + b:=hS
 clear hS
 have hbd:p + q≤n + m:=by omega
 clear hva hvb hle kle
 rcases Nat.lt_or_ge p q with hpq | hpq
 case' inl =>
  obtain ⟨A1,e1⟩:∃ x,x=B:=⟨_,rfl⟩
  obtain ⟨B1,e2⟩:∃ x,x=A:=⟨_,rfl⟩
  obtain ⟨p1,e3⟩:∃ x,x=q:=⟨_,rfl⟩
  obtain ⟨q1,e4⟩:∃ x,x=p:=⟨_,rfl⟩
  obtain ⟨c1,e5⟩:∃ x,x=d:=⟨_,rfl⟩
  obtain ⟨d1,e6⟩:∃ x,x=c:=⟨_,rfl⟩
  obtain ⟨a1,e7⟩:∃ x,x=b:=⟨_,rfl⟩
  obtain ⟨b1,e8⟩:∃ x,x=a:=⟨_,rfl⟩
  obtain ⟨ht1,e9⟩:∃ x:Sl eU wa B q (limbs b),x=kt:=⟨_,rfl⟩
  obtain ⟨kt1,e10⟩:∃ x:Sl eU wa A p (limbs a),x=ht:=⟨_,rfl⟩
  clear e9 e10 ht kt
  subst e1 e2 e3 e4 e5 e6 e7 e8
  have i1:(q1:Int) < (p1:Nat):=by omega
  have hle1:q1≤p1:=by omega
  have HP:=Lib.hid (And.intro hq (And.intro hp (show S=a1 + b1 by omega)))
  clear hp hq hsum
  go_wp2_with (first
   | (refine wpList_mk _ eiNat eU 0 rfl rfl _ _ rfl (p1 + 1) rfl rfl (by omega) ?_)
   | fail)
  intro w2 hr hb2
  have HB:=Lib.hid (And.intro hr hb2)
  clear hr hb2
  go_wp2_with fail
 case' inr =>
  obtain ⟨A1,e1⟩:∃ x,x=A:=⟨_,rfl⟩
  obtain ⟨B1,e2⟩:∃ x,x=B:=⟨_,rfl⟩
  obtain ⟨p1,e3⟩:∃ x,x=p:=⟨_,rfl⟩
  obtain ⟨q1,e4⟩:∃ x,x=q:=⟨_,rfl⟩
  obtain ⟨c1,e5⟩:∃ x,x=c:=⟨_,rfl⟩
  obtain ⟨d1,e6⟩:∃ x,x=d:=⟨_,rfl⟩
  obtain ⟨a1,e7⟩:∃ x,x=a:=⟨_,rfl⟩
  obtain ⟨b1,e8⟩:∃ x,x=b:=⟨_,rfl⟩
  obtain ⟨ht1,e9⟩:∃ x:Sl eU wa A p (limbs a),x=ht:=⟨_,rfl⟩
  obtain ⟨kt1,e10⟩:∃ x:Sl eU wa B q (limbs b),x=kt:=⟨_,rfl⟩
  clear e9 e10 ht kt
  subst e1 e2 e3 e4 e5 e6 e7 e8
  have i1:¬ (p1:Int) < (q1:Nat):=by omega
  have hle1:q1≤p1:=by omega
  have HP:=Lib.hid (And.intro hp (And.intro hq (show S=a1 + b1 by omega)))
  clear hp hq hsum
  go_wp2_with (first
   | (refine wpList_mk _ eiNat eU 0 rfl rfl _ _ rfl (p1 + 1) rfl rfl (by omega) ?_)
   | fail)
  intro w2 hr hb2
  have HB:=Lib.hid (And.intro hr hb2)
  clear hr hb2
  go_wp2_with fail
 all_goals
  clear i1 hpq
  have hG:wa.heap.size < w2.heap.size:=HB.out.1.lt
  have HT:=Lib.hid (And.intro ht1 kt1)
  clear ht1 kt1
  go_loopw [6,26] (fun cv iv wr=>∃ (i cc:Nat) (s:List Nat),cv=.int .u64 (cc:Int)∧iv=.int .i64 (i:Nat)∧i≤p1∧SumAt (limbs a1) (limbs b1) s (p1 + 1) i cc∧RowAt eU wr wa.heap.size 54 s []∧Below wa.heap.size wa wr) (fun _ iv _=>p1 - (intOf iv).toNat)
  case atStart=>exact ⟨0,0,_,rfl,rfl,Nat.zero_le _,SumAt.start _ _ _,HB.out.1,HB.out.2⟩
  case round =>
   obtain ⟨i,cc,s,rfl,rfl,hi,hS,hR,hB⟩:=hrel
   obtain ⟨wb,hwb⟩:∃ wb:World,wb=wr:=⟨_,rfl⟩
   subst hwb
   have hcc:=hS.c1
   have hsl:=hS.len
   have hGb:=hR.lt
   by_cases hlt:i < p1
   ·obtain ⟨ba,oa,rfl⟩:=sl_someU HT.out.1 (by omega)
    have g1:=sl_atU (HT.out.1.below (Nat.le_refl _) hB) hlt
    have hx:=(limbs_L32 a1).nth i
    have hst:=hS.step (limbs_L32 a1) (limbs_L32 b1) (by omega)
    have hy0:q1≤i→nth (limbs b1) i=0:=fun h=>nth_none (by rw [HP.out.2.1];exact h)
    have hy:=(limbs_L32 b1).nth i
    have hkt:=HT.out.2.below (Nat.le_refl _) hB
    have hrow:=hR.set (j:=i) (by omega) ((cc + nth (limbs a1) i + nth (limbs b1) i) % bB)
    have hbel:=hB.setCell (p:=⟨wa.heap.size,i,none⟩) (Nat.le_refl _) (eU ((cc + nth (limbs a1) i + nth (limbs b1) i) % bB))
    generalize nth (limbs a1) i=x at *
    generalize hye:nth (limbs b1) i=y at *
    have e1:eU ((cc + x + y) % bB)=.int .u32 (((cc:Int) + x + y) % 4294967296):=by unfold eU;rw [bB_eq];rfl
    rw [e1] at hrow hbel
    have e2:(((cc + x + y) / bB:Nat):Int)=((cc:Int) + x + y) / 4294967296:=by rw [bB_eq];omega
    have HS:=Lib.hid (And.intro hst (And.intro hrow (And.intro hbel e2)))
    have hx':(x:Int) < 4294967296:=by rw [bB_eq] at hx;omega
    have hy':(y:Int) < 4294967296:=by rw [bB_eq] at hy;omega
    have hlt':(i:Int) < (p1:Nat):=by omega
    have g3:=hR.cell (j:=i) (by omega)
    have g4:=hR.frozen i
    clear hst hrow hbel e1 e2 hS hR hx hy
    rcases Nat.lt_or_ge i q1 with hiq | hiq
    ·obtain ⟨bb,ob,rfl⟩:=sl_someU hkt (by omega)
     have g2:=sl_atU hkt hiq
     rw [hye] at g2
     have hiq':(i:Int) < (q1:Nat):=by omega
     clear hy0 hkt hye
     go_wp2_with fail
     exact ⟨⟨i + 1,_,_,by rw [HS.out.2.2.2],by go_num,by omega,HS.out.1,HS.out.2.1,HS.out.2.2.1⟩,by simp [intOf];omega⟩
    ·obtain rfl:y=0:=hy0 hiq
     have hiq':¬ (i:Int) < (q1:Nat):=by omega
     clear hy0 hkt hye
     have hz:=HS.out
     simp only [Int.natCast_zero,Int.add_zero,Nat.add_zero] at hz
     have HS:=Lib.hid hz
     clear hz
     go_wp2_with fail
     exact ⟨⟨i + 1,_,_,by rw [HS.out.2.2.2],by go_num,by omega,HS.out.1,HS.out.2.1,HS.out.2.2.1⟩,by simp [intOf];omega⟩
   ·obtain rfl:i=p1:=by omega
    have hdn:=hS.done (by rw [HP.out.1];exact Nat.le_refl _) (by rw [HP.out.2.1];exact hle1)
    rw [val_limbs,val_limbs,← HP.out.2.2] at hdn
    have hrow:=hR.set (j:=i) (by omega) cc
    have hbel:=hB.setCell (p:=⟨wa.heap.size,i,none⟩) (Nat.le_refl _) (eU cc)
    have hL:=(hS.l32.set (show cc < bB by rw [bB_eq];omega) i)
    unfold eU at hbel
    have hsl2:=hrow.slAll (n:=i + 1) (by simp;omega) (by omega)
    unfold eU at hsl2
    have HS:=Lib.hid (And.intro hbel (And.intro hdn hL))
    have g3:=hR.cell (j:=i) (by omega)
    have g4:=hR.frozen i
    have hsz:=hbel.size
    clear hS hR hrow hbel hdn hL
    go_wp2_with fail
    refine (nat_own _ (i + 1) (i + 1) (s.set i cc) _ hsl2 (Nat.le_refl _) HS.out.2.2 (by omega)).mono ?_
    rintro e wf ⟨R,dr,rfl,ho,hbf⟩
    rw [HS.out.2.1] at ho ⊢
    have HF:=Lib.hid (And.intro (ho.mono hsz) (HS.out.1.trans (hbf.mono hsz)))
    clear ho hbf
    go_wp2_with fail
    go_ret
    exact ⟨R,dr,rfl,HF.out.1,HF.out.2⟩
end Go.Proofs.YtmncjibcoffmfaaGreat
