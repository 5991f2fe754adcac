/- Joined by program out of: NatB, NatC. What each says stands at its own head. -/
import Derived.Test.YtgbmnlmnhbkdbaaGreatNatA
import Derived.Test.YtgbmnlmnhbkdbaaGreatNatStep
import Derived.Deep.DeepCutAuto
import Derived.Deep.CutBlock
import Derived.Laws.Bits64b
set_option linter.unusedVariables false
set_option linter.unusedSimpArgs false
/- nat.Cmp, Add, less, Sub, Mul and small, walked. Conditions: the slices read as limbs, within Go's bound together. -/
namespace Go.Proofs.YtgbmnlmnhbkdbaaGreat
open Go.RowKit

theorem sl_atU {w:World} {b o n:Nat} {xs:List Nat} (h:Sl eU w (some ⟨b,o,none⟩) n xs) {i:Nat} (hi:i < n):w.cell? ⟨b,o + i,none⟩=some (.int .u32 ((nth xs i:Nat):Int)):=by
 obtain ⟨b',o',e,_,hc⟩:=h.at' (by omega)
 injection e with e
 injection e with e1 e2 _
 subst e1 e2
 exact hc i hi
theorem sl_someU {w:World} {A:Option Addr} {n:Nat} {xs:List Nat} (h:Sl eU w A n xs) (hi:0 < n):∃ b o,A=some ⟨b,o,none⟩:=by
 obtain ⟨b',o',e,_,hc⟩:=h.at' (by omega)
 exact ⟨b',o',e⟩
theorem limbs_cmp_lt {a b i m:Nat} (ha:(limbs a).length=m) (hb:(limbs b).length=m) (hi:i < m) (he:∀ j,i < j→j < m→nth (limbs a) j=nth (limbs b) j) (h:nth (limbs a) i < nth (limbs b) i):a < b:=by
 have:=vTo_top (limbs_L32 a) hi he h
 rwa [vTo_all (Nat.le_of_eq ha),vTo_all (Nat.le_of_eq hb),val_limbs,val_limbs] at this
theorem limbs_cmp_eq {a b m:Nat} (ha:(limbs a).length=m) (hb:(limbs b).length=m) (he:∀ j,j < m→nth (limbs a) j=nth (limbs b) j):a=b:=
 limbs_inj (nth_ext (by omega) (fun j hj=>he j (by omega)))
set_option maxRecDepth 100000 in
set_option maxHeartbeats 800000 in
theorem nat_cmp (A B:Option Addr) (n c m d:Nat) (xs ys:List Nat) (w:World) (h:Sl eU w A n xs) (hc:n≤c) (hl:L32 xs) (k:Sl eU w B m ys) (kc:m≤d) (kl:L32 ys) :
 Calls Tryz.prog 41 #[.slice A n c,.slice B m d] w fun e w'=>e=.returned (.int .i64 (cmpN (val xs) (val ys)))∧∃ q,w'=w.drewN q:=by
 have ht:=h.trimV hl
 have kt:=k.trimV kl
 obtain ⟨wa,hwa⟩:∃ wa:World,wa=w:=⟨_,rfl⟩
 subst hwa
 go_enter Tryz.func41,Tryz.ntmps41
 go_wp2_with fail
 refine (nat_trim A n c xs _ h hc hl).mono ?_
 rintro e w1 ⟨rfl,rfl⟩
 go_wp2_with fail
 refine (nat_trim B m d ys _ k kc kl).mono ?_
 rintro e w1 ⟨rfl,rfl⟩
 clear h k hc kc hl kl
 generalize hva:val xs=a at *
 generalize hvb:val ys=b at *
 have HA:=Lib.hid (And.intro hva hvb)
 clear hva hvb
 generalize hp:(limbs a).length=p at *
 generalize hq:(limbs b).length=q at *
 have hbig:=ht.big
 have hbig2:=kt.big
 rcases Nat.lt_trichotomy p q with hpq | hpq | hpq
 ·have hr:cmpN a b=-1:=cmpN_lt (limbs_fewer (by omega))
  have HR:=Lib.hid hr
  have i1:¬ p=q:=by omega
  have i2:(p:Int) < (q:Nat):=by omega
  have i3:((p:Int) == (q:Nat))=false:=by simp;omega
  clear hr hp hq ht kt
  go_wp2_with fail
  go_ret
  exact ⟨ret_int (by rw [HA.out.1,HA.out.2,HR.out]),0,rfl⟩
 ·subst hpq
  have HP:=Lib.hid (And.intro hp hq)
  clear hp hq
  go_wp2_with fail
  go_loopw [5] (fun v wr=>∃ t g:Nat,v=.int .i64 ((t:Int) - 1)∧t≤p∧(∀ j,t≤j→j < p→nth (limbs a) j=nth (limbs b) j)∧wr=wa.drewN g) (fun v _=>(intOf v + 1).toNat)
  case atStart=>exact ⟨p,0,rfl,Nat.le_refl _,fun j h1 h2=>by omega,rfl⟩
  case round =>
   obtain ⟨t,g,rfl,htp,heq,hwr⟩:=hrel
   have HE:=Lib.hid (And.intro heq hwr)
   clear heq hwr
   rcases t with _ | s
   ·have hr:cmpN a b=0:=cmpN_eq (limbs_cmp_eq HP.out.1 HP.out.2 (fun j hj=>HE.out.1 j (Nat.zero_le _) hj))
    have HR:=Lib.hid hr
    clear hr
    go_wp2_with fail
    go_ret
    exact ⟨ret_int (by rw [HA.out.1,HA.out.2,HR.out]),g,HE.out.2⟩
   ·rw [show (((s + 1:Nat):Int) - 1)=(s:Int) by omega]
    have hsp:s < p:=htp
    have ht2:Sl eU wr A p (limbs a):=by rw [HE.out.2];exact ht.drewN g
    have kt2:Sl eU wr B p (limbs b):=by rw [HE.out.2];exact kt.drewN g
    obtain ⟨b1,o1,rfl⟩:=sl_someU ht2 (by omega)
    obtain ⟨b2,o2,rfl⟩:=sl_someU kt2 (by omega)
    have g1:=sl_atU ht2 hsp
    have g2:=sl_atU kt2 hsp
    have i1:(s:Int) < (p:Nat):=by omega
    have i2:(0:Int)≤(s:Nat):=by omega
    have hcase:∀ x y,nth (limbs a) s=x→nth (limbs b) s=y→(x < y→cmpN a b=-1)∧(y < x→cmpN a b=1):=fun x y hx hy =>
     ⟨fun h=>cmpN_lt (limbs_cmp_lt HP.out.1 HP.out.2 hsp (fun j h1 h2=>HE.out.1 j h1 h2) (by rw [hx,hy];exact h)),
      fun h=>cmpN_gt (limbs_cmp_lt HP.out.2 HP.out.1 hsp (fun j h1 h2=>(HE.out.1 j h1 h2).symm) (by rw [hx,hy];exact h))⟩
    generalize hx:nth (limbs a) s=x at *
    generalize hy:nth (limbs b) s=y at *
    have HC:=Lib.hid (And.intro (hcase x y rfl rfl) (And.intro hx hy))
    clear hcase hx hy ht2 kt2
    rcases Nat.lt_trichotomy x y with hxy | hxy | hxy
    ·have HR:=Lib.hid (HC.out.1.1 hxy)
     have j1:decide (x < y)=true:=by simp;omega
     have j2:decide ((x:Int) < (y:Nat))=true:=by simp;omega
     go_wp2_with fail
     go_quiet (fail)
     go_wp2_with fail
     go_ret
     exact ⟨ret_int (by rw [HA.out.1,HA.out.2,HR.out]),g + nq,by rw [HE.out.2,World.drewN_drewN]⟩
    ·subst hxy
     have j1:decide (x < x)=false:=by simp
     have j2:decide ((x:Int) < (x:Nat))=false:=by simp
     go_wp2_with fail
     go_quiet (fail)
     obtain ⟨wq,hwq⟩:∃ wq:World,wq=wr.drewN nq:=⟨_,rfl⟩
     rw [← hwq]
     have g1:wq.cell? ⟨b1,o1 + s,none⟩=some (.int .u32 (x:Int)):=by rw [hwq];exact g1
     have g2:wq.cell? ⟨b2,o2 + s,none⟩=some (.int .u32 (x:Int)):=by rw [hwq];exact g2
     have HW:=Lib.hid hwq
     clear hwq
     go_wp2_with fail
     go_quiet (fail)
     go_wp2_with fail
     exact ⟨⟨s,_,by first | rfl | go_num,by omega,fun j h1 h2=>by
      rcases Nat.eq_or_lt_of_le h1 with rfl | h3
      ·rw [HC.out.2.1,HC.out.2.2]
      ·exact HE.out.1 j h3 h2,by rw [HW.out,HE.out.2,World.drewN_drewN];exact World.drewN_drewN _ _ _⟩,by simp [intOf]⟩
    ·have HR:=Lib.hid (HC.out.1.2 hxy)
     have j1:decide (x < y)=false:=by simp;omega
     have j2:decide ((x:Int) < (y:Nat))=false:=by simp;omega
     have j3:decide (y < x)=true:=by simp;omega
     have j4:decide ((y:Int) < (x:Nat))=true:=by simp;omega
     go_wp2_with fail
     go_quiet (fail)
     obtain ⟨wq,hwq⟩:∃ wq:World,wq=wr.drewN nq:=⟨_,rfl⟩
     rw [← hwq]
     have g1:wq.cell? ⟨b1,o1 + s,none⟩=some (.int .u32 (x:Int)):=by rw [hwq];exact g1
     have g2:wq.cell? ⟨b2,o2 + s,none⟩=some (.int .u32 (y:Int)):=by rw [hwq];exact g2
     have HW:=Lib.hid hwq
     clear hwq
     go_wp2_with fail
     go_quiet (fail)
     go_wp2_with fail
     go_ret
     exact ⟨ret_int (by rw [HA.out.1,HA.out.2,HR.out]),_,by rw [HW.out,HE.out.2,World.drewN_drewN,World.drewN_drewN]⟩
 ·have hr:cmpN a b=1:=cmpN_gt (limbs_fewer (by omega))
  have HR:=Lib.hid hr
  have i1:¬ p=q:=by omega
  have i2:¬ (p:Int) < (q:Nat):=by omega
  have i3:((p:Int) == (q:Nat))=false:=by simp;omega
  clear hr hp hq ht kt
  go_wp2_with fail
  go_ret
  exact ⟨ret_int (by rw [HA.out.1,HA.out.2,HR.out]),0,rfl⟩
theorem RowAt.slAll {w:World} {g:Nat} {e:TypeId} {xs:List Nat} {rest:List Value} (h:RowAt eU w g e xs rest) {n:Nat} (hn:xs.length=n) (hbig:n≤140737488351232):Sl eU w (some ⟨g,0,none⟩) n xs:=by subst hn;exact h.sl hbig
set_option maxRecDepth 100000 in
set_option maxHeartbeats 800000 in
theorem nat_add (A B:Option Addr) (n c m d:Nat) (xs ys:List Nat) (w:World) (h:Sl eU w A n xs) (hc:n≤c) (hl:L32 xs) (k:Sl eU w B m ys) (kc:m≤d) (kl:L32 ys) (hb:(n + m + 1) * 4≤140737488351232) :
 Calls Tryz.prog 53 #[.slice A n c,.slice B m d] w (NatPost (val xs + val ys) w):=by
 have ht:=h.trimV hl
 have kt:=k.trimV kl
 have hle:(limbs (val xs)).length≤n:=by rw [limbs_val hl];have:=trimL_length xs;rw [h.len] at this;exact this
 have kle:(limbs (val ys)).length≤m:=by rw [limbs_val kl];have:=trimL_length ys;rw [k.len] at this;exact this
 obtain ⟨wa,hwa⟩:∃ wa:World,wa=w:=⟨_,rfl⟩
 subst hwa
 obtain ⟨S,hS⟩:∃ S,S=val xs + val ys:=⟨_,rfl⟩
 rw [← hS]
 go_enter Tryz.func53,Tryz.ntmps53
 go_wp2_with fail
 refine (nat_trim A n c xs _ h hc hl).mono ?_
 rintro e w1 ⟨rfl,rfl⟩
 go_wp2_with fail
 refine (nat_trim B m d ys _ k kc kl).mono ?_
 rintro e w1 ⟨rfl,rfl⟩
 clear h k hl kl
 generalize hva:val xs=a at *
 generalize hvb:val ys=b at *
 generalize hp:(limbs a).length=p at *
 generalize hq:(limbs b).length=q at *
 have hsum:S=a + b:=hS
 clear hS
 have hbd:p + q≤n + m:=by omega
 clear hva hvb hle kle
 rcases Nat.lt_or_ge p q with hpq | hpq
 case' inl =>
  obtain ⟨A1,e1⟩:∃ x,x=B:=⟨_,rfl⟩
  obtain ⟨B1,e2⟩:∃ x,x=A:=⟨_,rfl⟩
  obtain ⟨p1,e3⟩:∃ x,x=q:=⟨_,rfl⟩
  obtain ⟨q1,e4⟩:∃ x,x=p:=⟨_,rfl⟩
  obtain ⟨c1,e5⟩:∃ x,x=d:=⟨_,rfl⟩
  obtain ⟨d1,e6⟩:∃ x,x=c:=⟨_,rfl⟩
  obtain ⟨a1,e7⟩:∃ x,x=b:=⟨_,rfl⟩
  obtain ⟨b1,e8⟩:∃ x,x=a:=⟨_,rfl⟩
  obtain ⟨ht1,e9⟩:∃ x:Sl eU wa B q (limbs b),x=kt:=⟨_,rfl⟩
  obtain ⟨kt1,e10⟩:∃ x:Sl eU wa A p (limbs a),x=ht:=⟨_,rfl⟩
  clear e9 e10 ht kt
  subst e1 e2 e3 e4 e5 e6 e7 e8
  have i1:(q1:Int) < (p1:Nat):=by omega
  have hle1:q1≤p1:=by omega
  have HP:=Lib.hid (And.intro hq (And.intro hp (show S=a1 + b1 by omega)))
  clear hp hq hsum
  go_wp2_with (first
   | (refine wpList_mk _ eiNat eU 0 rfl rfl _ _ rfl (p1 + 1) rfl rfl (by omega) ?_)
   | fail)
  intro w2 hr hb2
  have HB:=Lib.hid (And.intro hr hb2)
  clear hr hb2
  go_wp2_with fail
 case' inr =>
  obtain ⟨A1,e1⟩:∃ x,x=A:=⟨_,rfl⟩
  obtain ⟨B1,e2⟩:∃ x,x=B:=⟨_,rfl⟩
  obtain ⟨p1,e3⟩:∃ x,x=p:=⟨_,rfl⟩
  obtain ⟨q1,e4⟩:∃ x,x=q:=⟨_,rfl⟩
  obtain ⟨c1,e5⟩:∃ x,x=c:=⟨_,rfl⟩
  obtain ⟨d1,e6⟩:∃ x,x=d:=⟨_,rfl⟩
  obtain ⟨a1,e7⟩:∃ x,x=a:=⟨_,rfl⟩
  obtain ⟨b1,e8⟩:∃ x,x=b:=⟨_,rfl⟩
  obtain ⟨ht1,e9⟩:∃ x:Sl eU wa A p (limbs a),x=ht:=⟨_,rfl⟩
  obtain ⟨kt1,e10⟩:∃ x:Sl eU wa B q (limbs b),x=kt:=⟨_,rfl⟩
  clear e9 e10 ht kt
  subst e1 e2 e3 e4 e5 e6 e7 e8
  have i1:¬ (p1:Int) < (q1:Nat):=by omega
  have hle1:q1≤p1:=by omega
  have HP:=Lib.hid (And.intro hp (And.intro hq (show S=a1 + b1 by omega)))
  clear hp hq hsum
  go_wp2_with (first
   | (refine wpList_mk _ eiNat eU 0 rfl rfl _ _ rfl (p1 + 1) rfl rfl (by omega) ?_)
   | fail)
  intro w2 hr hb2
  have HB:=Lib.hid (And.intro hr hb2)
  clear hr hb2
  go_wp2_with fail
 all_goals
  clear i1 hpq
  have hG:wa.heap.size < w2.heap.size:=HB.out.1.lt
  have HT:=Lib.hid (And.intro ht1 kt1)
  clear ht1 kt1
  go_loopw [6,26] (fun cv iv wr=>∃ (i cc:Nat) (s:List Nat),cv=.int .u64 (cc:Int)∧iv=.int .i64 (i:Nat)∧i≤p1∧SumAt (limbs a1) (limbs b1) s (p1 + 1) i cc∧RowAt eU wr wa.heap.size 83 s []∧Below wa.heap.size wa wr) (fun _ iv _=>p1 - (intOf iv).toNat)
  case atStart=>exact ⟨0,0,_,rfl,rfl,Nat.zero_le _,SumAt.start _ _ _,HB.out.1,HB.out.2⟩
  case round =>
   obtain ⟨i,cc,s,rfl,rfl,hi,hS,hR,hB⟩:=hrel
   obtain ⟨wb,hwb⟩:∃ wb:World,wb=wr:=⟨_,rfl⟩
   subst hwb
   have hcc:=hS.c1
   have hsl:=hS.len
   have hGb:=hR.lt
   by_cases hlt:i < p1
   ·obtain ⟨ba,oa,rfl⟩:=sl_someU HT.out.1 (by omega)
    have g1:=sl_atU (HT.out.1.below (Nat.le_refl _) hB) hlt
    have hx:=(limbs_L32 a1).nth i
    have hst:=hS.step (limbs_L32 a1) (limbs_L32 b1) (by omega)
    have hy0:q1≤i→nth (limbs b1) i=0:=fun h=>nth_none (by rw [HP.out.2.1];exact h)
    have hy:=(limbs_L32 b1).nth i
    have hkt:=HT.out.2.below (Nat.le_refl _) hB
    have hrow:=hR.set (j:=i) (by omega) ((cc + nth (limbs a1) i + nth (limbs b1) i) % bB)
    have hbel:=hB.setCell (p:=⟨wa.heap.size,i,none⟩) (Nat.le_refl _) (eU ((cc + nth (limbs a1) i + nth (limbs b1) i) % bB))
    generalize nth (limbs a1) i=x at *
    generalize hye:nth (limbs b1) i=y at *
    have e1:eU ((cc + x + y) % bB)=.int .u32 (((cc:Int) + x + y) % 4294967296):=by unfold eU;rw [bB_eq];rfl
    rw [e1] at hrow hbel
    have e2:(((cc + x + y) / bB:Nat):Int)=((cc:Int) + x + y) / 4294967296:=by rw [bB_eq];omega
    have HS:=Lib.hid (And.intro hst (And.intro hrow (And.intro hbel e2)))
    have hx':(x:Int) < 4294967296:=by rw [bB_eq] at hx;omega
    have hy':(y:Int) < 4294967296:=by rw [bB_eq] at hy;omega
    have hlt':(i:Int) < (p1:Nat):=by omega
    have g3:=hR.cell (j:=i) (by omega)
    have g4:=hR.frozen i
    clear hst hrow hbel e1 e2 hS hR hx hy
    rcases Nat.lt_or_ge i q1 with hiq | hiq
    ·obtain ⟨bb,ob,rfl⟩:=sl_someU hkt (by omega)
     have g2:=sl_atU hkt hiq
     rw [hye] at g2
     have hiq':(i:Int) < (q1:Nat):=by omega
     clear hy0 hkt hye
     go_wp2_with fail
     exact ⟨⟨i + 1,_,_,by rw [HS.out.2.2.2],by go_num,by omega,HS.out.1,HS.out.2.1,HS.out.2.2.1⟩,by simp [intOf];omega⟩
    ·obtain rfl:y=0:=hy0 hiq
     have hiq':¬ (i:Int) < (q1:Nat):=by omega
     clear hy0 hkt hye
     have hz:=HS.out
     simp only [Int.natCast_zero,Int.add_zero,Nat.add_zero] at hz
     have HS:=Lib.hid hz
     clear hz
     go_wp2_with fail
     exact ⟨⟨i + 1,_,_,by rw [HS.out.2.2.2],by go_num,by omega,HS.out.1,HS.out.2.1,HS.out.2.2.1⟩,by simp [intOf];omega⟩
   ·obtain rfl:i=p1:=by omega
    have hdn:=hS.done (by rw [HP.out.1];exact Nat.le_refl _) (by rw [HP.out.2.1];exact hle1)
    rw [val_limbs,val_limbs,← HP.out.2.2] at hdn
    have hrow:=hR.set (j:=i) (by omega) cc
    have hbel:=hB.setCell (p:=⟨wa.heap.size,i,none⟩) (Nat.le_refl _) (eU cc)
    have hL:=(hS.l32.set (show cc < bB by rw [bB_eq];omega) i)
    unfold eU at hbel
    have hsl2:=hrow.slAll (n:=i + 1) (by simp;omega) (by omega)
    unfold eU at hsl2
    have HS:=Lib.hid (And.intro hbel (And.intro hdn hL))
    have g3:=hR.cell (j:=i) (by omega)
    have g4:=hR.frozen i
    have hsz:=hbel.size
    clear hS hR hrow hbel hdn hL
    go_wp2_with fail
    refine (nat_own _ (i + 1) (i + 1) (s.set i cc) _ hsl2 (Nat.le_refl _) HS.out.2.2 (by omega)).mono ?_
    rintro e wf ⟨R,dr,rfl,ho,hbf⟩
    rw [HS.out.2.1] at ho ⊢
    have HF:=Lib.hid (And.intro (ho.mono hsz) (HS.out.1.trans (hbf.mono hsz)))
    clear ho hbf
    go_wp2_with fail
    go_ret
    exact ⟨R,dr,rfl,HF.out.1,HF.out.2⟩
end Go.Proofs.YtgbmnlmnhbkdbaaGreat
/- nat.less, Sub, Mul and small, walked. Conditions: the slices read as limbs, within Go's bound together. -/
namespace Go.Proofs.YtgbmnlmnhbkdbaaGreat
open Go.RowKit

theorem OwnR.putM {α:Type} {enc:α→Value} {w:World} {base:Nat} {e:TypeId} {g n c:Nat} {xs:List α} (h:OwnR enc w base e (some ⟨g,0,none⟩) n c xs) {j:Nat} (hj:j < n) (v:α):OwnR enc (w.setCell ⟨g,j,none⟩ (enc v)) base e (some ⟨g,0,none⟩) n c (xs.set j v):=by
 obtain ⟨g',rest,e1,hb,hr,hc⟩:=h.row (by omega)
 injection e1 with e1
 injection e1 with e1
 subst e1
 have hl:=h.length
 exact OwnR.of_row' (hr.set (by rw [hl];exact hj) v) hb (by rw [List.length_set,hl];exact hc) h.capmax (by rw [List.length_set,hl])
theorem OwnR.at0 {α:Type} {enc:α→Value} {w:World} {base:Nat} {e:TypeId} {A:Option Addr} {n c:Nat} {xs:List α} (h:OwnR enc w base e A n c xs) (hn:0 < n):∃ g,A=some ⟨g,0,none⟩∧base≤g:=by
 obtain ⟨g,rest,e1,hb,_⟩:=h.row hn
 exact ⟨g,e1,hb⟩
theorem OwnR.cellM {w:World} {base:Nat} {e:TypeId} {g n c:Nat} {xs:List Nat} (h:OwnR eU w base e (some ⟨g,0,none⟩) n c xs) {j:Nat} (hj:j < n):w.cell? ⟨g,j,none⟩=some (.int .u32 ((nth xs j:Nat):Int))∧w.frozen? ⟨g,j,none⟩=false∧g < w.heap.size:=by
 obtain ⟨g',rest,e1,hb,hr,hc⟩:=h.row (by omega)
 injection e1 with e1
 injection e1 with e1
 subst e1
 have hl:=h.length
 exact ⟨hr.cell (by rw [hl];exact hj),hr.frozen j,hr.lt⟩

theorem or_high {r x:Nat} (hr:r < bB) (hx:x < bB):bits .or .u64 ((r:Int) * 4294967296) (x:Int)=(r:Int) * 4294967296 + (x:Int):=by
 have h1:((r:Int) * 4294967296)=((r * 4294967296:Nat):Int):=by omega
 rw [bB_eq] at hr hx
 rw [h1,bits_or_u64_nat _ _ (by omega) (by omega)]
 have h2:r * 4294967296 ||| x=r * 4294967296 + x:=by
  have:=Nat.shiftLeft_add_eq_or_of_lt (a:=r) (b:=x) (i:=32) (by omega)
  rw [Nat.shiftLeft_eq] at this
  exact this.symm
 rw [h2];omega
theorem wrap_sub32 (a b:Int):IntKind.u32.wrap (a - b % 4294967296)=(a - b) % 4294967296:=by
 unfold IntKind.wrap;simp [IntKind.signed,IntKind.bits]
theorem wrap_sub32' (a b:Int):IntKind.u32.wrap (a - b)=(a - b) % 4294967296:=by
 unfold IntKind.wrap;simp [IntKind.signed,IntKind.bits]
theorem less_cell {x t:Nat} (hx:x < bB) (ht:t≤bB):eU (lessD x t)=.int .u32 (((x:Int) - t) % 4294967296):=by
 unfold eU lessD;congr 1;rw [bB_eq] at *;omega
set_option maxRecDepth 100000 in
set_option maxHeartbeats 800000 in
theorem nat_less (base:Nat) (w0:World) (A B:Option Addr) (n c m d:Nat) (xs ys:List Nat) (w:World) (h:OwnR eU w base 83 A n c xs) (hl:L32 xs) (k:Sl eU w0 B m ys) (kl:L32 ys) (h0:w0.heap.size≤base) (hB:Below base w0 w) (hbase:base≤w.heap.size)
 (hmn:m≤n) (hle:val ys≤val xs) (hn:n≤140737488351232) :
 Calls Tryz.prog 75 #[.slice A n c,.slice B m d] w fun e w'=>e=.returned (.tuple #[])∧(∃ s,OwnR eU w' base 83 A n c s∧L32 s∧val s=val xs - val ys)∧Below base w w':=by
 have hxl:=h.length
 have HK:=Lib.hid (And.intro k (And.intro k.len (And.intro hxl (And.intro hle (And.intro hl hB)))))
 obtain ⟨wa,hwa⟩:∃ wa:World,wa=w:=⟨_,rfl⟩
 subst hwa
 clear hB hle hxl k
 go_enter Tryz.func75,Tryz.ntmps75
 go_wp2_with fail
 go_loopw [4,9] (fun cv iv wr=>∃ (i cc:Nat) (s:List Nat),cv=.int .u64 (cc:Int)∧iv=.int .i64 (i:Nat)∧i≤n∧LessAt xs ys s i cc∧OwnR eU wr base 83 A n c s∧Below base wa wr) (fun _ iv _=>n - (intOf iv).toNat)
 case atStart=>exact ⟨0,0,_,rfl,rfl,Nat.zero_le _,LessAt.start hl,h,Below.refl _ _⟩
 case round =>
  obtain ⟨i,cc,s,rfl,rfl,hi,hS,hR,hbl⟩:=hrel
  obtain ⟨wb,hwb⟩:∃ wb:World,wb=wr:=⟨_,rfl⟩
  subst hwb
  have hcc:=hS.c1
  have hsl:=hS.len
  by_cases hlt:i < n
  ·obtain ⟨g,rfl,hgb⟩:=hR.at0 (by omega)
   obtain ⟨g1,g4,hgl⟩:=hR.cellM hlt
   have hrest:=hS.rest i (Nat.le_refl _)
   rw [hrest] at g1
   have hx:=hl.nth i
   have hy:=kl.nth i
   have hst:=hS.step hl kl (by rw [HK.out.2.2.1];exact hlt)
   have hy0:m≤i→nth ys i=0:=fun h=>nth_none (by rw [HK.out.2.1];exact h)
   have hkt:=(HK.out.1.below h0 (HK.out.2.2.2.2.2.trans hbl))
   have hrow:=hR.putM hlt (lessD (nth xs i) (cc + nth ys i))
   have hbel:=hbl.setCell (p:=⟨g,i,none⟩) hgb (eU (lessD (nth xs i) (cc + nth ys i)))
   generalize nth xs i=x at *
   generalize hye:nth ys i=y at *
   have hx':(x:Int) < 4294967296:=by rw [bB_eq] at hx;omega
   have hy':(y:Int) < 4294967296:=by rw [bB_eq] at hy;omega
   have hlt':(i:Int) < (n:Nat):=by omega
   have hcc':(cc:Int)≤1:=by omega
   have e1:=less_cell hx (show cc + y≤bB by omega)
   rw [Int.natCast_add] at e1
   rw [e1] at hrow hbel
   have w1:=wrap_sub32 (x:Int) ((cc:Int) + (y:Nat))
   have w2:=wrap_sub32' (x:Int) ((cc:Int) + (y:Nat))
   have HS:=Lib.hid (And.intro hst (And.intro hrow hbel))
   clear hst hrow hbel hS hR hx hy hrest h e1
   rcases Nat.lt_or_ge i m with hiq | hiq
   ·obtain ⟨bb,ob,rfl⟩:=sl_someU hkt (by omega)
    have g2:=sl_atU hkt hiq
    rw [hye] at g2
    have hiq':(i:Int) < (m:Nat):=by omega
    clear hy0 hkt hye
    by_cases hbo:x < cc + y
    ·have j1:decide ((x:Int) < (cc:Int) + (y:Nat))=true:=by simp;omega
     have hc:lessC x (cc + y)=1:=if_pos hbo
     rw [hc] at HS
     clear hc
     go_wp2_with fail
     exact ⟨⟨i + 1,1,_,rfl,by go_num,by omega,HS.out.1,HS.out.2.1,HS.out.2.2⟩,by simp [intOf];omega⟩
    ·have j1:decide ((x:Int) < (cc:Int) + (y:Nat))=false:=by simp;omega
     have hc:lessC x (cc + y)=0:=if_neg hbo
     rw [hc] at HS
     clear hc
     go_wp2_with fail
     exact ⟨⟨i + 1,0,_,rfl,by go_num,by omega,HS.out.1,HS.out.2.1,HS.out.2.2⟩,by simp [intOf];omega⟩
   ·obtain rfl:y=0:=hy0 hiq
    have hiq':¬ (i:Int) < (m:Nat):=by omega
    have hz:=HS.out
    simp only [Int.natCast_zero,Int.add_zero,Nat.add_zero] at hz w1 w2
    clear hy0 hkt hye HS
    by_cases hbo:x < cc
    ·have j1:decide ((x:Int) < (cc:Int))=true:=by simp;omega
     have j2:decide (x < cc)=true:=by simp;omega
     have hc:lessC x cc=1:=if_pos hbo
     rw [hc] at hz
     have HS:=Lib.hid hz
     clear hc hz
     go_wp2_with fail
     exact ⟨⟨i + 1,1,_,rfl,by go_num,by omega,HS.out.1,HS.out.2.1,HS.out.2.2⟩,by simp [intOf];omega⟩
    ·have j1:decide ((x:Int) < (cc:Int))=false:=by simp;omega
     have j2:decide (x < cc)=false:=by simp;omega
     have hc:lessC x cc=0:=if_neg hbo
     rw [hc] at hz
     have HS:=Lib.hid hz
     clear hc hz
     go_wp2_with fail
     exact ⟨⟨i + 1,0,_,rfl,by go_num,by omega,HS.out.1,HS.out.2.1,HS.out.2.2⟩,by simp [intOf];omega⟩
  ·have hin:i=n:=by omega
   have hS':=hS
   rw [hin,← HK.out.2.2.1] at hS'
   have hdn:=hS'.done (by rw [HK.out.2.1,HK.out.2.2.1];exact hmn) HK.out.2.2.2.1
   have hlt':¬ (i:Int) < (n:Nat):=by omega
   have HF:=Lib.hid (And.intro hR (And.intro hS.l32 (And.intro hdn hbl)))
   clear hR hS hS' hdn hbl h hin
   go_wp2_with fail
   go_end0
   exact ⟨rfl,⟨s,HF.out.1,HF.out.2.1,HF.out.2.2.1⟩,HF.out.2.2.2⟩
def SubPost (a b:Nat) (w:World) (e:Ending) (w':World):Prop:=
 ∃ R c,e=.returned (.tuple #[.slice R (limbs (a - b)).length c,.bool (decide (b≤a))])∧OwnR eU w' w.heap.size 83 R (limbs (a - b)).length c (limbs (a - b))∧Below w.heap.size w w'
set_option maxRecDepth 100000 in
set_option maxHeartbeats 800000 in
theorem nat_sub (A B:Option Addr) (n c m d:Nat) (xs ys:List Nat) (w:World) (h:Sl eU w A n xs) (hc:n≤c) (hl:L32 xs) (k:Sl eU w B m ys) (kc:m≤d) (kl:L32 ys) (hb:n * 4≤140737488351232) :
 Calls Tryz.prog 54 #[.slice A n c,.slice B m d] w (SubPost (val xs) (val ys) w):=by
 obtain ⟨wa,hwa⟩:∃ wa:World,wa=w:=⟨_,rfl⟩
 subst hwa
 obtain ⟨a,hva⟩:∃ a,a=val xs:=⟨_,rfl⟩
 obtain ⟨b,hvb⟩:∃ b,b=val ys:=⟨_,rfl⟩
 rw [← hva,← hvb]
 have ht:=h.trimV hl
 have kt:=k.trimV kl
 rw [← hva] at ht
 rw [← hvb] at kt
 have hle:(limbs a).length≤n:=by rw [hva,limbs_val hl];have:=trimL_length xs;rw [h.len] at this;exact this
 have HK:=Lib.hid (And.intro h (And.intro k (And.intro hva (And.intro hvb (And.intro ht kt)))))
 clear ht kt hva hvb
 go_enter Tryz.func54,Tryz.ntmps54
 go_wp2_with fail
 refine (nat_cmp A B n c m d xs ys _ h hc hl k kc kl).mono ?_
 rintro e w1 ⟨rfl,q,rfl⟩
 rw [← HK.out.2.2.1,← HK.out.2.2.2.1]
 clear h k
 have hs1:wa.heap.size≤(wa.drewN q).heap.size:=Nat.le_refl _
 have hB1:Below wa.heap.size wa (wa.drewN q):=below_refl_drewN _ _ _
 have HB:=Lib.hid hB1
 generalize wa.drewN q=w1 at *
 clear hB1
 rcases Nat.lt_or_ge a b with hab | hab
 ·rw [cmpN_lt hab]
  have hd:decide (b≤a)=false:=by simp;omega
  have h0:a - b=0:=by omega
  have HD:=Lib.hid (And.intro hd h0)
  clear hd h0
  go_wp2_with fail
  go_ret2
  exact ⟨none,0,by rw [HD.out.1,HD.out.2,limbs_zero];rfl,by rw [HD.out.2,limbs_zero];exact OwnR.nil _ _ _ _,HB.out⟩
 ·have hge:¬ cmpN a b < 0:=by unfold cmpN;split <;> (try split) <;> omega
  have hd:decide (b≤a)=true:=by simp;omega
  have HD:=Lib.hid hd
  generalize cmpN a b=cv at *
  have hge':decide (cv < 0)=false:=by simpa using hge
  clear hd
  have h1:=HK.out.1.below (Nat.le_refl _) HB.out
  have k1:=HK.out.2.1.below (Nat.le_refl _) HB.out
  go_wp2_with fail
  refine (nat_trim A n c xs _ h1 hc hl).mono ?_
  rintro e w2 ⟨rfl,rfl⟩
  rw [← HK.out.2.2.1]
  have ht1:=HK.out.2.2.2.2.1.below (Nat.le_refl _) HB.out
  clear h1
  go_wp2_with fail
  refine (clone_u A (limbs a).length c (limbs a) _ ht1 (by omega)).mono ?_
  rintro e w2 ⟨R,dr,rfl,ho,hb2⟩
  have k2:=k1.below (Nat.le_refl _) hb2
  have HC:=Lib.hid (And.intro (ho.mono hs1) (HB.out.trans (hb2.mono hs1)))
  have hs2:=HC.out.2.size
  clear k1 ht1 ho hb2
  go_wp2_with fail
  refine (nat_trim B m d ys _ k2 kc kl).mono ?_
  rintro e w3 ⟨rfl,rfl⟩
  rw [← HK.out.2.2.2.1]
  clear k2
  have hfew:(limbs b).length≤(limbs a).length:=by
   rcases Nat.lt_or_ge (limbs a).length (limbs b).length with h | h
   ·have:=limbs_fewer h;omega
   ·exact h
  go_wp2_with fail
  refine (nat_less wa.heap.size wa R B (limbs a).length dr (limbs b).length d (limbs a) (limbs b) _ HC.out.1 (limbs_L32 a) HK.out.2.2.2.2.2 (limbs_L32 b) (Nat.le_refl _) HC.out.2 hs2 hfew (by rw [val_limbs,val_limbs];exact hab) (by omega)).mono ?_
  rintro e w4 ⟨rfl,⟨s,ho,hs,hv⟩,hb4⟩
  rw [val_limbs,val_limbs] at hv
  have hsl:=ho.sl (by omega)
  have hcap:=ho.cap
  have HC4:=Lib.hid (And.intro (HC.out.2.trans hb4) hv)
  have hs4:=HC4.out.1.size
  clear ho hb4 hv
  go_wp2_with fail
  refine (nat_own R (limbs a).length dr s _ hsl hcap hs (by omega)).mono ?_
  rintro e w5 ⟨R5,d5,rfl,ho,hb5⟩
  rw [HC4.out.2] at ho ⊢
  have HF:=Lib.hid (And.intro (ho.mono hs4) (HC4.out.1.trans (hb5.mono hs4)))
  clear ho hb5
  go_wp2_with fail
  go_ret2
  exact ⟨R5,d5,by rw [HD.out];rfl,HF.out.1,HF.out.2⟩
set_option maxRecDepth 100000 in
set_option maxHeartbeats 800000 in
theorem nat_small (base:Nat) (A:Option Addr) (n c dv:Nat) (xs:List Nat) (w:World) (h:OwnR eU w base 83 A n c xs) (hl:L32 xs) (hd:0 < dv) (hdb:dv < bB) (hbase:base≤w.heap.size) (hn:n≤140737488351232) :
 Calls Tryz.prog 68 #[.slice A n c,.int .u32 (dv:Int)] w fun e w'=>e=.returned (.int .u32 ((val xs % dv:Nat):Int))∧(∃ s,OwnR eU w' base 83 A n c s∧L32 s∧val s=val xs / dv)∧Below base w w':=by
 have hxl:=h.length
 have HK:=Lib.hid hxl
 obtain ⟨wa,hwa⟩:∃ wa:World,wa=w:=⟨_,rfl⟩
 subst hwa
 have hstart:=SmallAt.start hl hd
 rw [hxl] at hstart
 have hd0:(0:Int) < (dv:Nat):=by omega
 have hd1:(dv:Int) < 4294967296:=by rw [bB_eq] at hdb;omega
 clear hxl
 go_enter Tryz.func68,Tryz.ntmps68
 go_wp2_with fail
 go_loopw [5,6] (fun rv iv wr=>∃ (t r:Nat) (s:List Nat),rv=.int .u64 (r:Int)∧iv=.int .i64 ((t:Int) - 1)∧t≤n∧SmallAt xs s dv t r∧OwnR eU wr base 83 A n c s∧Below base wa wr) (fun _ iv _=>(intOf iv + 1).toNat)
 case atStart=>exact ⟨n,0,_,rfl,rfl,Nat.le_refl _,hstart,h,Below.refl _ _⟩
 case round =>
  obtain ⟨t,r,s,rfl,rfl,ht,hS,hR,hbl⟩:=hrel
  obtain ⟨wb,hwb⟩:∃ wb:World,wb=wr:=⟨_,rfl⟩
  subst hwb
  have hrd:=hS.rd
  rcases t with _ | i
  ·have hdn:=hS.done
   have HF:=Lib.hid (And.intro hR (And.intro hS.l32 (And.intro hdn hbl)))
   clear hR hS hdn hbl h hstart
   go_wp2_with fail
   go_ret
   exact ⟨by rw [← HF.out.2.2.1.2];rfl,⟨s,HF.out.1,HF.out.2.1,HF.out.2.2.1.1⟩,HF.out.2.2.2⟩
  ·rw [show (((i + 1:Nat):Int) - 1)=(i:Int) by omega]
   obtain ⟨g,rfl,hgb⟩:=hR.at0 (by omega)
   obtain ⟨g1,g4,hgl⟩:=hR.cellM (show i < n by omega)
   rw [hS.rest i (by omega)] at g1
   have hx:=hl.nth i
   have hst:=hS.step hl (by rw [HK.out];omega)
   have hrow:=hR.putM (show i < n by omega) ((r * bB + nth xs i) / dv)
   have hbel:=hbl.setCell (p:=⟨g,i,none⟩) hgb (eU ((r * bB + nth xs i) / dv))
   generalize nth xs i=x at *
   have w1:=or_high (show r < bB by omega) hx
   have hq:(r * bB + x) / dv < bB:=by
    rw [Nat.div_lt_iff_lt_mul hd]
    have h2:(r + 1) * bB≤dv * bB:=Nat.mul_le_mul_right _ hrd
    rw [Nat.add_mul] at h2
    rw [Nat.mul_comm bB dv]
    omega
   have hm:(r * bB + x) % dv < dv:=Nat.mod_lt _ hd
   have q1:((r:Int) * 4294967296 + (x:Int)) / (dv:Nat)=(((r * bB + x) / dv:Nat):Int):=by rw [bB_eq];simp
   have q2:((r:Int) * 4294967296 + (x:Int)) % (dv:Nat)=(((r * bB + x) % dv:Nat):Int):=by rw [bB_eq];simp
   have q3:((r:Int) * 4294967296 + (x:Int)).tdiv (dv:Nat)=(((r * bB + x) / dv:Nat):Int):=by rw [Int.tdiv_eq_ediv_of_nonneg (by omega)];exact q1
   have q4:((r:Int) * 4294967296 + (x:Int)).tmod (dv:Nat)=(((r * bB + x) % dv:Nat):Int):=by rw [Int.tmod_eq_emod_of_nonneg (by omega)];exact q2
   generalize (r * bB + x) / dv=qv at *
   generalize (r * bB + x) % dv=rv at *
   have hq':(qv:Int) < 4294967296:=by rw [bB_eq] at hq;omega
   have hm':(rv:Int) < (dv:Nat):=by omega
   have hx':(x:Int) < 4294967296:=by rw [bB_eq] at hx;omega
   have hr':(r:Int) < (dv:Nat):=by omega
   have hlt':(i:Int) < (n:Nat):=by omega
   have i0:(0:Int)≤(i:Nat):=by omega
   have HS:=Lib.hid (And.intro hst (And.intro hrow hbel))
   clear hst hrow hbel hS hR hx h hstart
   go_wp2_with fail
   exact ⟨⟨i,rv,_,rfl,rfl,by omega,HS.out.1,HS.out.2.1,HS.out.2.2⟩,by simp [intOf]⟩
set_option maxRecDepth 100000 in
set_option maxHeartbeats 1600000 in
theorem nat_mul (A B:Option Addr) (n c m d:Nat) (xs ys:List Nat) (w:World) (h:Sl eU w A n xs) (hc:n≤c) (hl:L32 xs) (k:Sl eU w B m ys) (kc:m≤d) (kl:L32 ys) (hb:(n + m + 1) * 4≤140737488351232) :
 Calls Tryz.prog 28 #[.slice A n c,.slice B m d] w (NatPost (val xs * val ys) w):=by
 have ht:=h.trimV hl
 have kt:=k.trimV kl
 have hle:(limbs (val xs)).length≤n:=by rw [limbs_val hl];have:=trimL_length xs;rw [h.len] at this;exact this
 have kle:(limbs (val ys)).length≤m:=by rw [limbs_val kl];have:=trimL_length ys;rw [k.len] at this;exact this
 obtain ⟨wa,hwa⟩:∃ wa:World,wa=w:=⟨_,rfl⟩
 subst hwa
 obtain ⟨S,hS⟩:∃ S,S=val xs * val ys:=⟨_,rfl⟩
 rw [← hS]
 go_enter Tryz.func28,Tryz.ntmps28
 go_wp2_with fail
 refine (nat_trim A n c xs _ h hc hl).mono ?_
 rintro e w1 ⟨rfl,rfl⟩
 go_wp2_with fail
 refine (nat_trim B m d ys _ k kc kl).mono ?_
 rintro e w1 ⟨rfl,rfl⟩
 clear h k hl kl
 generalize val xs=a at *
 generalize val ys=b at *
 generalize hp:(limbs a).length=p at *
 generalize hq:(limbs b).length=q at *
 have HP:=Lib.hid (And.intro hp (And.intro hq (And.intro hS (And.intro ht kt))))
 clear hp hq hS ht kt
 go_wp2_with (first
  | (refine wpList_mk _ eiNat eU 0 rfl rfl _ _ rfl (p + q) rfl rfl (by omega) ?_)
  | fail)
 intro w2 hr hb2
 have HB:=Lib.hid (And.intro hr hb2)
 clear hr hb2
 go_wp2_with fail
 go_loopw [23] (fun iv wr=>∃ (i:Nat) (s:List Nat),iv=.int .i64 (i:Nat)∧i≤p∧vTo s (i + q)=vTo (limbs a) i * val (limbs b)∧s.length=p + q∧L32 s∧RowAt eU wr wa.heap.size 83 s []∧Below wa.heap.size wa wr) (fun iv _=>p - (intOf iv).toNat)
 case atStart=>exact ⟨0,_,rfl,Nat.zero_le _,by rw [vTo_zero,Nat.zero_mul,vTo_take];simp [val_zeros],by simp,L32.replicate _,HB.out.1,HB.out.2⟩
 case round =>
  obtain ⟨i,s,rfl,hi,hv,hsl,hs,hR,hbl⟩:=hrel
  obtain ⟨wb,hwb⟩:∃ wb:World,wb=wr:=⟨_,rfl⟩
  subst hwb
  have hGb:=hR.lt
  by_cases hlt:i < p
  ·obtain ⟨ba,oa,rfl⟩:=sl_someU HP.out.2.2.2.1 (by omega)
   have g1:=sl_atU (HP.out.2.2.2.1.below (Nat.le_refl _) hbl) hlt
   have hx:=(limbs_L32 a).nth i
   have hxe:nth (limbs a) i=nth (limbs a) i:=rfl
   generalize hxx:nth (limbs a) i=x at g1 hx
   have HX:=Lib.hid (And.intro hxx (And.intro hv (And.intro hsl (And.intro hs (And.intro hR hbl)))))
   clear hxx hv hsl hs hR hbl hxe
   have hlt':(i:Int) < (p:Nat):=by omega
   go_wp2_with fail
   go_loopw [8,30] (fun cv kv wr=>∃ (k cc:Nat) (u:List Nat),cv=.int .u64 (cc:Int)∧kv=.int .i64 (k:Nat)∧k≤q∧MulAt s (limbs b) u x i k cc∧RowAt eU wr wa.heap.size 83 u []∧Below wa.heap.size wa wr) (fun _ kv _=>q - (intOf kv).toNat)
   case atStart=>exact ⟨0,0,_,rfl,rfl,Nat.zero_le _,MulAt.start x i HX.out.2.2.2.1,HX.out.2.2.2.2.1,HX.out.2.2.2.2.2⟩
   case round=>as_aux_lemma =>
    obtain ⟨k,cc,u,rfl,rfl,hk,hM,hR,hbl⟩:=hrel
    obtain ⟨wc,hwc⟩:∃ wc:World,wc=wr:=⟨_,rfl⟩
    subst hwc
    have hGc:=hR.lt
    have hul:=hM.len
    rw [HX.out.2.2.1] at hul
    by_cases hlk:k < q
    ·obtain ⟨bb,ob,rfl⟩:=sl_someU HP.out.2.2.2.2 (by omega)
     have g2:=sl_atU (HP.out.2.2.2.2.below (Nat.le_refl _) hbl) hlk
     have hy:=(limbs_L32 b).nth k
     have g3:=hR.cell (j:=i + k) (by omega)
     have g4:=hR.frozen (i + k)
     rw [hM.rest (i + k) (Nat.le_refl _)] at g3
     unfold eU at g3
     have hz:=HX.out.2.2.2.1.nth (i + k)
     have hst:=hM.step HX.out.2.2.2.1 (limbs_L32 b) hx (by rw [HX.out.2.2.1];omega)
     have hcb:=hM.cB
     have hrow:=hR.set (j:=i + k) (by omega) ((cc + x * nth (limbs b) k + nth s (i + k)) % bB)
     have hbel:=hbl.setCell (p:=⟨wa.heap.size,i + k,none⟩) (Nat.le_refl _) (eU ((cc + x * nth (limbs b) k + nth s (i + k)) % bB))
     generalize nth (limbs b) k=y at *
     generalize nth s (i + k)=z at *
     have hf:=mul_fits hcb hx hy hz
     have hxy:x * y≤4294967295 * 4294967295:=Nat.mul_le_mul (by rw [bB_eq] at hx;omega) (by rw [bB_eq] at hy;omega)
     have q0:((x:Int) * (y:Int))=((x * y:Nat):Int):=by simp
     have q1:((cc:Int) + (((x * y:Nat):Int) + (z:Int))) / 4294967296=(((cc + x * y + z) / bB:Nat):Int):=by rw [bB_eq];omega
     have q2:((cc:Int) + (((x * y:Nat):Int) + (z:Int))) % 4294967296=(((cc + x * y + z) % bB:Nat):Int):=by rw [bB_eq];omega
     have q3:(((x * y:Nat):Int) + (z:Int)) < 18446744073709551616:=by rw [bB_eq] at hz;omega
     have q4:(cc:Int) + (((x * y:Nat):Int) + (z:Int)) < 18446744073709551616:=by rw [bB_eq] at hf;omega
     have q5:((x * y:Nat):Int) < 18446744073709551616:=by omega
     have q6:(0:Int)≤((x * y:Nat):Int):=by omega
     have q7:(z:Int) < 4294967296:=by rw [bB_eq] at hz;omega
     have q8:(y:Int) < 4294967296:=by rw [bB_eq] at hy;omega
     have q9:(x:Int) < 4294967296:=by rw [bB_eq] at hx;omega
     have HS:=Lib.hid (And.intro hst (And.intro hrow hbel))
     clear hst hrow hbel hM hR hbl hf hxy hy hz hcb
     generalize x * y=xy at *
     generalize (cc + xy + z) / bB=hi' at *
     generalize (cc + xy + z) % bB=lo at *
     have hlk':(k:Int) < (q:Nat):=by omega
     have hik:(i:Int) + (k:Int) < (p:Nat) + (q:Nat):=by omega
     go_wp2_with fail
     exact ⟨⟨k + 1,hi',_,rfl,by go_num,by omega,HS.out.1,HS.out.2.1,HS.out.2.2⟩,by simp [intOf];omega⟩
    ·obtain rfl:k=q:=by omega
     have hM':=hM
     rw [← HP.out.2.1,← HX.out.1] at hM'
     have hdn:=hM'.done (a:=limbs a) (by rw [HP.out.2.1];exact HX.out.2.1) (by rw [HP.out.2.1,HX.out.2.2.1];omega)
     rw [HP.out.2.1] at hdn
     have hcb:=hM.cB
     have hrow:=hR.set (j:=i + k) (by omega) cc
     have hbel:=hbl.setCell (p:=⟨wa.heap.size,i + k,none⟩) (Nat.le_refl _) (eU cc)
     unfold eU at hbel
     have hL:=hM.l32.set hcb (i + k)
     have g3:=hR.cell (j:=i + k) (by omega)
     have g4:=hR.frozen (i + k)
     have hcb':(cc:Int) < 4294967296:=by rw [bB_eq] at hcb;omega
     have hlk':¬ (k:Int) < (k:Nat):=by omega
     have hik:(i:Int) + (k:Int) < (p:Nat) + (k:Nat):=by omega
     have HS:=Lib.hid (And.intro hdn (And.intro (show (u.set (i + k) cc).length=p + k by rw [List.length_set];exact hul) (And.intro hL (And.intro hrow hbel))))
     clear hM hM' hR hbl hdn hrow hbel hL hcb
     go_wp2_with fail
     exact ⟨⟨i + 1,_,by go_num,by omega,HS.out.1,HS.out.2.1,HS.out.2.2.1,HS.out.2.2.2.1,HS.out.2.2.2.2⟩,by simp [intOf];omega⟩
  ·obtain rfl:i=p:=by omega
   have hvs:val s=S:=by
    have h1:vTo s (i + q)=val s:=vTo_all (by omega)
    have h2:vTo (limbs a) i=a:=by rw [vTo_all (by rw [HP.out.1];exact Nat.le_refl _),val_limbs]
    rw [h1,h2,val_limbs] at hv
    rw [hv,HP.out.2.2.1]
   have hsl2:=hR.slAll (n:=i + q) hsl (by omega)
   have hsz:=hbl.size
   have HF:=Lib.hid (And.intro hvs (And.intro hs hbl))
   have hlt':¬ (i:Int) < (i:Nat):=by omega
   clear hv hvs hR hbl hs
   go_wp2_with fail
   refine (nat_own _ (i + q) (i + q) s _ hsl2 (Nat.le_refl _) HF.out.2.1 (by omega)).mono ?_
   rintro e wf ⟨R,dr,rfl,ho,hbf⟩
   rw [HF.out.1] at ho ⊢
   have HG:=Lib.hid (And.intro (ho.mono hsz) (HF.out.2.2.trans (hbf.mono hsz)))
   clear ho hbf
   go_wp2_with fail
   go_ret
   exact ⟨R,dr,rfl,HG.out.1,HG.out.2⟩
end Go.Proofs.YtgbmnlmnhbkdbaaGreat
