/- Joined by program out of: NatC, NatD. What each says stands at its own head. -/
import Derived.Test.YtmncjibcoffmfaaGreatNatB
import Derived.Deep.DeepCutAuto
import Derived.Deep.CutBlock
import Derived.Laws.Bits64b
import Derived.Test.YtmncjibcoffmfaaGreatJ6
import Derived.StillTailTactics
set_option linter.unusedVariables false
set_option linter.unusedSimpArgs false
/- nat.less, Sub, Mul and small, walked. Conditions: the slices read as limbs, within Go's bound together. -/
namespace Go.Proofs.YtmncjibcoffmfaaGreat
open Go.RowKit

theorem OwnR.putM {α:Type} {enc:α→Value} {w:World} {base:Nat} {e:TypeId} {g n c:Nat} {xs:List α} (h:OwnR enc w base e (some ⟨g,0,none⟩) n c xs) {j:Nat} (hj:j < n) (v:α):OwnR enc (w.setCell ⟨g,j,none⟩ (enc v)) base e (some ⟨g,0,none⟩) n c (xs.set j v):=by
 obtain ⟨g',rest,e1,hb,hr,hc⟩:=h.row (by omega)
 injection e1 with e1
 injection e1 with e1
 subst e1
 have hl:=h.length
 exact OwnR.of_row' (hr.set (by rw [hl];exact hj) v) hb (by rw [List.length_set,hl];exact hc) h.capmax (by rw [List.length_set,hl])
theorem OwnR.at0 {α:Type} {enc:α→Value} {w:World} {base:Nat} {e:TypeId} {A:Option Addr} {n c:Nat} {xs:List α} (h:OwnR enc w base e A n c xs) (hn:0 < n):∃ g,A=some ⟨g,0,none⟩∧base≤g:=by
 obtain ⟨g,rest,e1,hb,_⟩:=h.row hn
 exact ⟨g,e1,hb⟩
theorem OwnR.cellM {w:World} {base:Nat} {e:TypeId} {g n c:Nat} {xs:List Nat} (h:OwnR eU w base e (some ⟨g,0,none⟩) n c xs) {j:Nat} (hj:j < n):w.cell? ⟨g,j,none⟩=some (.int .u32 ((nth xs j:Nat):Int))∧w.frozen? ⟨g,j,none⟩=false∧g < w.heap.size:=by
 obtain ⟨g',rest,e1,hb,hr,hc⟩:=h.row (by omega)
 injection e1 with e1
 injection e1 with e1
 subst e1
 have hl:=h.length
 exact ⟨hr.cell (by rw [hl];exact hj),hr.frozen j,hr.lt⟩

theorem or_high {r x:Nat} (hr:r < bB) (hx:x < bB):bits .or .u64 ((r:Int) * 4294967296) (x:Int)=(r:Int) * 4294967296 + (x:Int):=by
 have h1:((r:Int) * 4294967296)=((r * 4294967296:Nat):Int):=by omega
 rw [bB_eq] at hr hx
 rw [h1,bits_or_u64_nat _ _ (by omega) (by omega)]
 have h2:r * 4294967296 ||| x=r * 4294967296 + x:=by
  have:=Nat.shiftLeft_add_eq_or_of_lt (a:=r) (b:=x) (i:=32) (by omega)
  rw [Nat.shiftLeft_eq] at this
  exact this.symm
 rw [h2];omega
theorem wrap_sub32 (a b:Int):IntKind.u32.wrap (a - b % 4294967296)=(a - b) % 4294967296:=by
 unfold IntKind.wrap;simp [IntKind.signed,IntKind.bits]
theorem wrap_sub32' (a b:Int):IntKind.u32.wrap (a - b)=(a - b) % 4294967296:=by
 unfold IntKind.wrap;simp [IntKind.signed,IntKind.bits]
theorem less_cell {x t:Nat} (hx:x < bB) (ht:t≤bB):eU (lessD x t)=.int .u32 (((x:Int) - t) % 4294967296):=by
 unfold eU lessD;congr 1;rw [bB_eq] at *;omega
set_option maxRecDepth 100000 in
set_option maxHeartbeats 800000 in
theorem nat_less (base:Nat) (w0:World) (A B:Option Addr) (n c m d:Nat) (xs ys:List Nat) (w:World) (h:OwnR eU w base 54 A n c xs) (hl:L32 xs) (k:Sl eU w0 B m ys) (kl:L32 ys) (h0:w0.heap.size≤base) (hB:Below base w0 w) (hbase:base≤w.heap.size)
 (hmn:m≤n) (hle:val ys≤val xs) (hn:n≤140737488351232) :
 Calls Tryz.prog 115 #[.slice A n c,.slice B m d] w fun e w'=>e=.returned (.tuple #[])∧(∃ s,OwnR eU w' base 54 A n c s∧L32 s∧val s=val xs - val ys)∧Below base w w':=by
 have hxl:=h.length
 have HK:=Lib.hid (And.intro k (And.intro k.len (And.intro hxl (And.intro hle (And.intro hl hB)))))
 obtain ⟨wa,hwa⟩:∃ wa:World,wa=w:=⟨_,rfl⟩
 subst hwa
 clear hB hle hxl k
 go_enter Tryz.func115,Tryz.ntmps115
 go_wp2_with fail
 go_loopw [4,9] (fun cv iv wr=>∃ (i cc:Nat) (s:List Nat),cv=.int .u64 (cc:Int)∧iv=.int .i64 (i:Nat)∧i≤n∧LessAt xs ys s i cc∧OwnR eU wr base 54 A n c s∧Below base wa wr) (fun _ iv _=>n - (intOf iv).toNat)
 case atStart=>exact ⟨0,0,_,rfl,rfl,Nat.zero_le _,LessAt.start hl,h,Below.refl _ _⟩
 case round =>
  obtain ⟨i,cc,s,rfl,rfl,hi,hS,hR,hbl⟩:=hrel
  obtain ⟨wb,hwb⟩:∃ wb:World,wb=wr:=⟨_,rfl⟩
  subst hwb
  have hcc:=hS.c1
  have hsl:=hS.len
  by_cases hlt:i < n
  ·obtain ⟨g,rfl,hgb⟩:=hR.at0 (by omega)
   obtain ⟨g1,g4,hgl⟩:=hR.cellM hlt
   have hrest:=hS.rest i (Nat.le_refl _)
   rw [hrest] at g1
   have hx:=hl.nth i
   have hy:=kl.nth i
   have hst:=hS.step hl kl (by rw [HK.out.2.2.1];exact hlt)
   have hy0:m≤i→nth ys i=0:=fun h=>nth_none (by rw [HK.out.2.1];exact h)
   have hkt:=(HK.out.1.below h0 (HK.out.2.2.2.2.2.trans hbl))
   have hrow:=hR.putM hlt (lessD (nth xs i) (cc + nth ys i))
   have hbel:=hbl.setCell (p:=⟨g,i,none⟩) hgb (eU (lessD (nth xs i) (cc + nth ys i)))
   generalize nth xs i=x at *
   generalize hye:nth ys i=y at *
   have hx':(x:Int) < 4294967296:=by rw [bB_eq] at hx;omega
   have hy':(y:Int) < 4294967296:=by rw [bB_eq] at hy;omega
   have hlt':(i:Int) < (n:Nat):=by omega
   have hcc':(cc:Int)≤1:=by omega
   have e1:=less_cell hx (show cc + y≤bB by omega)
   rw [Int.natCast_add] at e1
   rw [e1] at hrow hbel
   have w1:=wrap_sub32 (x:Int) ((cc:Int) + (y:Nat))
   have w2:=wrap_sub32' (x:Int) ((cc:Int) + (y:Nat))
   have HS:=Lib.hid (And.intro hst (And.intro hrow hbel))
   clear hst hrow hbel hS hR hx hy hrest h e1
   rcases Nat.lt_or_ge i m with hiq | hiq
   ·obtain ⟨bb,ob,rfl⟩:=sl_someU hkt (by omega)
    have g2:=sl_atU hkt hiq
    rw [hye] at g2
    have hiq':(i:Int) < (m:Nat):=by omega
    clear hy0 hkt hye
    by_cases hbo:x < cc + y
    ·have j1:decide ((x:Int) < (cc:Int) + (y:Nat))=true:=by simp;omega
     have hc:lessC x (cc + y)=1:=if_pos hbo
     rw [hc] at HS
     clear hc
     go_wp2_with fail
     exact ⟨⟨i + 1,1,_,rfl,by go_num,by omega,HS.out.1,HS.out.2.1,HS.out.2.2⟩,by simp [intOf];omega⟩
    ·have j1:decide ((x:Int) < (cc:Int) + (y:Nat))=false:=by simp;omega
     have hc:lessC x (cc + y)=0:=if_neg hbo
     rw [hc] at HS
     clear hc
     go_wp2_with fail
     exact ⟨⟨i + 1,0,_,rfl,by go_num,by omega,HS.out.1,HS.out.2.1,HS.out.2.2⟩,by simp [intOf];omega⟩
   ·obtain rfl:y=0:=hy0 hiq
    have hiq':¬ (i:Int) < (m:Nat):=by omega
    have hz:=HS.out
    simp only [Int.natCast_zero,Int.add_zero,Nat.add_zero] at hz w1 w2
    clear hy0 hkt hye HS
    by_cases hbo:x < cc
    ·have j1:decide ((x:Int) < (cc:Int))=true:=by simp;omega
     have j2:decide (x < cc)=true:=by simp;omega
     have hc:lessC x cc=1:=if_pos hbo
     rw [hc] at hz
     have HS:=Lib.hid hz
     clear hc hz
     go_wp2_with fail
     exact ⟨⟨i + 1,1,_,rfl,by go_num,by omega,HS.out.1,HS.out.2.1,HS.out.2.2⟩,by simp [intOf];omega⟩
    ·have j1:decide ((x:Int) < (cc:Int))=false:=by simp;omega
     have j2:decide (x < cc)=false:=by simp;omega
     have hc:lessC x cc=0:=if_neg hbo
     rw [hc] at hz
     have HS:=Lib.hid hz
     clear hc hz
     go_wp2_with fail
     exact ⟨⟨i + 1,0,_,rfl,by go_num,by omega,HS.out.1,HS.out.2.1,HS.out.2.2⟩,by simp [intOf];omega⟩
  ·have hin:i=n:=by omega
   have hS':=hS
   rw [hin,← HK.out.2.2.1] at hS'
   have hdn:=hS'.done (by rw [HK.out.2.1,HK.out.2.2.1];exact hmn) HK.out.2.2.2.1
   have hlt':¬ (i:Int) < (n:Nat):=by omega
   have HF:=Lib.hid (And.intro hR (And.intro hS.l32 (And.intro hdn hbl)))
   clear hR hS hS' hdn hbl h hin
   go_wp2_with fail
   go_end0
   exact ⟨rfl,⟨s,HF.out.1,HF.out.2.1,HF.out.2.2.1⟩,HF.out.2.2.2⟩
def SubPost (a b:Nat) (w:World) (e:Ending) (w':World):Prop:=
 ∃ R c,e=.returned (.tuple #[.slice R (limbs (a - b)).length c,.bool (decide (b≤a))])∧OwnR eU w' w.heap.size 54 R (limbs (a - b)).length c (limbs (a - b))∧Below w.heap.size w w'
set_option maxRecDepth 100000 in
set_option maxHeartbeats 800000 in
theorem nat_sub (A B:Option Addr) (n c m d:Nat) (xs ys:List Nat) (w:World) (h:Sl eU w A n xs) (hc:n≤c) (hl:L32 xs) (k:Sl eU w B m ys) (kc:m≤d) (kl:L32 ys) (hb:n * 4≤140737488351232) :
 Calls Tryz.prog 86 #[.slice A n c,.slice B m d] w (SubPost (val xs) (val ys) w):=by
 obtain ⟨wa,hwa⟩:∃ wa:World,wa=w:=⟨_,rfl⟩
 subst hwa
 obtain ⟨a,hva⟩:∃ a,a=val xs:=⟨_,rfl⟩
 obtain ⟨b,hvb⟩:∃ b,b=val ys:=⟨_,rfl⟩
 rw [← hva,← hvb]
 have ht:=h.trimV hl
 have kt:=k.trimV kl
 rw [← hva] at ht
 rw [← hvb] at kt
 have hle:(limbs a).length≤n:=by rw [hva,limbs_val hl];have:=trimL_length xs;rw [h.len] at this;exact this
 have HK:=Lib.hid (And.intro h (And.intro k (And.intro hva (And.intro hvb (And.intro ht kt)))))
 clear ht kt hva hvb
 go_enter Tryz.func86,Tryz.ntmps86
 go_wp2_with fail
 refine (nat_cmp A B n c m d xs ys _ h hc hl k kc kl).mono ?_
 rintro e w1 ⟨rfl,q,rfl⟩
 rw [← HK.out.2.2.1,← HK.out.2.2.2.1]
 clear h k
 have hs1:wa.heap.size≤(wa.drewN q).heap.size:=Nat.le_refl _
 have hB1:Below wa.heap.size wa (wa.drewN q):=below_refl_drewN _ _ _
 have HB:=Lib.hid hB1
 generalize wa.drewN q=w1 at *
 clear hB1
 rcases Nat.lt_or_ge a b with hab | hab
 ·rw [cmpN_lt hab]
  have hd:decide (b≤a)=false:=by simp;omega
  have h0:a - b=0:=by omega
  have HD:=Lib.hid (And.intro hd h0)
  clear hd h0
  go_wp2_with fail
  go_ret2
  exact ⟨none,0,by rw [HD.out.1,HD.out.2,limbs_zero];rfl,by rw [HD.out.2,limbs_zero];exact OwnR.nil _ _ _ _,HB.out⟩
 ·have hge:¬ cmpN a b < 0:=by unfold cmpN;split <;> (try split) <;> omega
  have hd:decide (b≤a)=true:=by simp;omega
  have HD:=Lib.hid hd
  generalize cmpN a b=cv at *
  have hge':decide (cv < 0)=false:=by simpa using hge
  clear hd
  have h1:=HK.out.1.below (Nat.le_refl _) HB.out
  have k1:=HK.out.2.1.below (Nat.le_refl _) HB.out
  go_wp2_with fail
  refine (nat_trim A n c xs _ h1 hc hl).mono ?_
  rintro e w2 ⟨rfl,rfl⟩
  rw [← HK.out.2.2.1]
  have ht1:=HK.out.2.2.2.2.1.below (Nat.le_refl _) HB.out
  clear h1
  go_wp2_with fail
  refine (clone_u A (limbs a).length c (limbs a) _ ht1 (by omega)).mono ?_
  rintro e w2 ⟨R,dr,rfl,ho,hb2⟩
  have k2:=k1.below (Nat.le_refl _) hb2
  have HC:=Lib.hid (And.intro (ho.mono hs1) (HB.out.trans (hb2.mono hs1)))
  have hs2:=HC.out.2.size
  clear k1 ht1 ho hb2
  go_wp2_with fail
  refine (nat_trim B m d ys _ k2 kc kl).mono ?_
  rintro e w3 ⟨rfl,rfl⟩
  rw [← HK.out.2.2.2.1]
  clear k2
  have hfew:(limbs b).length≤(limbs a).length:=by
   rcases Nat.lt_or_ge (limbs a).length (limbs b).length with h | h
   ·have:=limbs_fewer h;omega
   ·exact h
  go_wp2_with fail
  refine (nat_less wa.heap.size wa R B (limbs a).length dr (limbs b).length d (limbs a) (limbs b) _ HC.out.1 (limbs_L32 a) HK.out.2.2.2.2.2 (limbs_L32 b) (Nat.le_refl _) HC.out.2 hs2 hfew (by rw [val_limbs,val_limbs];exact hab) (by omega)).mono ?_
  rintro e w4 ⟨rfl,⟨s,ho,hs,hv⟩,hb4⟩
  rw [val_limbs,val_limbs] at hv
  have hsl:=ho.sl (by omega)
  have hcap:=ho.cap
  have HC4:=Lib.hid (And.intro (HC.out.2.trans hb4) hv)
  have hs4:=HC4.out.1.size
  clear ho hb4 hv
  go_wp2_with fail
  refine (nat_own R (limbs a).length dr s _ hsl hcap hs (by omega)).mono ?_
  rintro e w5 ⟨R5,d5,rfl,ho,hb5⟩
  rw [HC4.out.2] at ho ⊢
  have HF:=Lib.hid (And.intro (ho.mono hs4) (HC4.out.1.trans (hb5.mono hs4)))
  clear ho hb5
  go_wp2_with fail
  go_ret2
  exact ⟨R5,d5,by rw [HD.out];rfl,HF.out.1,HF.out.2⟩
set_option maxRecDepth 100000 in
set_option maxHeartbeats 800000 in
theorem nat_small (base:Nat) (A:Option Addr) (n c dv:Nat) (xs:List Nat) (w:World) (h:OwnR eU w base 54 A n c xs) (hl:L32 xs) (hd:0 < dv) (hdb:dv < bB) (hbase:base≤w.heap.size) (hn:n≤140737488351232) :
 Calls Tryz.prog 116 #[.slice A n c,.int .u32 (dv:Int)] w fun e w'=>e=.returned (.int .u32 ((val xs % dv:Nat):Int))∧(∃ s,OwnR eU w' base 54 A n c s∧L32 s∧val s=val xs / dv)∧Below base w w':=by
 have hxl:=h.length
 have HK:=Lib.hid hxl
 obtain ⟨wa,hwa⟩:∃ wa:World,wa=w:=⟨_,rfl⟩
 subst hwa
 have hstart:=SmallAt.start hl hd
 rw [hxl] at hstart
 have hd0:(0:Int) < (dv:Nat):=by omega
 have hd1:(dv:Int) < 4294967296:=by rw [bB_eq] at hdb;omega
 clear hxl
 go_enter Tryz.func116,Tryz.ntmps116
 go_wp2_with fail
 go_loopw [5,6] (fun rv iv wr=>∃ (t r:Nat) (s:List Nat),rv=.int .u64 (r:Int)∧iv=.int .i64 ((t:Int) - 1)∧t≤n∧SmallAt xs s dv t r∧OwnR eU wr base 54 A n c s∧Below base wa wr) (fun _ iv _=>(intOf iv + 1).toNat)
 case atStart=>exact ⟨n,0,_,rfl,rfl,Nat.le_refl _,hstart,h,Below.refl _ _⟩
 case round =>
  obtain ⟨t,r,s,rfl,rfl,ht,hS,hR,hbl⟩:=hrel
  obtain ⟨wb,hwb⟩:∃ wb:World,wb=wr:=⟨_,rfl⟩
  subst hwb
  have hrd:=hS.rd
  rcases t with _ | i
  ·have hdn:=hS.done
   have HF:=Lib.hid (And.intro hR (And.intro hS.l32 (And.intro hdn hbl)))
   clear hR hS hdn hbl h hstart
   go_wp2_with fail
   go_ret
   exact ⟨by rw [← HF.out.2.2.1.2];rfl,⟨s,HF.out.1,HF.out.2.1,HF.out.2.2.1.1⟩,HF.out.2.2.2⟩
  ·rw [show (((i + 1:Nat):Int) - 1)=(i:Int) by omega]
   obtain ⟨g,rfl,hgb⟩:=hR.at0 (by omega)
   obtain ⟨g1,g4,hgl⟩:=hR.cellM (show i < n by omega)
   rw [hS.rest i (by omega)] at g1
   have hx:=hl.nth i
   have hst:=hS.step hl (by rw [HK.out];omega)
   have hrow:=hR.putM (show i < n by omega) ((r * bB + nth xs i) / dv)
   have hbel:=hbl.setCell (p:=⟨g,i,none⟩) hgb (eU ((r * bB + nth xs i) / dv))
   generalize nth xs i=x at *
   have w1:=or_high (show r < bB by omega) hx
   have hq:(r * bB + x) / dv < bB:=by
    rw [Nat.div_lt_iff_lt_mul hd]
    have h2:(r + 1) * bB≤dv * bB:=Nat.mul_le_mul_right _ hrd
    rw [Nat.add_mul] at h2
    rw [Nat.mul_comm bB dv]
    omega
   have hm:(r * bB + x) % dv < dv:=Nat.mod_lt _ hd
   have q1:((r:Int) * 4294967296 + (x:Int)) / (dv:Nat)=(((r * bB + x) / dv:Nat):Int):=by rw [bB_eq];simp
   have q2:((r:Int) * 4294967296 + (x:Int)) % (dv:Nat)=(((r * bB + x) % dv:Nat):Int):=by rw [bB_eq];simp
   have q3:((r:Int) * 4294967296 + (x:Int)).tdiv (dv:Nat)=(((r * bB + x) / dv:Nat):Int):=by rw [Int.tdiv_eq_ediv_of_nonneg (by omega)];exact q1
   have q4:((r:Int) * 4294967296 + (x:Int)).tmod (dv:Nat)=(((r * bB + x) % dv:Nat):Int):=by rw [Int.tmod_eq_emod_of_nonneg (by omega)];exact q2
   generalize (r * bB + x) / dv=qv at *
   generalize (r * bB + x) % dv=rv at *
   have hq':(qv:Int) < 4294967296:=by rw [bB_eq] at hq;omega
   have hm':(rv:Int) < (dv:Nat):=by omega
   have hx':(x:Int) < 4294967296:=by rw [bB_eq] at hx;omega
   have hr':(r:Int) < (dv:Nat):=by omega
   have hlt':(i:Int) < (n:Nat):=by omega
   have i0:(0:Int)≤(i:Nat):=by omega
   have HS:=Lib.hid (And.intro hst (And.intro hrow hbel))
   clear hst hrow hbel hS hR hx h hstart
   go_wp2_with fail
   exact ⟨⟨i,rv,_,rfl,rfl,by omega,HS.out.1,HS.out.2.1,HS.out.2.2⟩,by simp [intOf]⟩
set_option maxRecDepth 100000 in
set_option maxHeartbeats 1600000 in
theorem nat_mul (A B:Option Addr) (n c m d:Nat) (xs ys:List Nat) (w:World) (h:Sl eU w A n xs) (hc:n≤c) (hl:L32 xs) (k:Sl eU w B m ys) (kc:m≤d) (kl:L32 ys) (hb:(n + m + 1) * 4≤140737488351232) :
 Calls Tryz.prog 48 #[.slice A n c,.slice B m d] w (NatPost (val xs * val ys) w):=by
 have ht:=h.trimV hl
 have kt:=k.trimV kl
 have hle:(limbs (val xs)).length≤n:=by rw [limbs_val hl];have:=trimL_length xs;rw [h.len] at this;exact this
 have kle:(limbs (val ys)).length≤m:=by rw [limbs_val kl];have:=trimL_length ys;rw [k.len] at this;exact this
 obtain ⟨wa,hwa⟩:∃ wa:World,wa=w:=⟨_,rfl⟩
 subst hwa
 obtain ⟨S,hS⟩:∃ S,S=val xs * val ys:=⟨_,rfl⟩
 rw [← hS]
 go_enter Tryz.func48,Tryz.ntmps48
 go_wp2_with fail
 refine (nat_trim A n c xs _ h hc hl).mono ?_
 rintro e w1 ⟨rfl,rfl⟩
 go_wp2_with fail
 refine (nat_trim B m d ys _ k kc kl).mono ?_
 rintro e w1 ⟨rfl,rfl⟩
 clear h k hl kl
 generalize val xs=a at *
 generalize val ys=b at *
 generalize hp:(limbs a).length=p at *
 generalize hq:(limbs b).length=q at *
 have HP:=Lib.hid (And.intro hp (And.intro hq (And.intro hS (And.intro ht kt))))
 clear hp hq hS ht kt
 go_wp2_with (first
  | (refine wpList_mk _ eiNat eU 0 rfl rfl _ _ rfl (p + q) rfl rfl (by omega) ?_)
  | fail)
 intro w2 hr hb2
 have HB:=Lib.hid (And.intro hr hb2)
 clear hr hb2
 go_wp2_with fail
 go_loopw [23] (fun iv wr=>∃ (i:Nat) (s:List Nat),iv=.int .i64 (i:Nat)∧i≤p∧vTo s (i + q)=vTo (limbs a) i * val (limbs b)∧s.length=p + q∧L32 s∧RowAt eU wr wa.heap.size 54 s []∧Below wa.heap.size wa wr) (fun iv _=>p - (intOf iv).toNat)
 case atStart=>exact ⟨0,_,rfl,Nat.zero_le _,by rw [vTo_zero,Nat.zero_mul,vTo_take];simp [val_zeros],by simp,L32.replicate _,HB.out.1,HB.out.2⟩
 case round =>
  obtain ⟨i,s,rfl,hi,hv,hsl,hs,hR,hbl⟩:=hrel
  obtain ⟨wb,hwb⟩:∃ wb:World,wb=wr:=⟨_,rfl⟩
  subst hwb
  have hGb:=hR.lt
  by_cases hlt:i < p
  ·obtain ⟨ba,oa,rfl⟩:=sl_someU HP.out.2.2.2.1 (by omega)
   have g1:=sl_atU (HP.out.2.2.2.1.below (Nat.le_refl _) hbl) hlt
   have hx:=(limbs_L32 a).nth i
   have hxe:nth (limbs a) i=nth (limbs a) i:=rfl
   generalize hxx:nth (limbs a) i=x at g1 hx
   have HX:=Lib.hid (And.intro hxx (And.intro hv (And.intro hsl (And.intro hs (And.intro hR hbl)))))
   clear hxx hv hsl hs hR hbl hxe
   have hlt':(i:Int) < (p:Nat):=by omega
   go_wp2_with fail
   go_loopw [8,30] (fun cv kv wr=>∃ (k cc:Nat) (u:List Nat),cv=.int .u64 (cc:Int)∧kv=.int .i64 (k:Nat)∧k≤q∧MulAt s (limbs b) u x i k cc∧RowAt eU wr wa.heap.size 54 u []∧Below wa.heap.size wa wr) (fun _ kv _=>q - (intOf kv).toNat)
   case atStart=>exact ⟨0,0,_,rfl,rfl,Nat.zero_le _,MulAt.start x i HX.out.2.2.2.1,HX.out.2.2.2.2.1,HX.out.2.2.2.2.2⟩
   case round=>as_aux_lemma =>
    obtain ⟨k,cc,u,rfl,rfl,hk,hM,hR,hbl⟩:=hrel
    obtain ⟨wc,hwc⟩:∃ wc:World,wc=wr:=⟨_,rfl⟩
    subst hwc
    have hGc:=hR.lt
    have hul:=hM.len
    rw [HX.out.2.2.1] at hul
    by_cases hlk:k < q
    ·obtain ⟨bb,ob,rfl⟩:=sl_someU HP.out.2.2.2.2 (by omega)
     have g2:=sl_atU (HP.out.2.2.2.2.below (Nat.le_refl _) hbl) hlk
     have hy:=(limbs_L32 b).nth k
     have g3:=hR.cell (j:=i + k) (by omega)
     have g4:=hR.frozen (i + k)
     rw [hM.rest (i + k) (Nat.le_refl _)] at g3
     unfold eU at g3
     have hz:=HX.out.2.2.2.1.nth (i + k)
     have hst:=hM.step HX.out.2.2.2.1 (limbs_L32 b) hx (by rw [HX.out.2.2.1];omega)
     have hcb:=hM.cB
     have hrow:=hR.set (j:=i + k) (by omega) ((cc + x * nth (limbs b) k + nth s (i + k)) % bB)
     have hbel:=hbl.setCell (p:=⟨wa.heap.size,i + k,none⟩) (Nat.le_refl _) (eU ((cc + x * nth (limbs b) k + nth s (i + k)) % bB))
     generalize nth (limbs b) k=y at *
     generalize nth s (i + k)=z at *
     have hf:=mul_fits hcb hx hy hz
     have hxy:x * y≤4294967295 * 4294967295:=Nat.mul_le_mul (by rw [bB_eq] at hx;omega) (by rw [bB_eq] at hy;omega)
     have q0:((x:Int) * (y:Int))=((x * y:Nat):Int):=by simp
     have q1:((cc:Int) + (((x * y:Nat):Int) + (z:Int))) / 4294967296=(((cc + x * y + z) / bB:Nat):Int):=by rw [bB_eq];omega
     have q2:((cc:Int) + (((x * y:Nat):Int) + (z:Int))) % 4294967296=(((cc + x * y + z) % bB:Nat):Int):=by rw [bB_eq];omega
     have q3:(((x * y:Nat):Int) + (z:Int)) < 18446744073709551616:=by rw [bB_eq] at hz;omega
     have q4:(cc:Int) + (((x * y:Nat):Int) + (z:Int)) < 18446744073709551616:=by rw [bB_eq] at hf;omega
     have q5:((x * y:Nat):Int) < 18446744073709551616:=by omega
     have q6:(0:Int)≤((x * y:Nat):Int):=by omega
     have q7:(z:Int) < 4294967296:=by rw [bB_eq] at hz;omega
     have q8:(y:Int) < 4294967296:=by rw [bB_eq] at hy;omega
     have q9:(x:Int) < 4294967296:=by rw [bB_eq] at hx;omega
     have HS:=Lib.hid (And.intro hst (And.intro hrow hbel))
     clear hst hrow hbel hM hR hbl hf hxy hy hz hcb
     generalize x * y=xy at *
     generalize (cc + xy + z) / bB=hi' at *
     generalize (cc + xy + z) % bB=lo at *
     have hlk':(k:Int) < (q:Nat):=by omega
     have hik:(i:Int) + (k:Int) < (p:Nat) + (q:Nat):=by omega
     go_wp2_with fail
     exact ⟨⟨k + 1,hi',_,rfl,by go_num,by omega,HS.out.1,HS.out.2.1,HS.out.2.2⟩,by simp [intOf];omega⟩
    ·obtain rfl:k=q:=by omega
     have hM':=hM
     rw [← HP.out.2.1,← HX.out.1] at hM'
     have hdn:=hM'.done (a:=limbs a) (by rw [HP.out.2.1];exact HX.out.2.1) (by rw [HP.out.2.1,HX.out.2.2.1];omega)
     rw [HP.out.2.1] at hdn
     have hcb:=hM.cB
     have hrow:=hR.set (j:=i + k) (by omega) cc
     have hbel:=hbl.setCell (p:=⟨wa.heap.size,i + k,none⟩) (Nat.le_refl _) (eU cc)
     unfold eU at hbel
     have hL:=hM.l32.set hcb (i + k)
     have g3:=hR.cell (j:=i + k) (by omega)
     have g4:=hR.frozen (i + k)
     have hcb':(cc:Int) < 4294967296:=by rw [bB_eq] at hcb;omega
     have hlk':¬ (k:Int) < (k:Nat):=by omega
     have hik:(i:Int) + (k:Int) < (p:Nat) + (k:Nat):=by omega
     have HS:=Lib.hid (And.intro hdn (And.intro (show (u.set (i + k) cc).length=p + k by rw [List.length_set];exact hul) (And.intro hL (And.intro hrow hbel))))
     clear hM hM' hR hbl hdn hrow hbel hL hcb
     go_wp2_with fail
     exact ⟨⟨i + 1,_,by go_num,by omega,HS.out.1,HS.out.2.1,HS.out.2.2.1,HS.out.2.2.2.1,HS.out.2.2.2.2⟩,by simp [intOf];omega⟩
  ·obtain rfl:i=p:=by omega
   have hvs:val s=S:=by
    have h1:vTo s (i + q)=val s:=vTo_all (by omega)
    have h2:vTo (limbs a) i=a:=by rw [vTo_all (by rw [HP.out.1];exact Nat.le_refl _),val_limbs]
    rw [h1,h2,val_limbs] at hv
    rw [hv,HP.out.2.2.1]
   have hsl2:=hR.slAll (n:=i + q) hsl (by omega)
   have hsz:=hbl.size
   have HF:=Lib.hid (And.intro hvs (And.intro hs hbl))
   have hlt':¬ (i:Int) < (i:Nat):=by omega
   clear hv hvs hR hbl hs
   go_wp2_with fail
   refine (nat_own _ (i + q) (i + q) s _ hsl2 (Nat.le_refl _) HF.out.2.1 (by omega)).mono ?_
   rintro e wf ⟨R,dr,rfl,ho,hbf⟩
   rw [HF.out.1] at ho ⊢
   have HG:=Lib.hid (And.intro (ho.mono hsz) (HF.out.2.2.trans (hbf.mono hsz)))
   clear ho hbf
   go_wp2_with fail
   go_ret
   exact ⟨R,dr,rfl,HG.out.1,HG.out.2⟩
end Go.Proofs.YtmncjibcoffmfaaGreat
/- nat.left and digit, walked. Conditions: the slices read as limbs, within Go's bound together. -/
namespace Go.Proofs.YtmncjibcoffmfaaGreat
open Go.RowKit

theorem or_u32 (a b:Nat) (ha:a < 4294967296) (hb:b < 4294967296):bits .or .u32 (a:Int) (b:Int)=((a ||| b:Nat):Int):=by
 have hx:a ||| b < 2 ^ 32:=Nat.or_lt_two_pow (by omega) (by omega)
 have h1:(BitVec.ofInt 32 (a:Int)).toNat=a:=by
  rw [BitVec.ofInt_natCast,BitVec.toNat_ofNat];exact Nat.mod_eq_of_lt (by omega)
 have h2:(BitVec.ofInt 32 (b:Int)).toNat=b:=by
  rw [BitVec.ofInt_natCast,BitVec.toNat_ofNat];exact Nat.mod_eq_of_lt (by omega)
 show IntKind.u32.wrap ((BitVec.ofInt 32 (a:Int) ||| BitVec.ofInt 32 (b:Int)).toNat:Int)=_
 rw [BitVec.toNat_or,h1,h2]
 unfold IntKind.wrap
 simp [IntKind.signed,IntKind.bits]
 omega
theorem or_low {y m z:Nat} (hy:y < 2 ^ z):y ||| 2 ^ z * m=y + 2 ^ z * m:=by
 have:=Nat.shiftLeft_add_eq_or_of_lt (a:=m) (b:=y) (i:=z) hy
 rw [Nat.shiftLeft_eq,Nat.mul_comm m] at this
 rw [Nat.or_comm,← this,Nat.add_comm]
theorem low_shift {x z:Nat} (hz:z < 32):x * 2 ^ z % bB=2 ^ z * (x % 2 ^ (32 - z)):=by
 have hdB:bB=2 ^ z * 2 ^ (32 - z):=by rw [← Nat.pow_add,show z + (32 - z)=32 by omega];rfl
 rw [hdB,Nat.mul_comm x,Nat.mul_mod_mul_left]
theorem wrap_u32_nat (m:Nat):IntKind.u32.wrap (m:Int)=((m % bB:Nat):Int):=by
 unfold IntKind.wrap;rw [bB_eq];simp [IntKind.signed,IntKind.bits]
theorem wrap_u64_nat {m:Nat} (h:m < 18446744073709551616):IntKind.u64.wrap (m:Int)=(m:Int):=by
 rw [IntKind.wrap_u64];omega
def LeftPost (n v:Nat) (w:World) (e:Ending) (w':World):Prop:=
 ∃ g s,e=.returned (.slice (some ⟨g,0,none⟩) (n + 1) (n + 1))∧w.heap.size≤g∧RowAt eU w' g 54 s []∧s.length=n + 1∧L32 s∧val s=v∧Below w.heap.size w w'
set_option maxRecDepth 100000 in
set_option maxHeartbeats 800000 in
theorem nat_left (A:Option Addr) (n c z:Nat) (xs:List Nat) (w:World) (h:Sl eU w A n xs) (hl:L32 xs) (hz:z < 32) (hb:(n + 1) * 4≤140737488351232) :
 Calls Tryz.prog 118 #[.slice A n c,.int .i64 (z:Int)] w (LeftPost n (2 ^ z * val xs) w):=by
 have HK:=Lib.hid (And.intro h.len h)
 obtain ⟨wa,hwa⟩:∃ wa:World,wa=w:=⟨_,rfl⟩
 subst hwa
 clear h
 have hz':(z:Int) < 32:=by omega
 have hz0:(0:Int)≤(z:Nat):=by omega
 go_enter Tryz.func118,Tryz.ntmps118
 go_wp2_with (first
  | (refine wpList_mk _ eiNat eU 0 rfl rfl _ _ rfl (n + 1) rfl rfl (by omega) ?_)
  | fail)
 intro w2 hr hb2
 have HB:=Lib.hid (And.intro hr hb2)
 clear hr hb2
 go_wp2_with fail
 have hst0:=LeftAt.start xs z
 rw [HK.out.1] at hst0
 have HST:=Lib.hid hst0
 clear hst0
 go_loopw [14] (fun iv wr=>∃ (i:Nat) (s:List Nat),iv=.int .i64 (i:Nat)∧i≤n∧LeftAt xs s z i∧RowAt eU wr wa.heap.size 54 s []∧Below wa.heap.size wa wr) (fun iv _=>n - (intOf iv).toNat)
 case atStart=>exact ⟨0,_,rfl,Nat.zero_le _,HST.out,HB.out.1,HB.out.2⟩
 case round =>
  obtain ⟨i,s,rfl,hi,hS,hR,hbl⟩:=hrel
  obtain ⟨wb,hwb⟩:∃ wb:World,wb=wr:=⟨_,rfl⟩
  subst hwb
  have hGb:=hR.lt
  have hsl:=hS.len
  rw [HK.out.1] at hsl
  by_cases hlt:i < n
  ·obtain ⟨ba,oa,hAe⟩:=sl_someU HK.out.2 (by omega)
   have hslx:=HK.out.2.below (Nat.le_refl _) hbl
   subst hAe
   have g1:=sl_atU hslx hlt
   have hx:=hl.nth i
   have ⟨hst,hroom⟩:=hS.step hl hz (by rw [HK.out.1];exact hlt)
   have htop:=hS.top
   have hr1:=(hR.set (j:=i) (by omega) (nth s i + nth xs i * 2 ^ z % bB))
   have hr2:=hr1.set (j:=i + 1) (by simp;omega) (nth xs i * 2 ^ z / bB)
   have hb1:=hbl.setCell (p:=⟨wa.heap.size,i,none⟩) (Nat.le_refl _) (eU (nth s i + nth xs i * 2 ^ z % bB))
   have hb3:=hb1.setCell (p:=⟨wa.heap.size,i + 1,none⟩) (Nat.le_refl _) (eU (nth xs i * 2 ^ z / bB))
   have g2:=hR.cell (j:=i) (by omega)
   have g3:=hR.frozen i
   have g5:=hR.cell (j:=i + 1) (by omega)
   have g6:=hR.frozen (i + 1)
   unfold eU at g2 g5
   generalize nth xs i=x at *
   generalize nth s i=y at *
   have hlt':(i:Int) < (n:Nat):=by omega
   have hlt2:(i:Int) < (n:Int) + 1:=by omega
   have hlt3:(i:Int) + 1 < (n:Int) + 1:=by omega
   have hi0:(0:Int)≤(i:Nat):=by omega
   have hX:x * 2 ^ z < 18446744073709551616:=by
    have h1:x * 2 ^ z≤4294967295 * 2 ^ 31:=Nat.mul_le_mul (by rw [bB_eq] at hx;omega) (Nat.pow_le_pow_right (by omega) (by omega))
    omega
   have hlo:x * 2 ^ z % bB < 4294967296:=Nat.mod_lt _ bB_pos
   have hyb:y < 4294967296:=Nat.lt_of_le_of_lt (Nat.le_add_right _ _) hroom
   have hcast:(x:Int) * 2 ^ z=((x * 2 ^ z:Nat):Int):=by push_cast;rfl
   have w1:IntKind.u32.wrap ((x:Int) * 2 ^ z)=((x * 2 ^ z % bB:Nat):Int):=by rw [hcast];exact wrap_u32_nat _
   have w2:bits .or .u32 (y:Int) ((x * 2 ^ z % bB:Nat):Int)=((y + x * 2 ^ z % bB:Nat):Int):=by rw [or_u32 _ _ hyb hlo,low_shift hz,or_low htop]
   have w3:IntKind.u64.wrap ((x:Int) * 2 ^ z)=((x * 2 ^ z:Nat):Int):=by rw [hcast];exact wrap_u64_nat hX
   have w4:((x * 2 ^ z:Nat):Int) / 4294967296=((x * 2 ^ z / bB:Nat):Int):=by rw [bB_eq];rfl
   have w5:((x * 2 ^ z / bB:Nat):Int) < 4294967296:=by
    have:x * 2 ^ z / bB < bB:=Nat.div_lt_of_lt_mul (by rw [bB_eq];omega)
    rw [bB_eq] at this;omega
   have w6:(0:Int)≤((x * 2 ^ z:Nat):Int):=by omega
   have w7:(x:Int) < 4294967296:=by rw [bB_eq] at hx;omega
   have HS:=Lib.hid (And.intro hst (And.intro hr2 hb3))
   clear hcast hX hlo hyb htop hroom hx
   generalize y + x * 2 ^ z % bB=sm at *
   generalize x * 2 ^ z / bB=hv at *
   generalize x * 2 ^ z % bB=lo at *
   generalize x * 2 ^ z=X at *
   clear hst hr1 hr2 hb1 hb3 hS hR hbl hslx
   go_upto_region 5 with fail
   go_still_tail 9,(by kernel_rfl)
   change wpList _ _ _ _ _ wb.drew
   have g2':wb.drew.cell? ⟨wa.heap.size,i,none⟩=some (.int .u32 (y:Int)):=g2
   go_wp2_with fail
   exact ⟨⟨i + 1,_,by go_num,by omega,HS.out.1,HS.out.2.1.drew,below_drewN HS.out.2.2 1⟩,by simp [intOf];omega⟩
  ·obtain rfl:i=n:=by omega
   have hS':=hS
   rw [← HK.out.1] at hS'
   have HF:=Lib.hid (And.intro hR (And.intro hsl (And.intro hS.l32 (And.intro hS'.done hbl))))
   have hlt':¬ (i:Int) < (i:Nat):=by omega
   clear hS hS' hR hbl
   go_wp2_with fail
   go_ret
   exact ⟨wa.heap.size,s,rfl,Nat.le_refl _,HF.out.1,HF.out.2.1,HF.out.2.2.1,HF.out.2.2.2.1,HF.out.2.2.2.2⟩

theorem nth_mid {a s b:List Nat} {i:Nat} (hi:i < s.length):nth (a ++ s ++ b) (a.length + i)=nth s i:=by
 rw [nth_append_left (by simp;omega),nth_append_right (by omega),Nat.add_sub_cancel_left]
theorem set_mid {a s b:List Nat} {i x:Nat} (hi:i < s.length):(a ++ s ++ b).set (a.length + i) x=a ++ s.set i x ++ b:=by
 rw [List.set_append_left _ _ (by simp;omega),List.set_append_right _ _ (by omega),Nat.add_sub_cancel_left]
theorem Sl.grownM {w w':World} {gv ov n:Nat} {xs:List Nat} {g:Nat} (h:Sl eU w (some ⟨gv,ov,none⟩) n xs) (hg:w.grownBy w' (some g)) (hne:gv ≠ g):Sl eU w' (some ⟨gv,ov,none⟩) n xs:=
 ⟨h.len,h.big,fun hn=>by
   obtain ⟨b,o,e,hlt,hc⟩:=h.at' hn
   refine ⟨b,o,e,Nat.lt_of_lt_of_le hlt hg.size,fun j hj=>?_⟩
   rw [← hc j hj]
   injection e with e
   injection e with e1 e2 _
   subst e1
   simp only [World.cell?,hg.block gv hlt (by intro e;injection e with e;exact hne e)]⟩
structure Win (w:World) (g j:Nat) (a s b:List Nat) (rest:List Value):Prop where
 row:RowAt eU w g 54 (a ++ s ++ b) rest
 len:a.length=j
theorem Win.cell {w:World} {g j:Nat} {a s b:List Nat} {rest:List Value} (h:Win w g j a s b rest) {i:Nat} (hi:i < s.length):w.cell? ⟨g,j + i,none⟩=some (.int .u32 ((nth s i:Nat):Int)):=by
 have:=h.row.cell (j:=j + i) (by have:=h.len;simp;omega)
 rw [← h.len,nth_mid hi,h.len] at this
 exact this
theorem Win.frozen {w:World} {g j:Nat} {a s b:List Nat} {rest:List Value} (h:Win w g j a s b rest) (i:Nat):w.frozen? ⟨g,i,none⟩=false:=h.row.frozen i
theorem Win.set {w:World} {g j:Nat} {a s b:List Nat} {rest:List Value} (h:Win w g j a s b rest) {i:Nat} (hi:i < s.length) (x:Nat):Win (w.setCell ⟨g,j + i,none⟩ (eU x)) g j a (s.set i x) b rest:=by
 refine ⟨?_,h.len⟩
 have:=h.row.set (j:=j + i) (by have:=h.len;simp;omega) x
 rw [← h.len,set_mid hi,h.len] at this
 exact this
theorem Win.drewN {w:World} {g j:Nat} {a s b:List Nat} {rest:List Value} (h:Win w g j a s b rest) (k:Nat):Win (w.drewN k) g j a s b rest:=⟨h.row.drewN k,h.len⟩
end Go.Proofs.YtmncjibcoffmfaaGreat
