/- Joined by program out of: RefDivMath, RNatD, RNatE, RNatF, ShiftMath. What each says stands at its own head. -/
import Derived.Test.YtmncjibcoffmfaaGreatJ6
import Derived.Test.YtmncjibcoffmfaaGreatJ8
import Derived.Test.YtmncjibcoffmfaaGreatJ3
import Derived.Lib.BitFns
set_option linter.unusedVariables false
set_option linter.unusedSimpArgs false
/- Plain law of division bit by bit, and of the greatest common divisor by halves and differences. No condition. -/
namespace Go.Proofs.YtmncjibcoffmfaaGreat

theorem val_set:∀ {l:List Nat} {k:Nat},k < l.length→∀ x,val (l.set k x) + bB ^ k * nth l k=val l + bB ^ k * x
 | y :: l,0,_,x=>by simp [val,nth,List.getD];omega
 | y :: l,k + 1,h,x=>by
   have ih:=val_set (l:=l) (k:=k) (by simpa using h) x
   have e1:nth (y :: l) (k + 1)=nth l k:=by simp [nth,List.getD]
   rw [List.set_cons_succ,val_cons,val_cons,e1,Nat.pow_succ']
   have h1:=congrArg (bB * ·) ih
   simp only [Nat.mul_add,← Nat.mul_assoc] at h1
   omega
theorem bB_two (k:Nat):bB ^ k=2 ^ (32 * k):=by rw [show bB=2 ^ 32 from rfl,← Nat.pow_mul]
theorem limb_bit {l:List Nat} (hl:L32 l) (i:Nat):nth l (i / 32) / 2 ^ (i % 32) % 2=val l / 2 ^ i % 2:=by
 have hi:i=32 * (i / 32) + i % 32:=by omega
 have hs:i % 32 < 32:=by omega
 generalize hk:i / 32=k at *
 generalize hm:i % 32=s at *
 rw [hi,Nat.pow_add,← bB_two,← Nat.div_div_eq_div_mul]
 rcases Nat.lt_or_ge k l.length with h | h
 ·rw [nth_val hl h]
  generalize val l / bB ^ k=X
  have e:bB=2 ^ s * (2 * 2 ^ (31 - s)):=by
   rw [← Nat.pow_succ',← Nat.pow_add,show s + (31 - s + 1)=32 by omega];rfl
  rw [e,Nat.mod_mul_right_div_self,Nat.mod_mul_right_mod]
 ·rw [nth_none h]
  have:val l / bB ^ k=0:=Nat.div_eq_of_lt (Nat.lt_of_lt_of_le (val_lt hl) (Nat.pow_le_pow_right bB_pos h))
  rw [this,Nat.zero_div]
structure BitAt (A y:Nat) (q:List Nat) (m i r:Nat):Prop where
 eq:∃ Q,val q=2 ^ i * Q∧A / 2 ^ i=y * Q + r
 rd:r < y
 len:q.length=m
 l32:L32 q
theorem BitAt.start {A y n:Nat} (hA:A < 2 ^ n) (hy:0 < y) (m:Nat):BitAt A y (List.replicate m 0) m n 0:=
 ⟨⟨0,by rw [val_zeros];simp,by rw [Nat.div_eq_of_lt hA];simp⟩,hy,by simp,L32.replicate m⟩
theorem bit_down (A i:Nat):A / 2 ^ i=2 * (A / 2 ^ (i + 1)) + A / 2 ^ i % 2:=by
 rw [Nat.pow_succ,← Nat.div_div_eq_div_mul]
 exact (Nat.div_add_mod (A / 2 ^ i) 2).symm
theorem BitAt.skip {A y:Nat} {q:List Nat} {m i r:Nat} (h:BitAt A y q m (i + 1) r) (hr:2 * r + A / 2 ^ i % 2 < y):BitAt A y q m i (2 * r + A / 2 ^ i % 2):=by
 obtain ⟨Q,h1,h2⟩:=h.eq
 refine ⟨⟨2 * Q,by rw [h1,Nat.pow_succ,Nat.mul_assoc],?_⟩,hr,h.len,h.l32⟩
 have h3:=bit_down A i
 rw [h2] at h3
 have:y * (2 * Q)=2 * (y * Q):=by ac_rfl
 omega
theorem limb_room {q:List Nat} (hq:L32 q) {i Q:Nat} (h:val q=2 ^ (i + 1) * Q) (hi:i / 32 < q.length):nth q (i / 32) + 2 ^ (i % 32) < bB:=by
 have hi2:i=32 * (i / 32) + i % 32:=by omega
 have hs:i % 32 < 32:=by omega
 have hx:=hq.nth (i / 32)
 have hv:=nth_val hq hi
 generalize hk:i / 32=k at *
 generalize hm:i % 32=s at *
 have e1:val q / bB ^ k=2 ^ (s + 1) * Q:=by
  rw [h,show i + 1=32 * k + (s + 1) by omega,Nat.pow_add,← bB_two,Nat.mul_assoc,Nat.mul_div_cancel_left _ (bB_pow_pos k)]
 have e2:bB=2 ^ (s + 1) * 2 ^ (31 - s):=by rw [← Nat.pow_add,show s + 1 + (31 - s)=32 by omega];rfl
 have h3:nth q k=2 ^ (s + 1) * (Q % 2 ^ (31 - s)):=by rw [hv,e1];conv=>lhs;rw [e2];rw [Nat.mul_mod_mul_left]
 have h4:Q % 2 ^ (31 - s) + 1≤2 ^ (31 - s):=Nat.mod_lt _ (Nat.pow_pos (by omega))
 have h5:2 ^ (s + 1) * (Q % 2 ^ (31 - s) + 1)≤2 ^ (s + 1) * 2 ^ (31 - s):=Nat.mul_le_mul_left _ h4
 rw [← e2,Nat.mul_add,← h3,Nat.mul_one] at h5
 have h6:2 ^ s < 2 ^ (s + 1):=Nat.pow_lt_pow_right (by omega) (by omega)
 omega
theorem BitAt.take {A y:Nat} {q:List Nat} {m i r:Nat} (h:BitAt A y q m (i + 1) r) (hr:y≤2 * r + A / 2 ^ i % 2) (hi:i / 32 < m) :
 BitAt A y (q.set (i / 32) (nth q (i / 32) + 2 ^ (i % 32))) m i (2 * r + A / 2 ^ i % 2 - y)∧nth q (i / 32) + 2 ^ (i % 32) < bB:=by
 obtain ⟨Q,h1,h2⟩:=h.eq
 have hl:i / 32 < q.length:=by rw [h.len];exact hi
 have hroom:=limb_room h.l32 h1 hl
 have hrd:=h.rd
 have hb:A / 2 ^ i % 2 < 2:=Nat.mod_lt _ (by omega)
 refine ⟨⟨⟨2 * Q + 1,?_,?_⟩,by omega,by rw [List.length_set];exact h.len,h.l32.set hroom _⟩,hroom⟩
 ·have h3:=val_set hl (nth q (i / 32) + 2 ^ (i % 32))
  rw [Nat.mul_add] at h3
  have h4:bB ^ (i / 32) * 2 ^ (i % 32)=2 ^ i:=by rw [bB_two,← Nat.pow_add];congr 1;omega
  rw [h4] at h3
  rw [Nat.mul_add,Nat.mul_one,← Nat.mul_assoc,← Nat.pow_succ,← h1]
  omega
 ·have h3:=bit_down A i
  rw [h2] at h3
  have:y * (2 * Q + 1)=2 * (y * Q) + y:=by rw [Nat.mul_add,Nat.mul_one,Nat.mul_left_comm]
  omega
theorem BitAt.done {A y:Nat} {q:List Nat} {m r:Nat} (h:BitAt A y q m 0 r):val q=A / y∧r=A % y:=by
 obtain ⟨Q,h1,h2⟩:=h.eq
 have h3:=h.rd
 simp only [Nat.pow_zero,Nat.one_mul,Nat.div_one] at h1 h2
 subst h1
 rw [h2,Nat.mul_add_div (by omega),Nat.div_eq_of_lt h3,Nat.mul_add_mod,Nat.mod_eq_of_lt h3]
 exact ⟨by first | rfl | simp,rfl⟩

theorem gcd_both (x y:Nat):Nat.gcd (2 * x) (2 * y)=2 * Nat.gcd x y:=Nat.gcd_mul_left 2 x y
theorem gcd_half_left {x y:Nat} (hy:y % 2=1):Nat.gcd (2 * x) y=Nat.gcd x y:=by
 have h:Nat.Coprime 2 y:=by
  rw [Nat.Coprime,Nat.gcd_rec,hy];rfl
 exact h.gcd_mul_left_cancel x
theorem gcd_half_right {x y:Nat} (hx:x % 2=1):Nat.gcd x (2 * y)=Nat.gcd x y:=by
 rw [Nat.gcd_comm,gcd_half_left hx,Nat.gcd_comm]
theorem gcd_less {x y:Nat} (h:x≤y):Nat.gcd x (y - x)=Nat.gcd x y:=by
 have h1:y=(y - x) + x:=by omega
 conv=>rhs;rw [h1]
 rw [Nat.gcd_add_self_right]
end Go.Proofs.YtmncjibcoffmfaaGreat
/- The document's naturals: Bits, Bit, double, half, even, walked. Conditions: the slices read as limbs, within their capacities and Go's bound. -/
namespace Go.Proofs.YtmncjibcoffmfaaGreat
open Go.RowKit

theorem val_even:∀ l:List Nat,val l % 2=nth l 0 % 2
 | []=>rfl
 | x :: l=>by
   rw [val_cons,show nth (x :: l) 0=x from rfl,bB_eq]
   omega
structure RHalf (a s:List Nat) (i r:Nat):Prop where
 len:s.length=a.length
 l32:L32 s
 r2:r < 2
 eq:2 * val (s.drop i) + r=val (a.drop i)
theorem RHalf.start (a:List Nat):RHalf a (List.replicate a.length 0) a.length 0:=⟨by simp,L32.replicate _,by omega,by simp [val]⟩
theorem half_fits {B x r:Nat} (hx:x < B) (hr:r < 2):(r * B + x) / 2 < B:=by
 rcases Nat.eq_zero_or_pos r with h | h
 ·rw [h,Nat.zero_mul,Nat.zero_add];omega
 ·rw [show r=1 by omega,Nat.one_mul];omega
theorem half_sum {B x r v q t:Nat} (h:2 * q + t=r * B + x):2 * (q + B * v) + t=x + B * (2 * v + r):=by
 have h5:B * (2 * v + r)=2 * (B * v) + r * B:=by rw [Nat.mul_add,Nat.mul_left_comm,Nat.mul_comm B r]
 omega
theorem nth_set_at {s:List Nat} {i:Nat} (hi:i < s.length) (q:Nat):nth (s.set i q) i=q:=by unfold nth;simp [List.getD,hi]
theorem RHalf.step {a s:List Nat} {i r:Nat} (h:RHalf a s (i + 1) r) (ha:L32 a) (hi:i < a.length):RHalf a (s.set i ((r * bB + nth a i) / 2)) i ((r * bB + nth a i) % 2)∧(r * bB + nth a i) / 2 < bB:=by
 have hq:(r * bB + nth a i) / 2 < bB:=half_fits (ha.nth i) h.r2
 refine ⟨⟨by rw [List.length_set];exact h.len,h.l32.set hq i,Nat.mod_lt _ (by omega),?_⟩,hq⟩
 rw [val_drop (l:=a) hi,← h.eq,val_drop (by rw [List.length_set,h.len];exact hi),List.drop_set_of_lt (by omega),nth_set_at (by rw [h.len];exact hi)]
 exact half_sum (Nat.div_add_mod _ 2)
theorem RHalf.done {a s:List Nat} {r:Nat} (h:RHalf a s 0 r):val s=val a / 2:=by
 have h1:=h.eq
 have h2:=h.r2
 simp only [List.drop_zero] at h1
 omega
structure RDbl (a s:List Nat) (b i c:Nat):Prop where
 len:s.length=i
 c1:c≤1
 l32:L32 s
 eq:val s + c * bB ^ i=2 * vTo a i + b
theorem RDbl.start (a:List Nat) {b:Nat} (hb:b≤1):RDbl a [] b 0 b:=⟨rfl,hb,L32.nil,by simp [val,vTo]⟩
theorem RDbl.step {a s:List Nat} {b i c:Nat} (h:RDbl a s b i c) (ha:L32 a):RDbl a (s ++ [(c + 2 * nth a i) % bB]) b (i + 1) ((c + 2 * nth a i) / bB):=by
 have h1:=ha.nth i
 have h3:=h.c1
 have h4:=h.eq
 refine ⟨by rw [List.length_append,h.len];rfl,?_,h.l32.append (L32.cons (Nat.mod_lt _ bB_pos) L32.nil),?_⟩
 ·rw [bB_eq] at *;omega
 ·rw [val_snoc,h.len,vTo_succ,Nat.pow_succ]
  have h5:=Nat.mod_add_div (c + 2 * nth a i) bB
  generalize (c + 2 * nth a i) % bB=r at *
  generalize (c + 2 * nth a i) / bB=q at *
  generalize bB ^ i=p at *
  have h6:p * r + q * (p * bB)=(r + bB * q) * p:=by rw [Nat.add_mul,Nat.mul_comm p r];congr 1;ac_rfl
  have h7:val s + p * r + q * (p * bB)=val s + (r + bB * q) * p:=by rw [Nat.add_assoc,h6]
  have h8:2 * nth a i * p=2 * (nth a i * p):=Nat.mul_assoc _ _ _
  rw [h7,h5,Nat.add_mul]
  omega
theorem RDbl.all {a s:List Nat} {b c:Nat} (h:RDbl a s b a.length c):val s + c * bB ^ a.length=2 * val a + b:=by
 have:=h.eq
 rwa [vTo_all (Nat.le_refl _)] at this
theorem dbl_limbs {v:Nat} {s:List Nat} {b:Nat} (hv:v ≠ 0) (hs:L32 s) (he:val s=2 * v + b) (hlen:s.length=(limbs v).length):s=limbs (2 * v + b):=by
 have h1:bB ^ ((limbs v).length - 1)≤v:=limbs_ge (by have:(limbs v).length ≠ 0:=fun h=>hv (limbs_nil.1 (List.eq_nil_of_length_eq_zero h));omega)
 have h2:(limbs (2 * v + b)).length=s.length:=by
  have h3:(limbs (2 * v + b)).length≤s.length:=limbs_len (by rw [← he];exact val_lt hs)
  rcases Nat.lt_or_ge (limbs (2 * v + b)).length s.length with h4 | h4
  ·have h5:=limbs_lt (2 * v + b)
   have h6:bB ^ (limbs (2 * v + b)).length≤bB ^ ((limbs v).length - 1):=Nat.pow_le_pow_right bB_pos (by omega)
   omega
  ·omega
 exact L32_val_inj hs (limbs_L32 _) h2.symm (by rw [he,val_limbs])
theorem dbl_limbs_one {v:Nat} {s:List Nat} {b:Nat} (hs:L32 s) (he:val s + bB ^ (limbs v).length=2 * v + b) (hlen:s.length=(limbs v).length):s ++ [1]=limbs (2 * v + b):=by
 have h0:val (s ++ [1])=2 * v + b:=by rw [val_snoc,hlen,Nat.mul_one];exact he
 rw [← h0,limbs_val (hs.append (L32.cons (by decide) L32.nil)),trimL_last (by decide)]

set_option maxRecDepth 100000 in
set_option maxHeartbeats 400000 in
theorem rnat_even (A:Option Addr) (n c:Nat) (xs:List Nat) (w:World) (h:Sl eU w A n xs) (hl:L32 xs) :
 Calls Tryz.prog 123 #[.slice A n c] w fun e w'=>e=.returned (.bool (decide (val xs % 2=0)))∧w=w':=by
 have HV:=Lib.hid (val_even xs)
 have HL:=Lib.hid h.len
 have hx:=hl.nth 0
 rw [bB_eq] at hx
 go_enter Tryz.func123,Tryz.ntmps123
 rcases Nat.eq_zero_or_pos n with rfl | hn
 ·obtain rfl:xs=[]:=List.eq_nil_of_length_eq_zero HL.out
  clear h hx
  go_wp2_with fail
  go_ret
  exact ⟨rfl,by first | rfl | trivial⟩
 ·obtain ⟨b,o,rfl⟩:=sl_someU h hn
  have g1:=sl_atU h hn
  rw [Nat.add_zero] at g1
  generalize nth xs 0=x at *
  have i1:¬ (n:Int)=0:=by omega
  have i2:((n:Int) == 0)=false:=by simp;omega
  have i3:(0:Int) < (n:Nat):=by omega
  clear h
  rcases Nat.mod_two_eq_zero_or_one x with h0 | h0
  ·have q1:(x:Int) % 2=0:=by omega
   have HD:=Lib.hid (show decide (val xs % 2=0)=true by rw [HV.out,h0];rfl)
   go_wp2_with fail
   go_ret
   exact ⟨by rw [HD.out];rfl,by first | rfl | trivial⟩
  ·have q1:(x:Int) % 2=1:=by omega
   have HD:=Lib.hid (show decide (val xs % 2=0)=false by rw [HV.out,h0];rfl)
   go_wp2_with fail
   go_ret
   exact ⟨by rw [HD.out];rfl,by first | rfl | trivial⟩
set_option maxRecDepth 100000 in
set_option maxHeartbeats 800000 in
theorem rnat_half (A:Option Addr) (n c:Nat) (xs:List Nat) (w:World) (h:Sl eU w A n xs) (hl:L32 xs) (hb:n * 4≤140737488351232) :
 Calls Tryz.prog 124 #[.slice A n c] w (NatPost (val xs / 2) w):=by
 have HL:=Lib.hid h.len
 have HS:=Lib.hid h
 clear h
 go_enter Tryz.func124,Tryz.ntmps124
 go_wp2_with (first
  | (refine wpList_mk _ eiNat eU 0 rfl rfl _ _ rfl n rfl rfl (by omega) ?_)
  | fail)
 intro w2 hr hb2
 have HB:=Lib.hid (And.intro hr hb2)
 clear hr hb2
 go_wp2_with fail
 go_loopw [4,5] (fun cv iv wr=>∃ (i r:Nat) (s:List Nat),cv=.int .u64 (r:Int)∧iv=.int .i64 ((i:Int) - 1)∧i≤n∧RHalf xs s i r∧RowAt eU wr w.heap.size 54 s []∧Below w.heap.size w wr) (fun _ iv _=>(intOf iv + 1).toNat)
 case atStart=>exact ⟨n,0,_,rfl,rfl,Nat.le_refl _,by have:=RHalf.start xs;rw [HL.out] at this;exact this,HB.out.1,HB.out.2⟩
 case round =>
  obtain ⟨i,r,s,rfl,rfl,hi,hS,hR,hB⟩:=hrel
  obtain ⟨wb,hwb⟩:∃ wb:World,wb=wr:=⟨_,rfl⟩
  subst hwb
  have hrr:=hS.r2
  have hG:=hR.lt
  rcases i with _ | i
  ·have hv:=hS.done
   have hls:=hS.l32
   have hsl:=hS.len
   rw [HL.out] at hsl
   have hs:=hR.slAll (n:=n) hsl (by omega)
   have hsz:=hB.size
   have HD:=Lib.hid (And.intro hv hB)
   clear hS hR hB hv
   go_wp2_with fail
   refine (rnat_norm _ n n s _ hs (Nat.le_refl _) hls (by omega)).mono ?_
   rintro e wf ⟨R,dr,rfl,ho,hbf⟩
   rw [HD.out.1] at ho ⊢
   have HF:=Lib.hid (And.intro (ho.mono hsz) (HD.out.2.trans (hbf.mono hsz)))
   clear ho hbf
   go_wp2_with fail
   go_ret
   exact ⟨R,dr,rfl,HF.out.1,HF.out.2⟩
  ·rw [show (((i + 1:Nat):Int) - 1)=(i:Int) by omega]
   have hst:=hS.step hl (by rw [HL.out];exact hi)
   have hx:=hl.nth i
   rw [bB_eq] at hx
   have hsl:=hS.len
   rw [HL.out] at hsl
   obtain ⟨b,o,e⟩:=sl_someU HS.out (by omega)
   have g1:=sl_atU (e ▸ HS.out.below (Nat.le_refl _) hB) (show i < n from hi)
   have g3:=hR.cell (j:=i) (by omega)
   have g4:=hR.frozen i
   generalize hxx:nth xs i=x at *
   have q1:((r:Int) * 4294967296 + (x:Int)) / 2=(((r * bB + x) / 2:Nat):Int):=by rw [bB_eq];omega
   have q2:((r:Int) * 4294967296 + (x:Int)) % 2=(((r * bB + x) % 2:Nat):Int):=by rw [bB_eq];omega
   have q3:(x:Int) < 4294967296:=by omega
   have q4:(((r * bB + x) / 2:Nat):Int) < 4294967296:=by have:=hst.2;rw [bB_eq] at this ⊢;omega
   have hrow:=hR.set (j:=i) (by omega) ((r * bB + x) / 2)
   have hbel:=hB.setCell (p:=⟨w.heap.size,i,none⟩) (Nat.le_refl _) (eU ((r * bB + x) / 2))
   unfold eU at hbel
   have HT:=Lib.hid (And.intro hst.1 (And.intro hrow hbel))
   have hlt:i < n:=hi
   have i1:(0:Int)≤(i:Nat):=by omega
   have i2:(i:Int) < (n:Nat):=by omega
   subst e
   clear hst hS hR hB hrow hbel hxx hi
   generalize (r * bB + x) / 2=hq at *
   generalize (r * bB + x) % 2=hm at *
   go_wp2_with fail
   try simp only [q2]
   exact ⟨⟨i,hm,_,rfl,by first | rfl | go_num,by omega,HT.out.1,HT.out.2.1,HT.out.2.2⟩,by simp [intOf]⟩
set_option maxRecDepth 100000 in
set_option maxHeartbeats 800000 in
theorem rnat_double (A:Option Addr) (n c:Nat) (xs:List Nat) (b:Nat) (w:World) (h:Sl eU w A n xs) (hl:L32 xs) (hb1:b≤1) (hb:n * 8≤140737488351232) :
 Calls Tryz.prog 126 #[.slice A n c,.int .u32 (b:Int)] w fun e w'=>∃ R k m l,e=.returned (.slice R m k)∧OwnR eU w' w.heap.size 54 R m k l∧L32 l∧val l=2 * val xs + b∧m≤n + 1∧(xs=limbs (val xs)→val xs ≠ 0→l=limbs (2 * val xs + b))∧Below w.heap.size w w':=by
 have HL:=Lib.hid h.len
 have HS:=Lib.hid h
 clear h
 go_enter Tryz.func126,Tryz.ntmps126
 go_wp2_with fail
 go_loopw [5,6,7] (fun o cv iv wr=>∃ (i cc:Nat) (D:Option Addr) (q:Nat) (s:List Nat),o=.slice D i q∧cv=.int .u64 (cc:Int)∧iv=.int .i64 (i:Nat)∧i≤n∧RDbl xs s b i cc∧OwnR eU wr w.heap.size 54 D i q s∧Below w.heap.size w wr) (fun _ _ iv _=>n - (intOf iv).toNat)
 case atStart=>exact ⟨0,b,none,0,[],rfl,by first | rfl | (congr 1;omega),rfl,Nat.zero_le _,RDbl.start _ hb1,OwnR.nil _ _ _ _,Below.refl _ _⟩
 case round =>
  obtain ⟨i,cc,D,q,s,rfl,rfl,rfl,hi,hS,hO,hB⟩:=hrel
  obtain ⟨wb,hwb⟩:∃ wb:World,wb=wr:=⟨_,rfl⟩
  subst hwb
  have hcc:=hS.c1
  by_cases hlt:i < n
  ·as_aux_lemma =>
   have hst:=hS.step hl
   have hx:=hl.nth i
   rw [bB_eq] at hx
   obtain ⟨bb,o,e⟩:=sl_someU HS.out (by omega)
   have g1:=sl_atU (e ▸ HS.out.below (Nat.le_refl _) hB) hlt
   generalize nth xs i=x at *
   have e2:(((cc + 2 * x) / bB:Nat):Int)=((cc:Int) + 2 * (x:Int)) / 4294967296:=by rw [bB_eq];omega
   have hs1:Sl eU (wb.alloc (.cells #[.int .u32 (((cc:Int) + 2 * (x:Int)) % 4294967296)] 54)) (some ⟨wb.heap.size,0,none⟩) 1 [(cc + 2 * x) % bB]:=by
    have:=Sl.one (enc:=eU) wb 54 ((cc + 2 * x) % bB)
    have e1:eU ((cc + 2 * x) % bB)=.int .u32 (((cc:Int) + 2 * (x:Int)) % 4294967296):=by unfold eU;rw [bB_eq];rfl
    rw [e1] at this
    exact this
   have ho1:=hO.alloc (.cells #[.int .u32 (((cc:Int) + 2 * (x:Int)) % 4294967296)] 54)
   have hb1:=hB.alloc hB.size (.cells #[.int .u32 (((cc:Int) + 2 * (x:Int)) % 4294967296)] 54)
   have hsz:=hb1.size
   have hx':(x:Int) < 4294967296:=by omega
   have HT:=Lib.hid (And.intro hst (And.intro e2 hb1))
   have hlt':(i:Int) < (n:Nat):=by omega
   have i1:(0:Int)≤(i:Nat):=by omega
   subst e
   clear hst e2 hb1 hS hx hO hB
   go_wp2_with (first
    | (at_builtin;refine wpList_app _ eiNat eU eU_one rfl _ _ rfl w.heap.size _ _ _ _ rfl ho1 _ _ _ _ rfl hs1 (by omega) hsz ?_)
    | fail)
   intro D9 q9 w9 ho9 _ hb9 _
   have HR:=Lib.hid (And.intro ho9 (HT.out.2.2.trans hb9))
   clear ho9 hb9 ho1 hs1
   go_wp2_with fail
   exact ⟨⟨i + 1,_,D9,q9,_,by first | rfl | go_num,by rw [HT.out.2.1],by go_num,by omega,HT.out.1,HR.out.1,HR.out.2⟩,by simp [intOf];omega⟩
  ·as_aux_lemma =>
   obtain rfl:i=n:=by omega
   have hS':=hS
   rw [← HL.out] at hS'
   have hv:=hS'.all
   have hls:=hS.l32
   have hln:=hS.len
   have hg1:¬ (i:Int) < (i:Nat):=by omega
   rcases Nat.eq_zero_or_pos cc with rfl | hp
   ·have HD:=Lib.hid (And.intro hv (And.intro hls (And.intro hO (And.intro hB hln))))
    clear hS hS' hv hls hO hB hlt hln
    go_wp2_with fail
    go_ret
    refine ⟨D,q,i,rfl,s,HD.out.2.2.1,HD.out.2.1,by have:=HD.out.1;omega,by omega,fun hx h0=>?_,HD.out.2.2.2.1⟩
    have hx2:=congrArg List.length hx
    exact dbl_limbs h0 HD.out.2.1 (by have:=HD.out.1;omega) (by rw [HD.out.2.2.2.2,← hx2,HL.out])
   ·obtain rfl:cc=1:=by omega
    have hs1:Sl eU (wb.alloc (.cells #[.int .u32 1] 54)) (some ⟨wb.heap.size,0,none⟩) 1 [1]:=Sl.one (enc:=eU) wb 54 1
    have ho1:=hO.alloc (.cells #[.int .u32 1] 54)
    have hb1:=hB.alloc hB.size (.cells #[.int .u32 1] 54)
    have hsz:=hb1.size
    have HD:=Lib.hid (And.intro hv (And.intro hls (And.intro hb1 hln)))
    clear hS hS' hv hls hb1 hO hB hlt hln hcc
    rw [show ((1:Nat):Int)=1 from rfl]
    go_wp2_with (first
     | (at_builtin;refine wpList_app _ eiNat eU eU_one rfl _ _ rfl w.heap.size _ _ _ _ rfl ho1 _ _ _ _ rfl hs1 (by omega) hsz ?_)
     | fail)
    intro D9 q9 w9 ho9 _ hb9 _
    have HR:=Lib.hid (And.intro ho9 (HD.out.2.2.1.trans hb9))
    clear ho9 hb9 ho1 hs1
    go_wp2_with fail
    go_ret
    have hv:=HD.out.1
    refine ⟨D9,q9,i + 1,s ++ [1],rfl,HR.out.1,HD.out.2.1.append (L32.cons (by decide) L32.nil),by rw [val_snoc,HD.out.2.2.2];rw [HL.out] at hv;omega,by omega,fun hx h0=>?_,HR.out.2⟩
    have hx2:=congrArg List.length hx
    rw [HL.out] at hx2
    exact dbl_limbs_one HD.out.2.1 (by rw [← hx2];rw [HL.out] at hv;omega) (by rw [HD.out.2.2.2,hx2])
end Go.Proofs.YtmncjibcoffmfaaGreat
/- The document's naturals: Bits, Bit, walked. Conditions: the slices read as limbs, within their capacities and Go's bound. -/
namespace Go.Proofs.YtmncjibcoffmfaaGreat
open Go.RowKit

theorem bits_top {a p top k:Nat} (hp:(limbs a).length=p + 1) (ht:nth (limbs a) p=top) (hk:top < 2 ^ k):a < 2 ^ (32 * p + k):=by
 have h1:vTo (limbs a) (p + 1)=a:=by rw [vTo_all (Nat.le_of_eq hp),val_limbs]
 rw [vTo_succ,ht] at h1
 have h2:=vTo_lt (limbs_L32 a) p
 have h3:(top + 1) * bB ^ p≤2 ^ k * bB ^ p:=Nat.mul_le_mul_right _ hk
 rw [Nat.add_mul,Nat.one_mul] at h3
 rw [Nat.pow_add,← bB_two,Nat.mul_comm]
 omega
set_option maxRecDepth 100000 in
set_option maxHeartbeats 800000 in
theorem rnat_bits (A:Option Addr) (n c:Nat) (xs:List Nat) (w:World) (h:Sl eU w A n xs) (hc:n≤c) (hl:L32 xs) (hb:n * 4≤140737488351232) :
 Calls Tryz.prog 127 #[.slice A n c] w fun e w'=>∃ k:Nat,e=.returned (.int .i64 (k:Nat))∧val xs < 2 ^ k∧k≤32 * n∧Below w.heap.size w w':=by
 have hle:(limbs (val xs)).length≤n:=by rw [limbs_val hl];have:=trimL_length xs;rw [h.len] at this;exact this
 go_enter Tryz.func127,Tryz.ntmps127
 go_wp2_with fail
 refine (rnat_norm A n c xs _ h hc hl (by omega)).mono ?_
 rintro e w1 ⟨R,d,rfl,ho,hb1⟩
 generalize hva:val xs=a at *
 have HA:=Lib.hid hva
 clear hva
 generalize hp:(limbs a).length=p at *
 have hs:=ho.sl (by omega)
 have HP:=Lib.hid hp
 have HB:=Lib.hid hb1
 clear hp hb1 ho h hl
 rcases p with _ | p
 ·have hz:a=0:=limbs_nil.1 (List.eq_nil_of_length_eq_zero HP.out)
  have HZ:=Lib.hid hz
  clear hz hs
  go_wp2_with fail
  go_ret
  exact ⟨0,rfl,by rw [HA.out,HZ.out];exact Nat.pow_pos (by omega),by omega,HB.out⟩
 ·obtain ⟨b,o,rfl⟩:=sl_someU hs (by omega)
  have g1:=sl_atU hs (show p < p + 1 by omega)
  have hx:=(limbs_L32 a).nth p
  rw [bB_eq] at hx
  generalize htt:nth (limbs a) p=top at *
  have HT:=Lib.hid htt
  have i1:(((p + 1:Nat):Int) - 1)=(p:Int):=by omega
  have i2:(0:Int)≤(p:Nat):=by omega
  have i3:(p:Int) < ((p + 1:Nat):Int):=by omega
  have i4:¬ ((p + 1:Nat):Int)=0:=by omega
  have i5:(((p + 1:Nat):Int) == 0)=false:=by simp;omega
  generalize hP1:p + 1=P1 at *
  clear htt hs
  go_wp2_with fail
  go_loopw [4,5] (fun nv tv wr=>∃ j:Nat,j≤32∧nv=.int .i64 ((32 * p + j:Nat):Int)∧tv=.int .u32 ((top / 2 ^ j:Nat):Int)∧wr=w1) (fun _ tv _=>(intOf tv).toNat)
  case atStart=>exact ⟨0,by omega,by first | rfl | go_num,by simp,rfl⟩
  case round =>
   obtain ⟨j,hj,rfl,rfl,hwr⟩:=hrel
   have hwr:=hwr.symm
   subst hwr
   rcases Nat.eq_zero_or_pos (top / 2 ^ j) with h0 | h0
   ·have hlt:top < 2 ^ j:=by
     rcases Nat.lt_or_ge top (2 ^ j) with h1 | h1
     ·exact h1
     ·have:=Nat.div_pos h1 (Nat.pow_pos (n:=j) (show 0 < 2 by omega));omega
    have HR:=Lib.hid (bits_top (by rw [HP.out,hP1]) HT.out hlt)
    rw [h0]
    clear hlt h0
    go_wp2_with fail
    go_ret
    exact ⟨32 * p + j,by first | rfl | go_num,by rw [HA.out];exact HR.out,by omega,HB.out⟩
   ·have hj2:j < 32:=by
     rcases Nat.lt_or_ge j 32 with h1 | h1
     ·exact h1
     ·have h2:top / 2 ^ j=0:=Nat.div_eq_of_lt (Nat.lt_of_lt_of_le hx (Nat.pow_le_pow_right (n:=2) (by omega) h1))
      omega
    have h3:top / 2 ^ (j + 1)=top / 2 ^ j / 2:=by rw [Nat.pow_succ,Nat.div_div_eq_div_mul]
    have h4:top / 2 ^ j≤top:=Nat.div_le_self _ _
    have H3:=Lib.hid h3
    generalize top / 2 ^ j=t at *
    have j1:decide ((0:Int) < (t:Nat))=true:=by simp;omega
    have j2:decide (0 < t)=true:=by simp;omega
    have j4:(t:Int) < 4294967296:=by omega
    obtain ⟨t2,ht2⟩:∃ t2,t2=t / 2:=⟨_,rfl⟩
    have j5:IntKind.u32.wrap ((t:Int).tdiv 2)=(t2:Int):=by rw [IntWalk.u32_quo _ _ ⟨by omega,by omega,by omega⟩,ht2];omega
    have j6:(t:Int).tdiv 2=(t2:Int):=by rw [Int.tdiv_eq_ediv_of_nonneg (by omega),ht2];omega
    have HT2:=Lib.hid ht2
    clear ht2
    have h0':=Lib.hid h0
    clear h0 h3
    go_wp2_with fail
    exact ⟨⟨j + 1,by omega,by first | rfl | go_num,by rw [H3.out,← HT2.out];first | rfl | (congr 1;have:=HT2.out;omega),by first | rfl | trivial⟩,by have:=h0'.out;have:=HT2.out;simp [intOf];omega⟩
set_option maxRecDepth 100000 in
set_option maxHeartbeats 400000 in
theorem rnat_bit (A:Option Addr) (n c:Nat) (xs:List Nat) (i:Nat) (w:World) (h:Sl eU w A n xs) (hl:L32 xs) (hi:i < 9223372036854775808) :
 Calls Tryz.prog 128 #[.slice A n c,.int .i64 (i:Nat)] w fun e w'=>e=.returned (.int .u32 ((val xs / 2 ^ i % 2:Nat):Int))∧w=w':=by
 have HV:=Lib.hid (limb_bit hl i)
 have hx:=hl.nth (i / 32)
 have q0:(i:Int) < 9223372036854775808:=by omega
 have q1:(i:Int) / 32=((i / 32:Nat):Int):=by omega
 have q2:(i:Int) % 32=((i % 32:Nat):Int):=by omega
 have q3:i % 32 < 32:=by omega
 generalize i / 32=j at *
 generalize i % 32=s at *
 have q4:IntKind.i64.wrap ((i:Int).tdiv 32)=(j:Int):=by rw [IntWalk.i64_quo _ _ ⟨by omega,by omega,by omega⟩];exact q1
 go_enter Tryz.func128,Tryz.ntmps128
 go_wp2_with fail
 refine (rnat_limb A n c xs j _ h hl).mono ?_
 rintro e w1 ⟨rfl,rfl⟩
 generalize nth xs j=x at *
 rw [bB_eq] at hx
 go_wp2_with fail
 go_ret
 have h1:((x / 2 ^ s:Nat):Int)=(x:Int) / 2 ^ s:=by simp
 have h2:((x / 2 ^ s % 2:Nat):Int)=(x:Int) / 2 ^ s % 4294967296 % 2:=by rw [← h1];omega
 exact ⟨by rw [← HV.out,h2];rfl,by first | rfl | trivial⟩
end Go.Proofs.YtmncjibcoffmfaaGreat
/- The document's naturals: DivMod, walked. Conditions: the slices read as limbs, within their capacities and Go's bound together; the divisor is not 0. -/
namespace Go.Proofs.YtmncjibcoffmfaaGreat
open Go.RowKit

theorem rfits8 {x:Nat} (h:x≤4000000000000):x * 8≤140737488351232:=Nat.le_trans (Nat.mul_le_mul_right 8 h) (by decide)
theorem limbs_len_le {a b:Nat} (h:a≤b):(limbs a).length≤(limbs b).length:=limbs_len (Nat.lt_of_le_of_lt h (limbs_lt b))
set_option maxRecDepth 100000 in
set_option maxHeartbeats 1600000 in
theorem rnat_divmod (A B:Option Addr) (n c m d:Nat) (xs ys:List Nat) (w:World) (h:Sl eU w A n xs) (hc:n≤c) (hl:L32 xs) (k:Sl eU w B m ys) (kc:m≤d) (kl:L32 ys) (hb0:n + m≤1000000000000) (hy:val ys ≠ 0) :
 Calls Tryz.prog 105 #[.slice A n c,.slice B m d] w fun e w'=>∃ Q q R r,e=.returned (.tuple #[.slice Q (limbs (val xs / val ys)).length q,.slice R (limbs (val xs % val ys)).length r,.int .i64 0]) ∧
  OwnR eU w' w.heap.size 54 Q (limbs (val xs / val ys)).length q (limbs (val xs / val ys))∧OwnR eU w' w.heap.size 54 R (limbs (val xs % val ys)).length r (limbs (val xs % val ys))∧Below w.heap.size w w':=by
 have kle:(limbs (val ys)).length≤m:=by rw [limbs_val kl];have:=trimL_length ys;rw [k.len] at this;exact this
 have hpos:0 < (limbs (val ys)).length:=by
  rcases Nat.eq_zero_or_pos (limbs (val ys)).length with h0 | h0
  ·exact absurd (limbs_nil.1 (List.eq_nil_of_length_eq_zero h0)) hy
  ·exact h0
 go_enter Tryz.func105,Tryz.ntmps105
 go_wp2_with fail
 refine (rnat_norm B m d ys _ k kc kl (by omega)).mono ?_
 rintro e w1 ⟨Y,cy,rfl,oY,hb1⟩
 have h1:=h.below (Nat.le_refl _) hb1
 generalize hyv:val ys=y at *
 generalize hp:(limbs y).length=p at *
 have HY:=Lib.hid (And.intro hyv (And.intro hp (And.intro oY hb1)))
 clear hyv hp oY hb1 h k kl
 have i1:¬ (p:Int)=0:=by omega
 have i2:((p:Int) == 0)=false:=by simp;omega
 go_wp2_with fail
 refine (rnat_bits A n c xs _ h1 hc hl (by omega)).mono ?_
 rintro e w2 ⟨kb,rfl,hkb,hkn,hb2⟩
 have h2:=h1.below (Nat.le_refl _) hb2
 have oY2:=HY.out.2.2.1.below (Nat.le_refl _) hb2
 have hB2:=HY.out.2.2.2.trans (hb2.mono HY.out.2.2.2.size)
 have HK:=Lib.hid (And.intro hkb (And.intro h2 (And.intro oY2 hB2)))
 clear hkb h1 hb2 h2 oY2 hB2 i1 i2
 obtain ⟨mq,hmq⟩:∃ mq,mq=(kb + 31) / 32:=⟨_,rfl⟩
 have j1:IntKind.i64.wrap (((kb:Int) + 31).tdiv 32)=(mq:Int):=by rw [IntWalk.i64_quo _ _ ⟨by omega,by omega,by omega⟩,hmq];omega
 have j2:((kb:Int) + 31).tdiv 32=(mq:Int):=by rw [Int.tdiv_eq_ediv_of_nonneg (by omega),hmq];omega
 have j3:mq≤n + 1:=by omega
 have HM:=Lib.hid hmq
 clear hmq
 go_wp2_with (first
  | (refine wpList_mk _ eiNat eU 0 rfl rfl _ _ rfl mq rfl rfl (by omega) ?_)
  | fail)
 intro w3 hr3 hb3
 have HR3:=Lib.hid (And.intro hr3 hb3)
 clear hr3 hb3 j1 j2
 go_wp2_with fail
 go_loopw [10,11] (fun rv iv wr=>∃ (i r:Nat) (R:Option Addr) (cr:Nat) (q:List Nat),rv=.slice R (limbs r).length cr∧iv=.int .i64 ((i:Int) - 1)∧i≤kb∧BitAt (val xs) y q mq i r∧OwnR eU wr (w2.heap.size + 1) 54 R (limbs r).length cr (limbs r)∧RowAt eU wr w2.heap.size 54 q []∧Below w2.heap.size w2 wr) (fun _ iv _=>(intOf iv + 1).toNat)
 case atStart=>exact ⟨kb,0,none,0,_,by rw [limbs_zero];rfl,rfl,Nat.le_refl _,BitAt.start HK.out.1 (by omega) mq,by rw [limbs_zero];exact OwnR.nil _ _ _ _,HR3.out.1,HR3.out.2⟩
 case round =>
  obtain ⟨i,r,R,cr,q,rfl,rfl,hi,hQ,hO,hR,hB⟩:=hrel
  obtain ⟨wb,hwb⟩:∃ wb:World,wb=wr:=⟨_,rfl⟩
  subst hwb
  have hG:=hR.lt
  rcases i with _ | i
  ·as_aux_lemma =>
   obtain ⟨e1,e2⟩:=hQ.done
   have hls:=hQ.l32
   have hln:=hQ.len
   have hs:=hR.slAll (n:=mq) hln (by omega)
   have hsz:=hB.size
   have HD:=Lib.hid (And.intro e1 (And.intro e2 (And.intro hO hB)))
   clear hQ hO hR hB e1 e2
   go_wp2_with fail
   refine (rnat_norm _ mq mq q _ hs (Nat.le_refl _) hls (by omega)).mono ?_
   rintro e wf ⟨F,dr,rfl,ho,hbf⟩
   rw [HD.out.1] at ho ⊢
   have HF:=Lib.hid (And.intro ho hbf)
   clear ho hbf
   go_wp2_with fail
   have hw2:=HK.out.2.2.2.size
   have e2:=HD.out.2.1
   refine bodyPost_ret (v:=.tuple #[.slice F (limbs (val xs / y)).length dr,.slice R (limbs r).length cr,.int .i64 0]) (by simp [results,Tryz.results105,go_sem]) rfl ⟨F,dr,R,cr,by rw [HY.out.1,← e2],by rw [HY.out.1];exact HF.out.1.mono (by omega),by rw [HY.out.1,← e2];exact (HD.out.2.2.1.mono (by omega)).below (Nat.le_refl _) HF.out.2,?_⟩
   exact HK.out.2.2.2.trans ((HD.out.2.2.2.trans (HF.out.2.mono hsz)).mono hw2)
  ·as_aux_lemma =>
   rw [show (((i + 1:Nat):Int) - 1)=(i:Int) by omega]
   have hri:=hQ.rd
   have hrl:=limbs_len_le (Nat.le_of_lt hri)
   rw [HY.out.2.1] at hrl
   have hs:=hO.sl (by omega)
   have hsz:=hB.size
   have H2:=HK.out.2.1.below (Nat.le_refl _) hB
   have hbt1:val xs / 2 ^ i % 2≤1:=by have:=Nat.mod_lt (val xs / 2 ^ i) (show 0 < 2 by omega);omega
   have hskip:=hQ.skip (i:=i)
   have htake:=hQ.take (i:=i)
   have hqi:i / 32 < mq:=by have:=HM.out;omega
   have hql:=hQ.len
   have hqn:=hQ.l32.nth (i / 32)
   have HS:=Lib.hid (And.intro hskip (And.intro (fun hr=>htake hr hqi) (And.intro hR hB)))
   clear hskip htake hQ hR hB hO
   have i1:(0:Int)≤(i:Nat):=by omega
   go_wp2_with fail
   refine (rnat_bit A n c xs i _ H2 hl (by omega)).mono ?_
   rintro e w4 ⟨rfl,rfl⟩
   generalize val xs / 2 ^ i % 2=bt at *
   clear H2
   go_wp2_with fail
   refine (rnat_double R (limbs r).length cr (limbs r) bt _ hs (limbs_L32 r) hbt1 (by omega)).mono ?_
   rintro e w5 ⟨R5,k5,m5,l5,rfl,o5,l5l,v5,m5n,_,hb5⟩
   rw [val_limbs] at v5
   have s5:=o5.sl (by omega)
   have c5:=o5.cap
   clear o5 hs
   go_wp2_with fail
   refine (rnat_norm R5 m5 k5 l5 _ s5 c5 l5l (by omega)).mono ?_
   rintro e w6 ⟨R6,k6,rfl,o6,hb6⟩
   rw [v5] at o6 ⊢
   have hb56:=hb5.trans (hb6.mono hb5.size)
   have o6:=o6.mono hb5.size
   have hlen6:(limbs (2 * r + bt)).length≤p + 1:=by
    have h1:2 * r + bt < bB ^ (p + 1):=by
     have h3:r < bB ^ p:=Nat.lt_of_lt_of_le (limbs_lt r) (Nat.pow_le_pow_right bB_pos hrl)
     have h4:2≤bB:=by rw [bB_eq];omega
     have h5:2 * bB ^ p≤bB * bB ^ p:=Nat.mul_le_mul_right _ h4
     have h6:bB ^ (p + 1)=bB * bB ^ p:=Nat.pow_succ'
     rw [h6]
     omega
    exact limbs_len h1
   have s6:=o6.sl (by omega)
   have sY:=((HK.out.2.2.1.below (Nat.le_refl _) HS.out.2.2.2).below (Nat.le_refl _) hb56).sl (by omega)
   clear s5 c5 l5l v5 m5n
   generalize hrr:2 * r + bt=rr at *
   have H6:=Lib.hid (And.intro o6 (And.intro hb56 sY))
   clear hb5 hb6 hb56 o6
   go_wp2_with fail
   refine (rnat_cmp R6 Y (limbs rr).length k6 p cy (limbs rr) (limbs y) _ s6 (limbs_L32 _) sY (limbs_L32 _)).mono ?_
   rintro e w7 ⟨rfl,rfl⟩
   rw [val_limbs,val_limbs]
   have hsz6:=H6.out.2.1.size
   rcases Nat.lt_or_ge rr y with hlt | hge
   ·rw [cmpN_lt hlt]
    have HR:=Lib.hid (HS.out.1 hlt)
    clear sY s6
    go_wp2_with fail
    exact ⟨⟨i,rr,R6,k6,q,rfl,by first | rfl | go_num,by omega,HR.out,H6.out.1.mono (by omega),HS.out.2.2.1.below H6.out.2.1 (by omega),HS.out.2.2.2.trans (H6.out.2.1.mono hsz)⟩,by simp [intOf]⟩
   ·obtain ⟨z,hz,hz2⟩:∃ z,cmpN rr y=z∧0≤z:=⟨_,rfl,by unfold cmpN;rw [if_neg (by omega)];split <;> omega⟩
    rw [hz]
    have z1:decide (z ≥ 0)=true:=by simpa using hz2
    clear hz
    have HR:=Lib.hid (HS.out.2.1 hge)
    go_wp2_with fail
    refine (rnat_sub R6 Y (limbs rr).length k6 p cy (limbs rr) (limbs y) _ s6 (limbs_L32 _) sY (limbs_L32 _) (rfits8 (by omega))).mono ?_
    rintro e w8 hp8
    rw [val_limbs,val_limbs] at hp8
    rcases hp8 with ⟨hbad,_⟩ | ⟨_,R8,k8,rfl,o8,hb8⟩
    ·omega
    ·have hrow8:=(HS.out.2.2.1.below H6.out.2.1 (by omega)).below hb8 (by omega)
     have hbel8:=(HS.out.2.2.2.trans (H6.out.2.1.mono hsz)).trans (hb8.mono (by omega))
     have g3:=hrow8.cell (j:=i / 32) (by omega)
     have g4:=hrow8.frozen (i / 32)
     have hfit:=HR.out.2
     obtain ⟨ii,hii⟩:∃ ii,ii=i / 32:=⟨_,rfl⟩
     obtain ⟨ss,hss⟩:∃ ss,ss=i % 32:=⟨_,rfl⟩
     rw [← hii] at g3 g4 hqi hqn hfit
     rw [← hss] at hfit
     have q4:IntKind.i64.wrap ((i:Int).tdiv 32)=(ii:Int):=by rw [IntWalk.i64_quo _ _ ⟨by omega,by omega,by omega⟩,hii];omega
     have q4a:IntKind.i64.wrap ((i:Int) / 32)=(ii:Int):=by rw [hii,IntWalk.i64_in _ ⟨by omega,by omega⟩];omega
     have q5:(i:Int).tmod 32=(ss:Int):=by rw [Int.tmod_eq_emod_of_nonneg (by omega),hss];omega
     have q6:(i:Int) % 32=(ss:Int):=by rw [hss];omega
     have q7:(0:Int)≤(ii:Nat):=by omega
     have q8:(ii:Int) < (mq:Nat):=by omega
     generalize hqv:nth q ii=qv at *
     have H8:=Lib.hid (And.intro o8 (And.intro hrow8 (And.intro hbel8 (And.intro hii (And.intro hss hqv)))))
     clear o8 hrow8 hbel8 hb8 hii hss s6 sY hqv
     unfold eU at g3
     go_wp2_with fail
     refine wp_region_lastL (S:=fun w'=>w'.cell? ⟨w2.heap.size,ii,none⟩=some (.int .u32 (qv:Int))) 13 13 (by kernel_rfl) rfl rfl rfl (by kernel_rfl) ?hS1 (fun hHeld=>?rest1)
     case hS1=>(first | assumption | exact g3 | go_keep)
     refine tk 0 rfl ?_
     try simp only [Act.put,sp]
     refine tk 1 rfl ?_
     try simp only [Act.put,sp]
     refine tk 2 rfl ?_
     try simp only [Act.put,sp]
     refine tk 3 rfl ?_
     try simp only [Act.put,sp]
     refine tk 4 rfl ?_
     try simp only [Act.put,sp]
     refine tk 5 rfl ?_
     try simp only [Act.put,sp]
     refine tk 6 rfl ?_
     try simp only [Act.put,sp]
     refine tk 7 rfl ?_
     try simp only [Act.put,sp]
     refine tk 8 rfl ?_
     try simp only [Act.put,sp]
     refine tk 9 rfl ?_
     try simp only [Act.put,sp]
     refine tk 10 rfl ?_
     try simp only [Act.put,sp]
     refine tk 11 rfl ?_
     try simp only [Act.put,sp]
     refine tk 12 rfl ?_
     try simp only [Act.put,sp]
     refine wpAnyH_done (by kernel_rfl) ?_ _
     unfold AheadOf
     go_simp
     have hval:IntKind.u32.wrap ((qv:Int) + IntKind.u32.wrap (2 ^ ss))=((qv + 2 ^ ss:Nat):Int):=by
      obtain ⟨P,hP⟩:∃ P:Nat,P=2 ^ ss:=⟨_,rfl⟩
      have e1:((2:Int) ^ ss)=(P:Int):=by rw [hP];simp
      rw [bB_eq,← hP] at hfit
      rw [← hP,e1,IntWalk.u32_in (P:Int) ⟨by omega,by omega⟩,IntWalk.u32_in _ ⟨by omega,by omega⟩]
      omega
     rw [hval]
     have hrow:=H8.out.2.1.set (j:=ii) (by omega) (qv + 2 ^ ss)
     have hbel:=H8.out.2.2.1.setCell (p:=⟨w2.heap.size,ii,none⟩) (Nat.le_refl _) (eU (qv + 2 ^ ss))
     have hbit:=HR.out.1
     rw [← H8.out.2.2.2.1,← H8.out.2.2.2.2.1,H8.out.2.2.2.2.2] at hbit
     have ho:=(H8.out.1.setFar (p:=⟨w2.heap.size,ii,none⟩) (fun g e=>by
      rcases H8.out.1.at_row with h | ⟨g',h,h3,_⟩
      ·rw [h] at e;cases e
      ·rw [h] at e;injection e with e;injection e with e;show g ≠ w2.heap.size;omega) (eU (qv + 2 ^ ss))).mono (show w2.heap.size + 1≤_ by omega)
     have HX:=Lib.hid (And.intro hbit (And.intro ho (And.intro hrow hbel)))
     clear hval hrow hbel hbit ho
     go_wp2_with fail
     exact ⟨⟨i,rr - y,R8,k8,_,rfl,by first | rfl | go_num,by omega,HX.out.1,HX.out.2.1.drewN 1,HX.out.2.2.1.drewN 1,below_drewN HX.out.2.2.2 1⟩,by simp [intOf]⟩
end Go.Proofs.YtmncjibcoffmfaaGreat
/- Plain law of a divisor shifted up till its highest bit is set. No condition. -/
namespace Go.Proofs.YtmncjibcoffmfaaGreat

theorem bitLen_bounds (x:Nat):x ≠ 0→x < 2 ^ 64→x < 2 ^ Lib.bitLen x∧2 ^ Lib.bitLen x≤2 * x:=by
 induction x using Nat.strongRecOn with
 | ind x ih =>
   intro h0 h
   rw [Lib.bitLen_half x h0 h]
   rcases Nat.eq_zero_or_pos (x / 2) with h2 | h2
   ·obtain rfl:x=1:=by omega
    exact ⟨by decide,by decide⟩
   ·obtain ⟨h3,h4⟩:=ih (x / 2) (by omega) (by omega) (by omega)
    rw [Nat.add_comm,Nat.pow_succ]
    omega
theorem shift_norm {b m x z:Nat} (hm:(limbs b).length=m) (hp:0 < m) (hx:nth (limbs b) (m - 1)=x) (hz:z + Lib.bitLen x=32) :
 (limbs (2 ^ z * b)).length=m∧bB≤2 * nth (limbs (2 ^ z * b)) (m - 1)∧z≤31:=by
 have hx0:x ≠ 0:=by
  have:=limbs_end (n:=b) (by omega)
  rw [hm,hx] at this
  exact this
 have hxB:x < bB:=by rw [← hx];exact (limbs_L32 b).nth _
 obtain ⟨h1,h2⟩:=bitLen_bounds x hx0 (by rw [bB_eq] at hxB;omega)
 have hB:bB=2 ^ z * 2 ^ Lib.bitLen x:=by rw [← Nat.pow_add,hz];rfl
 have hz31:z≤31:=by
  rcases Nat.eq_zero_or_pos (Lib.bitLen x) with h | h
  ·rw [h] at h1;omega
  ·omega
 have hv:=val_split (limbs b) (i:=m - 1) (by omega)
 rw [val_limbs,val_drop (by omega),List.drop_eq_nil_of_le (by omega),val_nil,hx,Nat.mul_zero,Nat.add_zero] at hv
 have ht:=val_take_lt (limbs_L32 b) (m - 1)
 have hBm:bB ^ m=bB * bB ^ (m - 1):=by rw [← Nat.pow_succ'];congr 1;omega
 have hup:2 ^ z * b < bB ^ m:=by
  have h3:b + 1≤(x + 1) * bB ^ (m - 1):=by rw [Nat.add_mul,Nat.mul_comm x];omega
  have h4:2 ^ z * (b + 1)≤2 ^ z * ((x + 1) * bB ^ (m - 1)):=Nat.mul_le_mul_left _ h3
  have h5:2 ^ z * ((x + 1) * bB ^ (m - 1))≤2 ^ z * (2 ^ Lib.bitLen x * bB ^ (m - 1)):=Nat.mul_le_mul_left _ (Nat.mul_le_mul_right _ h1)
  rw [← Nat.mul_assoc,← Nat.mul_assoc,← hB] at h5
  rw [← Nat.mul_assoc] at h4
  rw [Nat.mul_add,Nat.mul_one] at h4
  have:=Nat.pow_pos (n:=z) (show 0 < 2 by omega)
  rw [hBm]
  omega
 have hlow:bB ^ m≤2 * (2 ^ z * b):=by
  have h3:bB ^ (m - 1) * x≤b:=by omega
  have h4:2 ^ z * (bB ^ (m - 1) * x)≤2 ^ z * b:=Nat.mul_le_mul_left _ h3
  have h5:2 ^ z * 2 ^ Lib.bitLen x * bB ^ (m - 1)≤2 ^ z * (2 * x) * bB ^ (m - 1):=Nat.mul_le_mul_right _ (Nat.mul_le_mul_left _ h2)
  rw [← hB] at h5
  have h6:2 ^ z * (2 * x) * bB ^ (m - 1)=2 * (2 ^ z * (bB ^ (m - 1) * x)):=by ac_rfl
  rw [hBm]
  omega
 have hl1:=limbs_len hup
 have hP:=bB_pow_pos (m - 1)
 have hl2:m≤(limbs (2 ^ z * b)).length:=by
  rcases Nat.lt_or_ge (limbs (2 ^ z * b)).length m with h | h
  ·exfalso
   have h3:=limbs_lt (2 ^ z * b)
   have h4:bB ^ (limbs (2 ^ z * b)).length≤bB ^ (m - 1):=Nat.pow_le_pow_right bB_pos (by omega)
   rw [hBm] at hlow
   have h5:2 * bB ^ (m - 1)≤bB * bB ^ (m - 1):=Nat.mul_le_mul_right _ (by rw [bB_eq];omega)
   omega
  ·exact h
 have hl:(limbs (2 ^ z * b)).length=m:=by omega
 refine ⟨hl,?_,hz31⟩
 have hv2:=val_split (limbs (2 ^ z * b)) (i:=m - 1) (by omega)
 rw [val_limbs,val_drop (by omega),List.drop_eq_nil_of_le (by omega),val_nil,Nat.mul_zero,Nat.add_zero] at hv2
 have ht2:=val_take_lt (limbs_L32 (2 ^ z * b)) (m - 1)
 generalize nth (limbs (2 ^ z * b)) (m - 1)=t at *
 have h3:2 ^ z * b < (t + 1) * bB ^ (m - 1):=by rw [Nat.add_mul,Nat.mul_comm t];omega
 have h4:bB * bB ^ (m - 1) < 2 * (t + 1) * bB ^ (m - 1):=by rw [Nat.mul_assoc 2,← hBm];omega
 have h5:=Nat.lt_of_mul_lt_mul_right h4
 rw [bB_eq] at h5 ⊢
 omega
theorem DivAt.win {A V:Nat} {u q:List Nat} {nv j:Nat} (h:DivAt A V u q nv (j + 1)) (hVn:V≤bB ^ nv) (hl:j + nv + 1≤u.length):val ((u.drop j).take (nv + 1)) < V * bB:=by
 have hlt:val u < bB ^ (j + (nv + 1)):=by
  have h1:=h.lt
  have h2:V * bB ^ (j + 1)≤bB ^ nv * bB ^ (j + 1):=Nat.mul_le_mul_right _ hVn
  rw [← Nat.pow_add] at h2
  rw [show j + (nv + 1)=nv + (j + 1) by omega]
  omega
 have hwin:=window_val (u:=u) (j:=j) (m:=nv + 1) (by omega) hlt
 have h1:=h.lt
 rw [hwin,Nat.pow_succ] at h1
 rcases Nat.lt_or_ge (val ((u.drop j).take (nv + 1))) (V * bB) with h3 | h3
 ·exact h3
 ·exfalso
  have h4:bB ^ j * (V * bB)≤bB ^ j * val ((u.drop j).take (nv + 1)):=Nat.mul_le_mul_left _ h3
  have h5:V * (bB ^ j * bB)=bB ^ j * (V * bB):=by ac_rfl
  omega
theorem DivAt.start {a b n m z:Nat} (ha:(limbs a).length=n) (hz:z≤31) (hV:bB ^ m≤2 * (2 ^ z * b)) (hmn:m≤n) {u q:List Nat} (hu:val u=2 ^ z * a) (hlu:L32 u) (hlq:L32 q) (hql:q.length=n - m + 1):DivAt (2 ^ z * a) (2 ^ z * b) u q m (n - m + 1):=by
 refine ⟨?_,?_,hlu,hlq⟩
 ·rw [List.drop_eq_nil_of_le (by omega),val_nil,Nat.mul_zero,Nat.add_zero,hu]
 ·rw [hu]
  have h1:a < bB ^ n:=by have:=limbs_lt a;rwa [ha] at this
  have h2:2 ^ z * a < 2 ^ z * bB ^ n:=Nat.mul_lt_mul_of_pos_left h1 (Nat.pow_pos (by omega))
  have h3:2 ^ z * bB ^ n≤2 ^ 31 * bB ^ n:=Nat.mul_le_mul_right _ (Nat.pow_le_pow_right (by omega) hz)
  have h4:bB ^ m * bB ^ (n - m + 1)≤2 * (2 ^ z * b) * bB ^ (n - m + 1):=Nat.mul_le_mul_right _ hV
  rw [← Nat.pow_add,show m + (n - m + 1)=n + 1 by omega,Nat.pow_succ',Nat.mul_assoc 2] at h4
  have h5:bB * bB ^ n=2 * (2 ^ 31 * bB ^ n):=by rw [← Nat.mul_assoc];rfl
  omega
theorem shift_low {b m x z:Nat} (hm:(limbs b).length=m) (hp:0 < m) (hx:nth (limbs b) (m - 1)=x) (hz:z + Lib.bitLen x=32):bB ^ m≤2 * (2 ^ z * b):=by
 obtain ⟨h1,h2,_⟩:=shift_norm hm hp hx hz
 have hv2:=val_split (limbs (2 ^ z * b)) (i:=m - 1) (by omega)
 rw [val_limbs,val_drop (by omega),List.drop_eq_nil_of_le (by omega),val_nil,Nat.mul_zero,Nat.add_zero] at hv2
 have h3:bB * bB ^ (m - 1)≤2 * nth (limbs (2 ^ z * b)) (m - 1) * bB ^ (m - 1):=Nat.mul_le_mul_right _ h2
 have h4:bB ^ m=bB * bB ^ (m - 1):=by rw [← Nat.pow_succ'];congr 1;omega
 rw [Nat.mul_assoc 2,Nat.mul_comm (nth _ _)] at h3
 rw [h4]
 omega
end Go.Proofs.YtmncjibcoffmfaaGreat
