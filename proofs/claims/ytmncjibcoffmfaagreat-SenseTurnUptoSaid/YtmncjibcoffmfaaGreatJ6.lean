/- Joined by program out of: NatStep, NatDiv. What each says stands at its own head. -/
import Derived.Test.YtmncjibcoffmfaaGreatJ1
set_option linter.unusedVariables false
set_option linter.unusedSimpArgs false
/- Plain law of the loops over limbs, round by round: sums, differences, products, quotients, shifts. No condition. -/
namespace Go.Proofs.YtmncjibcoffmfaaGreat

theorem vTo_set_ge (l:List Nat) (x:Nat):∀ {k i:Nat},k≤i→vTo (l.set i x) k=vTo l k
 | 0,_,_=>rfl
 | k + 1,i,h=>by
   unfold vTo
   rw [vTo_set_ge l x (by omega),nth_set_other (by omega)]
theorem vTo_set_succ {l:List Nat} {i:Nat} (h:i < l.length) (x:Nat):vTo (l.set i x) (i + 1)=vTo l i + x * bB ^ i:=by
 show vTo (l.set i x) i + nth (l.set i x) i * bB ^ i=_
 rw [vTo_set_ge l x (Nat.le_refl _),nth_set_same h]
theorem vTo_succ (l:List Nat) (k:Nat):vTo l (k + 1)=vTo l k + nth l k * bB ^ k:=rfl
theorem vTo_zero (l:List Nat):vTo l 0=0:=rfl

structure SumAt (a b s:List Nat) (n i c:Nat):Prop where
 eq:vTo s i + c * bB ^ i=vTo a i + vTo b i
 c1:c≤1
 len:s.length=n
 l32:L32 s
theorem SumAt.start (a b:List Nat) (n:Nat):SumAt a b (List.replicate n 0) n 0 0:=⟨rfl,by omega,by simp,L32.replicate n⟩
theorem SumAt.step {a b s:List Nat} {n i c:Nat} (h:SumAt a b s n i c) (ha:L32 a) (hb:L32 b) (hi:i < n) :
 SumAt a b (s.set i ((c + nth a i + nth b i) % bB)) n (i + 1) ((c + nth a i + nth b i) / bB):=by
 have h1:=ha.nth i
 have h2:=hb.nth i
 have h3:=h.c1
 have hb0:=bB_pos
 generalize hx:nth a i=x at *
 generalize hy:nth b i=y at *
 refine ⟨?_,?_,by rw [List.length_set];exact h.len,h.l32.set (Nat.mod_lt _ bB_pos) _⟩
 ·rw [vTo_set_succ (by rw [h.len];exact hi),vTo_succ,vTo_succ,hx,hy]
  have h4:=h.eq
  have h5:=Nat.mod_add_div (c + x + y) bB
  generalize (c + x + y) % bB=r at *
  generalize (c + x + y) / bB=q at *
  rw [Nat.pow_succ]
  generalize bB ^ i=P at *
  have h6:r * P + q * (P * bB)=(c + x + y) * P:=by rw [← h5,Nat.add_mul,Nat.mul_comm P bB,← Nat.mul_assoc,Nat.mul_comm q bB]
  rw [Nat.add_mul,Nat.add_mul] at h6
  omega
 ·have:(c + x + y) / bB < 2:=Nat.div_lt_of_lt_mul (by omega)
  omega
theorem SumAt.done {a b s:List Nat} {n c:Nat} (h:SumAt a b s (n + 1) n c) (ha:a.length≤n) (hb:b.length≤n):val (s.set n c)=val a + val b:=by
 have h1:=h.eq
 have h2:=h.c1
 rw [vTo_all ha,vTo_all hb] at h1
 rw [← vTo_all (l:=s.set n c) (k:=n + 1) (by rw [List.length_set,h.len];exact Nat.le_refl _),vTo_set_succ (by rw [h.len];omega)]
 exact h1
structure LessAt (a b s:List Nat) (i c:Nat):Prop where
 eq:vTo s i + vTo b i=vTo a i + c * bB ^ i
 c1:c≤1
 len:s.length=a.length
 l32:L32 s
 rest:∀ j,i≤j→nth s j=nth a j
theorem LessAt.start {a b:List Nat} (ha:L32 a):LessAt a b a 0 0:=⟨rfl,by omega,rfl,ha,fun _ _=>rfl⟩
def lessD (x t:Nat):Nat:=(x + bB - t) % bB
def lessC (x t:Nat):Nat:=if x < t then 1 else 0
theorem lessD_eq {x t:Nat} (hx:x < bB) (ht:t≤bB):lessD x t + t=x + lessC x t * bB:=by
 unfold lessD lessC
 have:=bB_pos
 split
 ·rw [Nat.mod_eq_of_lt (by omega)];omega
 ·rw [show x + bB - t=(x - t) + bB by omega,Nat.add_mod_right,Nat.mod_eq_of_lt (by omega)];omega
theorem lessC_le (x t:Nat):lessC x t≤1:=by unfold lessC;split <;> omega
theorem LessAt.step {a b s:List Nat} {i c:Nat} (h:LessAt a b s i c) (ha:L32 a) (hb:L32 b) (hi:i < a.length) :
 LessAt a b (s.set i (lessD (nth a i) (c + nth b i))) (i + 1) (lessC (nth a i) (c + nth b i)):=by
 have h1:=ha.nth i
 have h2:=hb.nth i
 have h3:=h.c1
 generalize hx:nth a i=x at *
 generalize hy:nth b i=y at *
 have h5:=lessD_eq h1 (show c + y≤bB by omega)
 refine ⟨?_,lessC_le _ _,by rw [List.length_set];exact h.len,h.l32.set (Nat.mod_lt _ bB_pos) _,fun j hj=>by rw [nth_set_other (by omega)];exact h.rest j (by omega)⟩
 rw [vTo_set_succ (by rw [h.len];exact hi),vTo_succ,vTo_succ,hx,hy,Nat.pow_succ]
 have h4:=h.eq
 generalize lessD x (c + y)=d at *
 generalize lessC x (c + y)=e at *
 generalize bB ^ i=P at *
 have h6:(d + (c + y)) * P=(x + e * bB) * P:=by rw [h5]
 rw [Nat.add_mul,Nat.add_mul,Nat.add_mul,Nat.mul_assoc,Nat.mul_comm bB P] at h6
 omega
theorem LessAt.done {a b s:List Nat} {c:Nat} (h:LessAt a b s a.length c) (hb:b.length≤a.length) (hle:val b≤val a):val s=val a - val b:=by
 have h1:=h.eq
 rw [vTo_all hb,vTo_all (Nat.le_refl _),vTo_all (Nat.le_of_eq h.len)] at h1
 have h2:=val_lt h.l32
 rw [h.len] at h2
 have h3:=h.c1
 rcases Nat.eq_zero_or_pos c with h0 | h0
 ·subst h0;simp at h1;omega
 ·obtain rfl:c=1:=by omega
  omega
structure MulAt (p0 b s:List Nat) (x i k c:Nat):Prop where
 eq:vTo s (i + k) + c * bB ^ (i + k)=vTo p0 (i + k) + x * bB ^ i * vTo b k
 cB:c < bB
 len:s.length=p0.length
 l32:L32 s
 rest:∀ j,i + k≤j→nth s j=nth p0 j
theorem MulAt.start {p0 b:List Nat} (x i:Nat) (hp:L32 p0):MulAt p0 b p0 x i 0 0:=⟨by simp [vTo],bB_pos,rfl,hp,fun _ _=>rfl⟩
theorem mul_fits {c x y z:Nat} (hc:c < bB) (hx:x < bB) (hy:y < bB) (hz:z < bB):c + x * y + z < bB * bB:=by
 have h1:x * y≤(bB - 1) * (bB - 1):=Nat.mul_le_mul (by omega) (by omega)
 have h2:(bB - 1) * (bB - 1) + (bB - 1) + (bB - 1) < bB * bB:=by decide
 omega
theorem MulAt.step {p0 b s:List Nat} {x i k c:Nat} (h:MulAt p0 b s x i k c) (hp:L32 p0) (hb:L32 b) (hx:x < bB) (hi:i + k < p0.length) :
 MulAt p0 b (s.set (i + k) ((c + x * nth b k + nth p0 (i + k)) % bB)) x i (k + 1) ((c + x * nth b k + nth p0 (i + k)) / bB):=by
 have h1:=hp.nth (i + k)
 have h2:=hb.nth k
 have h3:=mul_fits h.cB hx h2 h1
 generalize hz:nth p0 (i + k)=z at *
 generalize hy:nth b k=y at *
 refine ⟨?_,Nat.div_lt_of_lt_mul h3,by rw [List.length_set];exact h.len,h.l32.set (Nat.mod_lt _ bB_pos) _,fun j hj=>by rw [nth_set_other (by omega)];exact h.rest j (by omega)⟩
 rw [← Nat.add_assoc,vTo_set_succ (by rw [h.len];exact hi),vTo_succ,vTo_succ,hz,hy,Nat.pow_succ]
 have h4:=h.eq
 have h5:=Nat.mod_add_div (c + x * y + z) bB
 generalize (c + x * y + z) % bB=r at *
 generalize (c + x * y + z) / bB=q at *
 have h7:x * bB ^ i * (vTo b k + y * bB ^ k)=x * bB ^ i * vTo b k + x * y * bB ^ (i + k):=by
  rw [Nat.mul_add,Nat.pow_add]
  have:x * bB ^ i * (y * bB ^ k)=x * y * (bB ^ i * bB ^ k):=by ac_rfl
  rw [this]
 rw [h7]
 generalize x * bB ^ i * vTo b k=M at *
 generalize bB ^ (i + k)=P at *
 have h6:r * P + q * (P * bB)=(c + x * y + z) * P:=by rw [← h5,Nat.add_mul,Nat.mul_comm P bB,← Nat.mul_assoc,Nat.mul_comm q bB]
 rw [Nat.add_mul,Nat.add_mul] at h6
 omega
theorem MulAt.done {p0 b s a:List Nat} {i c:Nat} (h:MulAt p0 b s (nth a i) i b.length c) (hp:vTo p0 (i + b.length)=vTo a i * val b) (hi:i + b.length < p0.length):vTo (s.set (i + b.length) c) (i + 1 + b.length)=vTo a (i + 1) * val b:=by
 have h1:=h.eq
 rw [hp,vTo_all (Nat.le_refl _)] at h1
 rw [show i + 1 + b.length=i + b.length + 1 by omega,vTo_set_succ (by rw [h.len];exact hi),vTo_succ,Nat.add_mul]
 exact h1
structure SmallAt (a s:List Nat) (d i r:Nat):Prop where
 eq:val (s.drop i) * d + r=val (a.drop i)
 rd:r < d
 len:s.length=a.length
 l32:L32 s
 rest:∀ j,j < i→nth s j=nth a j
theorem SmallAt.start {a:List Nat} {d:Nat} (ha:L32 a) (hd:0 < d):SmallAt a a d a.length 0:=⟨by rw [List.drop_eq_nil_of_le (Nat.le_refl _)];simp [val],hd,rfl,ha,fun _ _=>rfl⟩
theorem SmallAt.step {a s:List Nat} {d i r:Nat} (h:SmallAt a s d (i + 1) r) (ha:L32 a) (hi:i < a.length):SmallAt a (s.set i ((r * bB + nth a i) / d)) d i ((r * bB + nth a i) % d):=by
 have hd:0 < d:=by have:=h.rd;omega
 have h1:=ha.nth i
 have hr:=h.rd
 have hq:(r * bB + nth a i) / d < bB:=by
  rw [Nat.div_lt_iff_lt_mul hd]
  have h2:(r + 1) * bB≤d * bB:=Nat.mul_le_mul_right _ hr
  rw [Nat.add_mul] at h2
  rw [Nat.mul_comm bB d]
  omega
 refine ⟨?_,Nat.mod_lt _ hd,by rw [List.length_set];exact h.len,h.l32.set hq _,fun j hj=>by rw [nth_set_other (by omega)];exact h.rest j (by omega)⟩
 rw [val_drop (by rw [List.length_set,h.len];exact hi),nth_set_same (by rw [h.len];exact hi),List.drop_set_of_lt (by omega),val_drop hi]
 have h3:=h.eq
 have h4:=Nat.div_add_mod (r * bB + nth a i) d
 generalize (r * bB + nth a i) / d=q at *
 generalize (r * bB + nth a i) % d=t at *
 generalize val (s.drop (i + 1))=V at *
 generalize val (a.drop (i + 1))=W at *
 generalize nth a i=x at *
 have h5:bB * (V * d + r)=bB * W:=by rw [h3]
 rw [Nat.mul_add,← Nat.mul_assoc,Nat.mul_comm bB r] at h5
 rw [Nat.add_mul,Nat.mul_comm q d]
 omega
theorem SmallAt.done {a s:List Nat} {d r:Nat} (h:SmallAt a s d 0 r):val s=val a / d∧r=val a % d:=by
 have h1:=h.eq
 simp only [List.drop_zero] at h1
 have h2:=h.rd
 rw [← h1,Nat.mul_comm,Nat.mul_add_div (by omega),Nat.div_eq_of_lt h2,Nat.mul_add_mod,Nat.mod_eq_of_lt h2]
 exact ⟨rfl,rfl⟩
structure TakeAt (u v s:List Nat) (g i c b:Nat):Prop where
 eq:vTo s i + g * vTo v i=vTo u i + (c + b) * bB ^ i
 cB:c < bB
 b1:b≤1
 len:s.length=u.length
 l32:L32 s
 rest:∀ j,i≤j→nth s j=nth u j
theorem TakeAt.start {u v:List Nat} (g:Nat) (hu:L32 u):TakeAt u v u g 0 0 0:=⟨by simp [vTo],bB_pos,by omega,rfl,hu,fun _ _=>rfl⟩
theorem TakeAt.step {u v s:List Nat} {g i c b:Nat} (h:TakeAt u v s g i c b) (hu:L32 u) (hv:L32 v) (hg:g < bB) (hi:i < u.length) :
 TakeAt u v (s.set i (lessD (nth u i) ((c + g * nth v i) % bB + b))) g (i + 1) ((c + g * nth v i) / bB) (lessC (nth u i) ((c + g * nth v i) % bB + b)):=by
 have h1:=hu.nth i
 have h2:=hv.nth i
 have h3:=mul_fits h.cB hg h2 bB_pos
 have hb:=h.b1
 generalize hx:nth u i=x at *
 generalize hy:nth v i=y at *
 have h4:(c + g * y) % bB < bB:=Nat.mod_lt _ bB_pos
 have h5:=lessD_eq h1 (show (c + g * y) % bB + b≤bB by omega)
 refine ⟨?_,Nat.div_lt_of_lt_mul (by omega),lessC_le _ _,by rw [List.length_set];exact h.len,h.l32.set (Nat.mod_lt _ bB_pos) _,fun j hj=>by rw [nth_set_other (by omega)];exact h.rest j (by omega)⟩
 rw [vTo_set_succ (by rw [h.len];exact hi),vTo_succ,vTo_succ,hx,hy,Nat.pow_succ]
 have h6:=h.eq
 have h7:=Nat.mod_add_div (c + g * y) bB
 generalize (c + g * y) % bB=r at *
 generalize (c + g * y) / bB=q at *
 generalize lessD x (r + b)=d at *
 generalize lessC x (r + b)=e at *
 have h8:g * (vTo v i + y * bB ^ i)=g * vTo v i + g * y * bB ^ i:=by rw [Nat.mul_add,Nat.mul_assoc]
 rw [h8]
 generalize g * vTo v i=M at *
 generalize g * y=gy at *
 generalize bB ^ i=P at *
 have h9:(d + (r + b)) * P=(x + e * bB) * P:=by rw [h5]
 have h10:(r + bB * q) * P=(c + gy) * P:=by rw [h7]
 have h11:(q + e) * (P * bB)=bB * q * P + e * bB * P:=by
  rw [Nat.add_mul]
  congr 1
  ·ac_rfl
  ·ac_rfl
 rw [h11]
 rw [Nat.add_mul,Nat.add_mul,Nat.add_mul] at h9
 rw [Nat.add_mul,Nat.add_mul] at h10
 rw [Nat.add_mul] at h6
 omega
theorem TakeAt.done {u v s:List Nat} {g n c b:Nat} (h:TakeAt u v s g n c b) (hu:L32 u) (hl:u.length=n + 1) (hv:v.length=n) :
 val (s.set n (lessD (nth u n) (c + b))) + g * val v=val u + lessC (nth u n) (c + b) * bB ^ (n + 1):=by
 have h1:=hu.nth n
 have hb:=h.b1
 have hc:=h.cB
 have h5:=lessD_eq h1 (show c + b≤bB by omega)
 rw [← vTo_all (l:=s.set n _) (k:=n + 1) (by rw [List.length_set,h.len,hl];exact Nat.le_refl _),vTo_set_succ (by rw [h.len,hl];omega),← vTo_all (l:=u) (k:=n + 1) (Nat.le_of_eq hl),vTo_succ,← vTo_all (l:=v) (k:=n) (Nat.le_of_eq hv),Nat.pow_succ]
 have h6:=h.eq
 generalize nth u n=x at *
 generalize lessD x (c + b)=d at *
 generalize lessC x (c + b)=e at *
 generalize bB ^ n=P at *
 have h9:(d + (c + b)) * P=(x + e * bB) * P:=by rw [h5]
 rw [Nat.add_mul d,Nat.add_mul x,Nat.mul_assoc,Nat.mul_comm bB P] at h9
 omega
structure BackAt (u v s:List Nat) (i c:Nat):Prop where
 eq:vTo s i + c * bB ^ i=vTo u i + vTo v i
 c1:c≤1
 len:s.length=u.length
 l32:L32 s
 rest:∀ j,i≤j→nth s j=nth u j
theorem BackAt.start {u v:List Nat} (hu:L32 u):BackAt u v u 0 0:=⟨rfl,by omega,rfl,hu,fun _ _=>rfl⟩
theorem BackAt.step {u v s:List Nat} {i c:Nat} (h:BackAt u v s i c) (hu:L32 u) (hv:L32 v) (hi:i < u.length) :
 BackAt u v (s.set i ((c + (nth u i + nth v i)) % bB)) (i + 1) ((c + (nth u i + nth v i)) / bB):=by
 have h1:=hu.nth i
 have h2:=hv.nth i
 have h3:=h.c1
 have hb0:=bB_pos
 generalize hx:nth u i=x at *
 generalize hy:nth v i=y at *
 refine ⟨?_,?_,by rw [List.length_set];exact h.len,h.l32.set (Nat.mod_lt _ bB_pos) _,fun j hj=>by rw [nth_set_other (by omega)];exact h.rest j (by omega)⟩
 ·rw [vTo_set_succ (by rw [h.len];exact hi),vTo_succ,vTo_succ,hx,hy]
  have h4:=h.eq
  have h5:=Nat.mod_add_div (c + (x + y)) bB
  generalize (c + (x + y)) % bB=r at *
  generalize (c + (x + y)) / bB=q at *
  rw [Nat.pow_succ]
  generalize bB ^ i=P at *
  have h6:r * P + q * (P * bB)=(c + (x + y)) * P:=by rw [← h5,Nat.add_mul,Nat.mul_comm P bB,← Nat.mul_assoc,Nat.mul_comm q bB]
  rw [Nat.add_mul,Nat.add_mul] at h6
  omega
 ·have:(c + (x + y)) / bB < 2:=Nat.div_lt_of_lt_mul (by omega)
  omega
theorem BackAt.done {u v s:List Nat} {n c:Nat} (h:BackAt u v s n c) (hl:u.length=n + 1) (hv:v.length=n) :
 ∃ e,val (s.set n ((nth u n + c) % bB)) + e * bB ^ (n + 1)=val u + val v:=by
 refine ⟨(nth u n + c) / bB,?_⟩
 rw [← vTo_all (l:=s.set n _) (k:=n + 1) (by rw [List.length_set,h.len,hl];exact Nat.le_refl _),vTo_set_succ (by rw [h.len,hl];omega),← vTo_all (l:=u) (k:=n + 1) (Nat.le_of_eq hl),vTo_succ,← vTo_all (l:=v) (k:=n) (Nat.le_of_eq hv),Nat.pow_succ]
 have h6:=h.eq
 have h5:=Nat.mod_add_div (nth u n + c) bB
 generalize nth u n=x at *
 generalize (x + c) % bB=r at *
 generalize (x + c) / bB=q at *
 generalize bB ^ n=P at *
 have h9:r * P + q * (P * bB)=(x + c) * P:=by rw [← h5,Nat.add_mul,Nat.mul_comm P bB,← Nat.mul_assoc,Nat.mul_comm q bB]
 rw [Nat.add_mul] at h9
 omega
end Go.Proofs.YtmncjibcoffmfaaGreat
/- Plain law of long division, the whole of it: one digit; shifts; the digits in turn. No condition. -/
namespace Go.Proofs.YtmncjibcoffmfaaGreat

theorem digit_right {U V g T B1:Nat} (hV:0 < V) (hg:g=U / V ∨ g=U / V + 1) (he:T + g * V=U + 0 * B1):g=U / V∧T=U % V:=by
 have h1:=Nat.div_add_mod U V
 have h2:=Nat.mod_lt U hV
 rcases hg with rfl | rfl
 ·refine ⟨rfl,?_⟩
  rw [Nat.mul_comm] at he
  omega
 ·exfalso
  rw [Nat.add_mul,Nat.one_mul,Nat.mul_comm] at he
  omega
theorem digit_back {U V g T W B1 e:Nat} (hV:0 < V) (hlt:V≤B1) (hg:g=U / V ∨ g=U / V + 1) (hT:T < B1) (he:T + g * V=U + 1 * B1) (hW:W < B1) (hb:W + e * B1=T + V):1≤g∧g - 1=U / V∧W=U % V:=by
 have h1:=Nat.div_add_mod U V
 have h2:=Nat.mod_lt U hV
 rcases hg with rfl | rfl
 ·exfalso
  rw [Nat.mul_comm] at he
  omega
 ·refine ⟨Nat.le_add_left _ _,Nat.add_sub_cancel _ _,?_⟩
  rw [Nat.add_mul,Nat.one_mul,Nat.mul_comm] at he
  rcases Nat.eq_zero_or_pos e with h0 | h0
  ·subst h0;omega
  ·rcases Nat.lt_or_ge e 2 with h3 | h3
   ·obtain rfl:e=1:=by omega
    omega
   ·exfalso
    have:=Nat.mul_le_mul_right B1 h3
    omega
theorem val_top2 {l:List Nat} {k:Nat} (h:l.length=k + 2):val l=(nth l (k + 1) * bB + nth l k) * bB ^ k + val (l.take k):=by
 rw [val_split l (i:=k) (by omega),val_drop (by omega),val_drop (by omega),List.drop_eq_nil_of_le (by omega),val_nil]
 rw [Nat.mul_zero,Nat.add_zero,Nat.add_comm (nth l k),Nat.mul_comm bB (nth l (k + 1)),Nat.mul_comm (bB ^ k),Nat.add_comm]
theorem val_top3 {l:List Nat} {k:Nat} (h:l.length=k + 3):val l=((nth l (k + 2) * bB + nth l (k + 1)) * bB + nth l k) * bB ^ k + val (l.take k):=by
 rw [val_split l (i:=k) (by omega),val_drop (by omega),val_drop (by omega),val_drop (by omega),List.drop_eq_nil_of_le (by omega),val_nil]
 generalize nth l k=z
 rw [show k + 1 + 1=k + 2 from rfl]
 generalize nth l (k + 1)=y
 generalize nth l (k + 2)=x
 generalize bB ^ k=P
 generalize val (l.take k)=T
 grind
theorem val_take_lt {l:List Nat} (h:L32 l) (k:Nat):val (l.take k) < bB ^ k:=by
 have h1:=val_lt (h.take k)
 have h2:bB ^ (l.take k).length≤bB ^ k:=Nat.pow_le_pow_right bB_pos (by simp;omega)
 omega

structure LeftAt (a s:List Nat) (z i:Nat):Prop where
 eq:vTo s (i + 1)=2 ^ z * vTo a i
 top:nth s i < 2 ^ z
 len:s.length=a.length + 1
 l32:L32 s
 rest:∀ j,i < j→nth s j=0
theorem nth_rep {k j:Nat}:nth (List.replicate k (0:Nat)) j=0:=by
 rcases Nat.lt_or_ge j k with h | h
 ·rw [nth_eq (by simpa using h)];simp
 ·exact nth_none (by simpa using h)
theorem LeftAt.start (a:List Nat) (z:Nat):LeftAt a (List.replicate (a.length + 1) 0) z 0:=by
 refine ⟨?_,by rw [nth_rep];exact Nat.pow_pos (by omega),by simp,L32.replicate _,fun j _=>nth_rep⟩
 show 0 + _ * _=_
 rw [nth_rep];simp [vTo]
theorem LeftAt.step {a s:List Nat} {z i:Nat} (h:LeftAt a s z i) (ha:L32 a) (hz:z < 32) (hi:i < a.length) :
 LeftAt a ((s.set i (nth s i + nth a i * 2 ^ z % bB)).set (i + 1) (nth a i * 2 ^ z / bB)) z (i + 1)∧nth s i + nth a i * 2 ^ z % bB < bB:=by
 have h1:=ha.nth i
 have h2:=h.top
 have hzB:2 ^ z≤2 ^ 31:=Nat.pow_le_pow_right (by omega) (by omega)
 have hdiv:nth a i * 2 ^ z / bB < 2 ^ z:=by
  rw [Nat.div_lt_iff_lt_mul bB_pos,Nat.mul_comm (2 ^ z)]
  exact Nat.mul_lt_mul_of_lt_of_le h1 (Nat.le_refl _) (Nat.pow_pos (by omega))
 have hdB:bB=2 ^ z * 2 ^ (32 - z):=by rw [← Nat.pow_add,show z + (32 - z)=32 by omega];rfl
 have hlow:nth s i + nth a i * 2 ^ z % bB < bB:=by
  have h3:nth a i * 2 ^ z % bB=2 ^ z * (nth a i % 2 ^ (32 - z)):=by
   rw [hdB,Nat.mul_comm (nth a i),Nat.mul_mod_mul_left]
  have h4:nth a i % 2 ^ (32 - z) < 2 ^ (32 - z):=Nat.mod_lt _ (Nat.pow_pos (by omega))
  have h5:2 ^ z * (nth a i % 2 ^ (32 - z) + 1)≤2 ^ z * 2 ^ (32 - z):=Nat.mul_le_mul_left _ h4
  rw [Nat.mul_add,← hdB,Nat.mul_one,← h3] at h5
  omega
 refine ⟨⟨?_,by rw [nth_set_same (by simp;rw [h.len];omega)];exact hdiv,by simp [h.len],(h.l32.set hlow _).set (Nat.lt_of_lt_of_le hdiv (by rw [bB_eq];omega)) _,fun j hj=>by rw [nth_set_other (by omega),nth_set_other (by omega)];exact h.rest j (by omega)⟩,hlow⟩
 rw [vTo_set_succ (by simp;rw [h.len];omega),vTo_set_succ (by rw [h.len];omega),vTo_succ,Nat.mul_add]
 have h3:=h.eq
 rw [vTo_succ] at h3
 have h5:=Nat.mod_add_div (nth a i * 2 ^ z) bB
 generalize nth a i * 2 ^ z % bB=r at *
 generalize nth a i * 2 ^ z / bB=q at *
 rw [← h3,Nat.pow_succ]
 have h6:2 ^ z * (nth a i * bB ^ i)=nth a i * 2 ^ z * bB ^ i:=by ac_rfl
 rw [h6,← h5,Nat.add_mul,Nat.add_mul]
 have h7:q * (bB ^ i * bB)=bB * q * bB ^ i:=by ac_rfl
 omega
theorem LeftAt.done {a s:List Nat} {z:Nat} (h:LeftAt a s z a.length):val s=2 ^ z * val a:=by
 rw [← vTo_all (Nat.le_of_eq h.len),h.eq,vTo_all (Nat.le_refl _)]
theorem down_digit {l:List Nat} (hl:L32 l) {i z:Nat} (hi:i < l.length) (hz:z < 32):(nth l (i + 1) * bB + nth l i) / 2 ^ z % bB=val l / 2 ^ z / bB ^ i % bB:=by
 rw [Nat.div_div_eq_div_mul,Nat.mul_comm (2 ^ z),← Nat.div_div_eq_div_mul,div_pow l hl (by omega),val_drop hi]
 have hdB:bB=2 ^ z * 2 ^ (32 - z):=by rw [← Nat.pow_add,show z + (32 - z)=32 by omega];rfl
 have h2:val (l.drop (i + 1))=nth l (i + 1) + bB * val (l.drop (i + 2)):=by
  rcases Nat.lt_or_ge (i + 1) l.length with h | h
  ·exact val_drop h
  ·rw [nth_none h,List.drop_eq_nil_of_le h,List.drop_eq_nil_of_le (by omega)];simp [val]
 rw [h2,Nat.mul_add,Nat.mul_comm bB (nth l (i + 1)),← Nat.add_assoc,Nat.add_comm (nth l i)]
 generalize nth l (i + 1) * bB + nth l i=X
 have h3:bB * (bB * val (l.drop (i + 2)))=2 ^ z * (bB * (2 ^ (32 - z) * val (l.drop (i + 2)))):=by
  conv=>lhs;arg 1;rw [hdB]
  ac_rfl
 rw [h3,Nat.add_mul_div_left _ _ (Nat.pow_pos (by omega)),Nat.add_mul_mod_self_left]
theorem val_digits:∀ {l:List Nat} {n:Nat},n < bB ^ l.length→(∀ j,j < l.length→nth l j=n / bB ^ j % bB)→val l=n
 | [],n,h,_=>by
   have:n=0:=by simpa using h
   rw [this];rfl
 | x :: l,n,h,hd=>by
   have h0:=hd 0 (by simp)
   simp only [Nat.pow_zero,Nat.div_one] at h0
   have h1:x=n % bB:=h0
   rw [val_cons,val_digits (l:=l) (n:=n / bB) (by rw [Nat.div_lt_iff_lt_mul bB_pos,← Nat.pow_succ];exact h) (fun j hj=>by
    have:=hd (j + 1) (by simpa using hj)
    rw [Nat.div_div_eq_div_mul,← Nat.pow_succ']
    simpa [nth,List.getD] using this),h1,Nat.mod_add_div]
structure DownAt (u s:List Nat) (z i:Nat):Prop where
 done:∀ j,j < i→nth s j=val u / 2 ^ z / bB ^ j % bB
 len:s.length=u.length
 l32:L32 s
 rest:∀ j,i≤j→nth s j=nth u j
theorem DownAt.start {u:List Nat} (z:Nat) (hu:L32 u):DownAt u u z 0:=⟨fun j hj=>by omega,rfl,hu,fun _ _=>rfl⟩
theorem DownAt.step {u s:List Nat} {z i:Nat} (h:DownAt u s z i) (hu:L32 u) (hz:z < 32) (hi:i < u.length):DownAt u (s.set i ((nth u (i + 1) * bB + nth u i) / 2 ^ z % bB)) z (i + 1):=by
 refine ⟨fun j hj=>?_,by rw [List.length_set];exact h.len,h.l32.set (Nat.mod_lt _ bB_pos) _,fun j hj=>by rw [nth_set_other (by omega)];exact h.rest j (by omega)⟩
 rcases Nat.lt_or_ge j i with h1 | h1
 ·rw [nth_set_other (by omega)];exact h.done j h1
 ·obtain rfl:j=i:=by omega
  rw [nth_set_same (by rw [h.len];exact hi),down_digit hu hi hz]
theorem DownAt.fin {u s:List Nat} {z:Nat} (h:DownAt u s z u.length) (hu:L32 u):val s=val u / 2 ^ z:=by
 refine val_digits ?_ (fun j hj=>h.done j (by rw [← h.len];exact hj))
 rw [h.len]
 have:=val_lt hu
 have:=Nat.div_le_self (val u) (2 ^ z)
 omega
structure DivAt (A V:Nat) (u q:List Nat) (nv j:Nat):Prop where
 eq:val u + bB ^ j * V * val (q.drop j)=A
 lt:val u < V * bB ^ j
 lu:L32 u
 lq:L32 q
theorem mod_shift {a b z:Nat}:(2 ^ z * a) % (2 ^ z * b) / 2 ^ z=a % b:=by
 rw [Nat.mul_mod_mul_left,Nat.mul_div_cancel_left _ (Nat.pow_pos (by omega))]
theorem div_shift {a b z:Nat}:(2 ^ z * a) / (2 ^ z * b)=a / b:=by
 rw [Nat.mul_div_mul_left _ _ (Nat.pow_pos (by omega))]
theorem DivAt.done {A V:Nat} {u q:List Nat} {nv:Nat} (h:DivAt A V u q nv 0):val q=A / V∧val u=A % V:=by
 have h1:=h.eq
 have h2:=h.lt
 simp only [Nat.pow_zero,Nat.one_mul,Nat.mul_one,List.drop_zero] at h1 h2
 have hV:0 < V:=by omega
 rw [← h1,Nat.add_mul_div_left _ _ hV,Nat.div_eq_of_lt h2,Nat.add_mul_mod_self_left,Nat.mod_eq_of_lt h2]
 exact ⟨by simp,rfl⟩
theorem window_val {u:List Nat} {j m:Nat} (hl:j + m≤u.length) (hlt:val u < bB ^ (j + m)):val u=val (u.take j) + bB ^ j * val ((u.drop j).take m):=by
 rw [val_split u (i:=j) (by omega)]
 congr 2
 rw [val_split (u.drop j) (i:=m) (by simp;omega)]
 have h0:val ((u.drop j).drop m)=0:=by
  rcases Nat.eq_zero_or_pos (val ((u.drop j).drop m)) with h | h
  ·exact h
  ·exfalso
   rw [List.drop_drop] at h
   have h1:=val_split u hl
   have:bB ^ (j + m) * 1≤bB ^ (j + m) * val (u.drop (j + m)):=Nat.mul_le_mul_left _ h
   omega
 rw [h0];simp
theorem DivAt.step {A V:Nat} {u q w:List Nat} {nv j:Nat} (h:DivAt A V u q nv (j + 1)) (hV:0 < V) (hVn:V≤bB ^ nv) (hl:j + nv + 1≤u.length) (hj:j < q.length) (hw:L32 w) (hwl:w.length=nv + 1)
 (hwv:val w=val ((u.drop j).take (nv + 1)) % V):DivAt A V (u.take j ++ w ++ u.drop (j + nv + 1)) (q.set j (val ((u.drop j).take (nv + 1)) / V)) nv j∧val ((u.drop j).take (nv + 1)) < V * bB∧val ((u.drop j).take (nv + 1)) / V < bB:=by
 have hlt:val u < bB ^ (j + (nv + 1)):=by
  have h1:=h.lt
  have h2:V * bB ^ (j + 1)≤bB ^ nv * bB ^ (j + 1):=Nat.mul_le_mul_right _ hVn
  rw [← Nat.pow_add] at h2
  rw [show j + (nv + 1)=nv + (j + 1) by omega]
  omega
 have hwin:=window_val (u:=u) (j:=j) (m:=nv + 1) (by omega) hlt
 have htk:=val_take_lt h.lu j
 have hU:val ((u.drop j).take (nv + 1)) < V * bB:=by
  have h1:=h.lt
  rw [hwin,Nat.pow_succ] at h1
  rcases Nat.lt_or_ge (val ((u.drop j).take (nv + 1))) (V * bB) with h3 | h3
  ·exact h3
  ·exfalso
   have h4:bB ^ j * (V * bB)≤bB ^ j * val ((u.drop j).take (nv + 1)):=Nat.mul_le_mul_left _ h3
   have h5:V * (bB ^ j * bB)=bB ^ j * (V * bB):=by ac_rfl
   omega
 have hzero:val (u.drop (j + nv + 1))=0:=by
  rcases Nat.eq_zero_or_pos (val (u.drop (j + nv + 1))) with h0 | h0
  ·exact h0
  ·exfalso
   have h1:=val_split u hl
   have h2:bB ^ (j + nv + 1) * 1≤bB ^ (j + nv + 1) * val (u.drop (j + nv + 1)):=Nat.mul_le_mul_left _ h0
   rw [← Nat.add_assoc] at hlt
   omega
 have hq:val ((u.drop j).take (nv + 1)) / V < bB:=by rw [Nat.div_lt_iff_lt_mul hV,Nat.mul_comm];exact hU
 refine ⟨⟨?_,?_,(((h.lu.take j).append hw).append (h.lu.drop _)),h.lq.set hq _⟩,hU,hq⟩
 ·have h1:=h.eq
  rw [val_append,val_append,hzero,Nat.mul_zero,Nat.add_zero,hwv,List.length_take,Nat.min_eq_left (by omega),val_drop (by simpa using hj),nth_set_same hj,List.drop_set_of_lt (by omega)]
  rw [hwin] at h1
  have h2:=Nat.div_add_mod (val ((u.drop j).take (nv + 1))) V
  generalize val ((u.drop j).take (nv + 1))=U at *
  generalize U / V=d at *
  generalize U % V=r at *
  generalize val (u.take j)=t at *
  generalize val (q.drop (j + 1))=Q at *
  rw [← h2,Nat.pow_succ] at h1
  rw [← h1,Nat.mul_add,Nat.mul_add]
  have e1:bB ^ j * V * (bB * Q)=bB ^ j * bB * V * Q:=by ac_rfl
  have e2:bB ^ j * V * d=bB ^ j * (V * d):=by ac_rfl
  omega
 ·rw [val_append,val_append,hzero,Nat.mul_zero,Nat.add_zero,hwv,List.length_take,Nat.min_eq_left (by omega)]
  have h1:bB ^ j * (val ((u.drop j).take (nv + 1)) % V + 1)≤bB ^ j * V:=Nat.mul_le_mul_left _ (Nat.mod_lt _ hV)
  rw [Nat.mul_add,Nat.mul_one] at h1
  rw [Nat.mul_comm V]
  omega
end Go.Proofs.YtmncjibcoffmfaaGreat
