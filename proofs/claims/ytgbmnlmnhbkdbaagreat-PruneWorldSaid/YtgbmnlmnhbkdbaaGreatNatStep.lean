/- Plain law of the loops over limbs, round by round: sums, differences, products, quotients, shifts. No condition. -/
import Derived.Test.YtgbmnlmnhbkdbaaGreatJ21
set_option linter.unusedVariables false
set_option linter.unusedSimpArgs false
namespace Go.Proofs.YtgbmnlmnhbkdbaaGreat

theorem vTo_set_ge (l:List Nat) (x:Nat):∀ {k i:Nat},k≤i→vTo (l.set i x) k=vTo l k
 | 0,_,_=>rfl
 | k + 1,i,h=>by
   unfold vTo
   rw [vTo_set_ge l x (by omega),nth_set_other (by omega)]
theorem vTo_set_succ {l:List Nat} {i:Nat} (h:i < l.length) (x:Nat):vTo (l.set i x) (i + 1)=vTo l i + x * bB ^ i:=by
 show vTo (l.set i x) i + nth (l.set i x) i * bB ^ i=_
 rw [vTo_set_ge l x (Nat.le_refl _),nth_set_same h]
theorem vTo_succ (l:List Nat) (k:Nat):vTo l (k + 1)=vTo l k + nth l k * bB ^ k:=rfl
theorem vTo_zero (l:List Nat):vTo l 0=0:=rfl

structure SumAt (a b s:List Nat) (n i c:Nat):Prop where
 eq:vTo s i + c * bB ^ i=vTo a i + vTo b i
 c1:c≤1
 len:s.length=n
 l32:L32 s
theorem SumAt.start (a b:List Nat) (n:Nat):SumAt a b (List.replicate n 0) n 0 0:=⟨rfl,by omega,by simp,L32.replicate n⟩
theorem SumAt.step {a b s:List Nat} {n i c:Nat} (h:SumAt a b s n i c) (ha:L32 a) (hb:L32 b) (hi:i < n) :
 SumAt a b (s.set i ((c + nth a i + nth b i) % bB)) n (i + 1) ((c + nth a i + nth b i) / bB):=by
 have h1:=ha.nth i
 have h2:=hb.nth i
 have h3:=h.c1
 have hb0:=bB_pos
 generalize hx:nth a i=x at *
 generalize hy:nth b i=y at *
 refine ⟨?_,?_,by rw [List.length_set];exact h.len,h.l32.set (Nat.mod_lt _ bB_pos) _⟩
 ·rw [vTo_set_succ (by rw [h.len];exact hi),vTo_succ,vTo_succ,hx,hy]
  have h4:=h.eq
  have h5:=Nat.mod_add_div (c + x + y) bB
  generalize (c + x + y) % bB=r at *
  generalize (c + x + y) / bB=q at *
  rw [Nat.pow_succ]
  generalize bB ^ i=P at *
  have h6:r * P + q * (P * bB)=(c + x + y) * P:=by rw [← h5,Nat.add_mul,Nat.mul_comm P bB,← Nat.mul_assoc,Nat.mul_comm q bB]
  rw [Nat.add_mul,Nat.add_mul] at h6
  omega
 ·have:(c + x + y) / bB < 2:=Nat.div_lt_of_lt_mul (by omega)
  omega
theorem SumAt.done {a b s:List Nat} {n c:Nat} (h:SumAt a b s (n + 1) n c) (ha:a.length≤n) (hb:b.length≤n):val (s.set n c)=val a + val b:=by
 have h1:=h.eq
 have h2:=h.c1
 rw [vTo_all ha,vTo_all hb] at h1
 rw [← vTo_all (l:=s.set n c) (k:=n + 1) (by rw [List.length_set,h.len];exact Nat.le_refl _),vTo_set_succ (by rw [h.len];omega)]
 exact h1
structure LessAt (a b s:List Nat) (i c:Nat):Prop where
 eq:vTo s i + vTo b i=vTo a i + c * bB ^ i
 c1:c≤1
 len:s.length=a.length
 l32:L32 s
 rest:∀ j,i≤j→nth s j=nth a j
theorem LessAt.start {a b:List Nat} (ha:L32 a):LessAt a b a 0 0:=⟨rfl,by omega,rfl,ha,fun _ _=>rfl⟩
def lessD (x t:Nat):Nat:=(x + bB - t) % bB
def lessC (x t:Nat):Nat:=if x < t then 1 else 0
theorem lessD_eq {x t:Nat} (hx:x < bB) (ht:t≤bB):lessD x t + t=x + lessC x t * bB:=by
 unfold lessD lessC
 have:=bB_pos
 split
 ·rw [Nat.mod_eq_of_lt (by omega)];omega
 ·rw [show x + bB - t=(x - t) + bB by omega,Nat.add_mod_right,Nat.mod_eq_of_lt (by omega)];omega
theorem lessC_le (x t:Nat):lessC x t≤1:=by unfold lessC;split <;> omega
theorem LessAt.step {a b s:List Nat} {i c:Nat} (h:LessAt a b s i c) (ha:L32 a) (hb:L32 b) (hi:i < a.length) :
 LessAt a b (s.set i (lessD (nth a i) (c + nth b i))) (i + 1) (lessC (nth a i) (c + nth b i)):=by
 have h1:=ha.nth i
 have h2:=hb.nth i
 have h3:=h.c1
 generalize hx:nth a i=x at *
 generalize hy:nth b i=y at *
 have h5:=lessD_eq h1 (show c + y≤bB by omega)
 refine ⟨?_,lessC_le _ _,by rw [List.length_set];exact h.len,h.l32.set (Nat.mod_lt _ bB_pos) _,fun j hj=>by rw [nth_set_other (by omega)];exact h.rest j (by omega)⟩
 rw [vTo_set_succ (by rw [h.len];exact hi),vTo_succ,vTo_succ,hx,hy,Nat.pow_succ]
 have h4:=h.eq
 generalize lessD x (c + y)=d at *
 generalize lessC x (c + y)=e at *
 generalize bB ^ i=P at *
 have h6:(d + (c + y)) * P=(x + e * bB) * P:=by rw [h5]
 rw [Nat.add_mul,Nat.add_mul,Nat.add_mul,Nat.mul_assoc,Nat.mul_comm bB P] at h6
 omega
theorem LessAt.done {a b s:List Nat} {c:Nat} (h:LessAt a b s a.length c) (hb:b.length≤a.length) (hle:val b≤val a):val s=val a - val b:=by
 have h1:=h.eq
 rw [vTo_all hb,vTo_all (Nat.le_refl _),vTo_all (Nat.le_of_eq h.len)] at h1
 have h2:=val_lt h.l32
 rw [h.len] at h2
 have h3:=h.c1
 rcases Nat.eq_zero_or_pos c with h0 | h0
 ·subst h0;simp at h1;omega
 ·obtain rfl:c=1:=by omega
  omega
structure MulAt (p0 b s:List Nat) (x i k c:Nat):Prop where
 eq:vTo s (i + k) + c * bB ^ (i + k)=vTo p0 (i + k) + x * bB ^ i * vTo b k
 cB:c < bB
 len:s.length=p0.length
 l32:L32 s
 rest:∀ j,i + k≤j→nth s j=nth p0 j
theorem MulAt.start {p0 b:List Nat} (x i:Nat) (hp:L32 p0):MulAt p0 b p0 x i 0 0:=⟨by simp [vTo],bB_pos,rfl,hp,fun _ _=>rfl⟩
theorem mul_fits {c x y z:Nat} (hc:c < bB) (hx:x < bB) (hy:y < bB) (hz:z < bB):c + x * y + z < bB * bB:=by
 have h1:x * y≤(bB - 1) * (bB - 1):=Nat.mul_le_mul (by omega) (by omega)
 have h2:(bB - 1) * (bB - 1) + (bB - 1) + (bB - 1) < bB * bB:=by decide
 omega
theorem MulAt.step {p0 b s:List Nat} {x i k c:Nat} (h:MulAt p0 b s x i k c) (hp:L32 p0) (hb:L32 b) (hx:x < bB) (hi:i + k < p0.length) :
 MulAt p0 b (s.set (i + k) ((c + x * nth b k + nth p0 (i + k)) % bB)) x i (k + 1) ((c + x * nth b k + nth p0 (i + k)) / bB):=by
 have h1:=hp.nth (i + k)
 have h2:=hb.nth k
 have h3:=mul_fits h.cB hx h2 h1
 generalize hz:nth p0 (i + k)=z at *
 generalize hy:nth b k=y at *
 refine ⟨?_,Nat.div_lt_of_lt_mul h3,by rw [List.length_set];exact h.len,h.l32.set (Nat.mod_lt _ bB_pos) _,fun j hj=>by rw [nth_set_other (by omega)];exact h.rest j (by omega)⟩
 rw [← Nat.add_assoc,vTo_set_succ (by rw [h.len];exact hi),vTo_succ,vTo_succ,hz,hy,Nat.pow_succ]
 have h4:=h.eq
 have h5:=Nat.mod_add_div (c + x * y + z) bB
 generalize (c + x * y + z) % bB=r at *
 generalize (c + x * y + z) / bB=q at *
 have h7:x * bB ^ i * (vTo b k + y * bB ^ k)=x * bB ^ i * vTo b k + x * y * bB ^ (i + k):=by
  rw [Nat.mul_add,Nat.pow_add]
  have:x * bB ^ i * (y * bB ^ k)=x * y * (bB ^ i * bB ^ k):=by ac_rfl
  rw [this]
 rw [h7]
 generalize x * bB ^ i * vTo b k=M at *
 generalize bB ^ (i + k)=P at *
 have h6:r * P + q * (P * bB)=(c + x * y + z) * P:=by rw [← h5,Nat.add_mul,Nat.mul_comm P bB,← Nat.mul_assoc,Nat.mul_comm q bB]
 rw [Nat.add_mul,Nat.add_mul] at h6
 omega
theorem MulAt.done {p0 b s a:List Nat} {i c:Nat} (h:MulAt p0 b s (nth a i) i b.length c) (hp:vTo p0 (i + b.length)=vTo a i * val b) (hi:i + b.length < p0.length):vTo (s.set (i + b.length) c) (i + 1 + b.length)=vTo a (i + 1) * val b:=by
 have h1:=h.eq
 rw [hp,vTo_all (Nat.le_refl _)] at h1
 rw [show i + 1 + b.length=i + b.length + 1 by omega,vTo_set_succ (by rw [h.len];exact hi),vTo_succ,Nat.add_mul]
 exact h1
structure SmallAt (a s:List Nat) (d i r:Nat):Prop where
 eq:val (s.drop i) * d + r=val (a.drop i)
 rd:r < d
 len:s.length=a.length
 l32:L32 s
 rest:∀ j,j < i→nth s j=nth a j
theorem SmallAt.start {a:List Nat} {d:Nat} (ha:L32 a) (hd:0 < d):SmallAt a a d a.length 0:=⟨by rw [List.drop_eq_nil_of_le (Nat.le_refl _)];simp [val],hd,rfl,ha,fun _ _=>rfl⟩
theorem SmallAt.step {a s:List Nat} {d i r:Nat} (h:SmallAt a s d (i + 1) r) (ha:L32 a) (hi:i < a.length):SmallAt a (s.set i ((r * bB + nth a i) / d)) d i ((r * bB + nth a i) % d):=by
 have hd:0 < d:=by have:=h.rd;omega
 have h1:=ha.nth i
 have hr:=h.rd
 have hq:(r * bB + nth a i) / d < bB:=by
  rw [Nat.div_lt_iff_lt_mul hd]
  have h2:(r + 1) * bB≤d * bB:=Nat.mul_le_mul_right _ hr
  rw [Nat.add_mul] at h2
  rw [Nat.mul_comm bB d]
  omega
 refine ⟨?_,Nat.mod_lt _ hd,by rw [List.length_set];exact h.len,h.l32.set hq _,fun j hj=>by rw [nth_set_other (by omega)];exact h.rest j (by omega)⟩
 rw [val_drop (by rw [List.length_set,h.len];exact hi),nth_set_same (by rw [h.len];exact hi),List.drop_set_of_lt (by omega),val_drop hi]
 have h3:=h.eq
 have h4:=Nat.div_add_mod (r * bB + nth a i) d
 generalize (r * bB + nth a i) / d=q at *
 generalize (r * bB + nth a i) % d=t at *
 generalize val (s.drop (i + 1))=V at *
 generalize val (a.drop (i + 1))=W at *
 generalize nth a i=x at *
 have h5:bB * (V * d + r)=bB * W:=by rw [h3]
 rw [Nat.mul_add,← Nat.mul_assoc,Nat.mul_comm bB r] at h5
 rw [Nat.add_mul,Nat.mul_comm q d]
 omega
theorem SmallAt.done {a s:List Nat} {d r:Nat} (h:SmallAt a s d 0 r):val s=val a / d∧r=val a % d:=by
 have h1:=h.eq
 simp only [List.drop_zero] at h1
 have h2:=h.rd
 rw [← h1,Nat.mul_comm,Nat.mul_add_div (by omega),Nat.div_eq_of_lt h2,Nat.mul_add_mod,Nat.mod_eq_of_lt h2]
 exact ⟨rfl,rfl⟩
structure TakeAt (u v s:List Nat) (g i c b:Nat):Prop where
 eq:vTo s i + g * vTo v i=vTo u i + (c + b) * bB ^ i
 cB:c < bB
 b1:b≤1
 len:s.length=u.length
 l32:L32 s
 rest:∀ j,i≤j→nth s j=nth u j
theorem TakeAt.start {u v:List Nat} (g:Nat) (hu:L32 u):TakeAt u v u g 0 0 0:=⟨by simp [vTo],bB_pos,by omega,rfl,hu,fun _ _=>rfl⟩
theorem TakeAt.step {u v s:List Nat} {g i c b:Nat} (h:TakeAt u v s g i c b) (hu:L32 u) (hv:L32 v) (hg:g < bB) (hi:i < u.length) :
 TakeAt u v (s.set i (lessD (nth u i) ((c + g * nth v i) % bB + b))) g (i + 1) ((c + g * nth v i) / bB) (lessC (nth u i) ((c + g * nth v i) % bB + b)):=by
 have h1:=hu.nth i
 have h2:=hv.nth i
 have h3:=mul_fits h.cB hg h2 bB_pos
 have hb:=h.b1
 generalize hx:nth u i=x at *
 generalize hy:nth v i=y at *
 have h4:(c + g * y) % bB < bB:=Nat.mod_lt _ bB_pos
 have h5:=lessD_eq h1 (show (c + g * y) % bB + b≤bB by omega)
 refine ⟨?_,Nat.div_lt_of_lt_mul (by omega),lessC_le _ _,by rw [List.length_set];exact h.len,h.l32.set (Nat.mod_lt _ bB_pos) _,fun j hj=>by rw [nth_set_other (by omega)];exact h.rest j (by omega)⟩
 rw [vTo_set_succ (by rw [h.len];exact hi),vTo_succ,vTo_succ,hx,hy,Nat.pow_succ]
 have h6:=h.eq
 have h7:=Nat.mod_add_div (c + g * y) bB
 generalize (c + g * y) % bB=r at *
 generalize (c + g * y) / bB=q at *
 generalize lessD x (r + b)=d at *
 generalize lessC x (r + b)=e at *
 have h8:g * (vTo v i + y * bB ^ i)=g * vTo v i + g * y * bB ^ i:=by rw [Nat.mul_add,Nat.mul_assoc]
 rw [h8]
 generalize g * vTo v i=M at *
 generalize g * y=gy at *
 generalize bB ^ i=P at *
 have h9:(d + (r + b)) * P=(x + e * bB) * P:=by rw [h5]
 have h10:(r + bB * q) * P=(c + gy) * P:=by rw [h7]
 have h11:(q + e) * (P * bB)=bB * q * P + e * bB * P:=by
  rw [Nat.add_mul]
  congr 1
  ·ac_rfl
  ·ac_rfl
 rw [h11]
 rw [Nat.add_mul,Nat.add_mul,Nat.add_mul] at h9
 rw [Nat.add_mul,Nat.add_mul] at h10
 rw [Nat.add_mul] at h6
 omega
theorem TakeAt.done {u v s:List Nat} {g n c b:Nat} (h:TakeAt u v s g n c b) (hu:L32 u) (hl:u.length=n + 1) (hv:v.length=n) :
 val (s.set n (lessD (nth u n) (c + b))) + g * val v=val u + lessC (nth u n) (c + b) * bB ^ (n + 1):=by
 have h1:=hu.nth n
 have hb:=h.b1
 have hc:=h.cB
 have h5:=lessD_eq h1 (show c + b≤bB by omega)
 rw [← vTo_all (l:=s.set n _) (k:=n + 1) (by rw [List.length_set,h.len,hl];exact Nat.le_refl _),vTo_set_succ (by rw [h.len,hl];omega),← vTo_all (l:=u) (k:=n + 1) (Nat.le_of_eq hl),vTo_succ,← vTo_all (l:=v) (k:=n) (Nat.le_of_eq hv),Nat.pow_succ]
 have h6:=h.eq
 generalize nth u n=x at *
 generalize lessD x (c + b)=d at *
 generalize lessC x (c + b)=e at *
 generalize bB ^ n=P at *
 have h9:(d + (c + b)) * P=(x + e * bB) * P:=by rw [h5]
 rw [Nat.add_mul d,Nat.add_mul x,Nat.mul_assoc,Nat.mul_comm bB P] at h9
 omega
structure BackAt (u v s:List Nat) (i c:Nat):Prop where
 eq:vTo s i + c * bB ^ i=vTo u i + vTo v i
 c1:c≤1
 len:s.length=u.length
 l32:L32 s
 rest:∀ j,i≤j→nth s j=nth u j
theorem BackAt.start {u v:List Nat} (hu:L32 u):BackAt u v u 0 0:=⟨rfl,by omega,rfl,hu,fun _ _=>rfl⟩
theorem BackAt.step {u v s:List Nat} {i c:Nat} (h:BackAt u v s i c) (hu:L32 u) (hv:L32 v) (hi:i < u.length) :
 BackAt u v (s.set i ((c + (nth u i + nth v i)) % bB)) (i + 1) ((c + (nth u i + nth v i)) / bB):=by
 have h1:=hu.nth i
 have h2:=hv.nth i
 have h3:=h.c1
 have hb0:=bB_pos
 generalize hx:nth u i=x at *
 generalize hy:nth v i=y at *
 refine ⟨?_,?_,by rw [List.length_set];exact h.len,h.l32.set (Nat.mod_lt _ bB_pos) _,fun j hj=>by rw [nth_set_other (by omega)];exact h.rest j (by omega)⟩
 ·rw [vTo_set_succ (by rw [h.len];exact hi),vTo_succ,vTo_succ,hx,hy]
  have h4:=h.eq
  have h5:=Nat.mod_add_div (c + (x + y)) bB
  generalize (c + (x + y)) % bB=r at *
  generalize (c + (x + y)) / bB=q at *
  rw [Nat.pow_succ]
  generalize bB ^ i=P at *
  have h6:r * P + q * (P * bB)=(c + (x + y)) * P:=by rw [← h5,Nat.add_mul,Nat.mul_comm P bB,← Nat.mul_assoc,Nat.mul_comm q bB]
  rw [Nat.add_mul,Nat.add_mul] at h6
  omega
 ·have:(c + (x + y)) / bB < 2:=Nat.div_lt_of_lt_mul (by omega)
  omega
theorem BackAt.done {u v s:List Nat} {n c:Nat} (h:BackAt u v s n c) (hl:u.length=n + 1) (hv:v.length=n) :
 ∃ e,val (s.set n ((nth u n + c) % bB)) + e * bB ^ (n + 1)=val u + val v:=by
 refine ⟨(nth u n + c) / bB,?_⟩
 rw [← vTo_all (l:=s.set n _) (k:=n + 1) (by rw [List.length_set,h.len,hl];exact Nat.le_refl _),vTo_set_succ (by rw [h.len,hl];omega),← vTo_all (l:=u) (k:=n + 1) (Nat.le_of_eq hl),vTo_succ,← vTo_all (l:=v) (k:=n) (Nat.le_of_eq hv),Nat.pow_succ]
 have h6:=h.eq
 have h5:=Nat.mod_add_div (nth u n + c) bB
 generalize nth u n=x at *
 generalize (x + c) % bB=r at *
 generalize (x + c) / bB=q at *
 generalize bB ^ n=P at *
 have h9:r * P + q * (P * bB)=(x + c) * P:=by rw [← h5,Nat.add_mul,Nat.mul_comm P bB,← Nat.mul_assoc,Nat.mul_comm q bB]
 rw [Nat.add_mul] at h9
 omega
end Go.Proofs.YtgbmnlmnhbkdbaaGreat
