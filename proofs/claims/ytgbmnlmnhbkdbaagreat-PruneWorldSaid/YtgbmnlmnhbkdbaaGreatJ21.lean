/- Joined by program out of: NatMath, RatMath, Knuth. What each says stands at its own head. -/
import Derived.Test.YtgbmnlmnhbkdbaaGreatBase
set_option linter.unusedVariables false
set_option linter.unusedSimpArgs false
/- Plain law of limbs: lists of digits to the base 2^32, lowest first, and what number they say. No condition. -/
namespace Go.Proofs.YtgbmnlmnhbkdbaaGreat

def bB:Nat:=4294967296
theorem bB_pos:0 < bB:=by decide
theorem bB_eq:bB=4294967296:=rfl
theorem bB_pow_pos (k:Nat):0 < bB ^ k:=Nat.pow_pos bB_pos
def L32 (l:List Nat):Prop:=∀ x,x ∈ l→x < bB
def val:List Nat→Nat
 | []=>0
 | x :: l=>x + bB * val l
def trimL:List Nat→List Nat
 | []=>[]
 | x :: l=>if trimL l=[]∧x=0 then [] else x :: trimL l
def limbs (n:Nat):List Nat:=if _h:n=0 then [] else n % bB :: limbs (n / bB)
termination_by n
decreasing_by exact Nat.div_lt_self (by omega) (by decide)

theorem limbs_zero:limbs 0=[]:=by rw [limbs];simp
theorem limbs_pos {n:Nat} (h:n ≠ 0):limbs n=n % bB :: limbs (n / bB):=by rw [limbs,dif_neg h]
theorem L32.nil:L32 []:=fun x hx=>by cases hx
theorem L32.cons {x:Nat} {l:List Nat} (hx:x < bB) (h:L32 l):L32 (x :: l):=fun y hy=>by
 rcases List.mem_cons.1 hy with rfl | hy
 ·exact hx
 ·exact h y hy
theorem L32.head {x:Nat} {l:List Nat} (h:L32 (x :: l)):x < bB:=h x (by simp)
theorem L32.tail {x:Nat} {l:List Nat} (h:L32 (x :: l)):L32 l:=fun y hy=>h y (by simp [hy])
theorem L32.append {l m:List Nat} (h:L32 l) (k:L32 m):L32 (l ++ m):=fun y hy=>by
 rcases List.mem_append.1 hy with hy | hy
 ·exact h y hy
 ·exact k y hy
theorem L32.take {l:List Nat} (h:L32 l) (k:Nat):L32 (l.take k):=fun y hy=>h y (List.mem_of_mem_take hy)
theorem L32.drop {l:List Nat} (h:L32 l) (k:Nat):L32 (l.drop k):=fun y hy=>h y (List.mem_of_mem_drop hy)
theorem L32.set {l:List Nat} (h:L32 l) {x:Nat} (hx:x < bB) (k:Nat):L32 (l.set k x):=fun y hy=>by
 rcases List.mem_or_eq_of_mem_set hy with hy | rfl
 ·exact h y hy
 ·exact hx
theorem L32.nth {l:List Nat} (h:L32 l) (k:Nat):nth l k < bB:=by
 rcases Nat.lt_or_ge k l.length with hk | hk
 ·exact h _ (nth_mem hk)
 ·have:Go.Proofs.YtgbmnlmnhbkdbaaGreat.nth l k=0:=by unfold Go.Proofs.YtgbmnlmnhbkdbaaGreat.nth List.getD;rw [List.getElem?_eq_none hk];rfl
  rw [this];exact bB_pos
theorem L32.replicate (k:Nat):L32 (List.replicate k 0):=fun y hy=>by rw [(List.mem_replicate.1 hy).2];exact bB_pos
theorem nth_none {l:List Nat} {k:Nat} (hk:l.length≤k):nth l k=0:=by unfold nth List.getD;rw [List.getElem?_eq_none hk];rfl

theorem val_nil:val []=0:=rfl
theorem val_cons (x:Nat) (l:List Nat):val (x :: l)=x + bB * val l:=rfl
theorem val_append:∀ (l m:List Nat),val (l ++ m)=val l + bB ^ l.length * val m
 | [],m=>by simp [val]
 | x :: l,m=>by
   rw [List.cons_append,val_cons,val_append l m,val_cons,List.length_cons,Nat.pow_succ]
   rw [Nat.mul_add,Nat.mul_comm (bB ^ l.length) bB,Nat.mul_assoc,Nat.add_assoc]
theorem val_snoc (l:List Nat) (x:Nat):val (l ++ [x])=val l + bB ^ l.length * x:=by rw [val_append];simp [val]
theorem val_lt:∀ {l:List Nat},L32 l→val l < bB ^ l.length
 | [],_=>by simp [val]
 | x :: l,h=>by
   have h1:=val_lt h.tail
   have h2:=h.head
   rw [val_cons,List.length_cons,Nat.pow_succ]
   have h3:bB * (val l + 1)≤bB * bB ^ l.length:=Nat.mul_le_mul_left _ h1
   rw [Nat.mul_add,Nat.mul_one] at h3
   rw [Nat.mul_comm (bB ^ l.length)]
   omega
theorem val_zeros:∀ k:Nat,val (List.replicate k 0)=0
 | 0=>rfl
 | k + 1=>by rw [List.replicate_succ,val_cons,val_zeros k];simp
theorem val_drop {l:List Nat} {i:Nat} (h:i < l.length):val (l.drop i)=nth l i + bB * val (l.drop (i + 1)):=by
 rw [List.drop_eq_getElem_cons h,val_cons,nth_eq h]
theorem val_take_succ {l:List Nat} {i:Nat} (h:i < l.length):val (l.take (i + 1))=val (l.take i) + bB ^ i * nth l i:=by
 rw [take_snoc h,val_snoc,List.length_take,Nat.min_eq_left (by omega)]
theorem val_split (l:List Nat) {i:Nat} (h:i≤l.length):val l=val (l.take i) + bB ^ i * val (l.drop i):=by
 conv=>lhs;rw [← List.take_append_drop i l]
 rw [val_append,List.length_take,Nat.min_eq_left h]

theorem trimL_val:∀ l:List Nat,val (trimL l)=val l
 | []=>rfl
 | x :: l=>by
   unfold trimL
   have ih:=trimL_val l
   split
   ·rename_i h
    rw [h.1] at ih
    rw [val_cons,← ih,h.2];simp [val]
   ·rw [val_cons,ih,val_cons]
theorem trimL_zero (l:List Nat):trimL (l ++ [0])=trimL l:=by
 induction l with
 | nil=>rfl
 | cons x l ih=>rw [List.cons_append];unfold trimL;rw [ih]
theorem trimL_last {l:List Nat} {x:Nat} (h:x ≠ 0):trimL (l ++ [x])=l ++ [x]:=by
 induction l with
 | nil=>unfold trimL;simp [trimL,h]
 | cons y l ih =>
   rw [List.cons_append];unfold trimL;rw [ih,if_neg]
   rintro ⟨h1,_⟩
   simp at h1
theorem trimL_length (l:List Nat):(trimL l).length≤l.length:=by
 induction l with
 | nil=>exact Nat.le_refl _
 | cons x l ih=>unfold trimL;split <;> simp <;> omega
theorem trimL_take (l:List Nat):trimL l=l.take (trimL l).length:=by
 induction l with
 | nil=>rfl
 | cons x l ih =>
   unfold trimL
   split
   ·rfl
   ·rw [List.length_cons,List.take_succ_cons,← ih]
theorem limbs_val:∀ {l:List Nat},L32 l→limbs (val l)=trimL l
 | [],_=>limbs_zero
 | x :: l,h=>by
   have ih:=limbs_val h.tail
   have hx:=h.head
   rw [val_cons]
   unfold trimL
   by_cases h0:x + bB * val l=0
   ·have h1:x=0:=by omega
    have h2:val l=0:=by
     rcases Nat.eq_zero_or_pos (val l) with h | h
     ·exact h
     ·have:=Nat.mul_pos bB_pos h;omega
    rw [h0,limbs_zero]
    rw [h2,limbs_zero] at ih
    rw [if_pos ⟨ih.symm,h1⟩]
   ·rw [limbs_pos h0]
    have e1:(x + bB * val l) % bB=x:=by rw [Nat.add_mul_mod_self_left,Nat.mod_eq_of_lt hx]
    have e2:(x + bB * val l) / bB=val l:=by rw [Nat.add_mul_div_left _ _ bB_pos,Nat.div_eq_of_lt hx];simp
    rw [e1,e2,ih,if_neg]
    rintro ⟨h1,h2⟩
    apply h0
    rw [← trimL_val l,h1,h2];simp [val]
theorem limbs_L32 (n:Nat):L32 (limbs n):=by
 induction n using Nat.strongRecOn with
 | ind n ih =>
   by_cases h:n=0
   ·rw [h,limbs_zero];exact L32.nil
   ·rw [limbs_pos h]
    exact L32.cons (Nat.mod_lt _ bB_pos) (ih _ (Nat.div_lt_self (by omega) (by decide)))
theorem val_limbs (n:Nat):val (limbs n)=n:=by
 induction n using Nat.strongRecOn with
 | ind n ih =>
   by_cases h:n=0
   ·rw [h,limbs_zero];rfl
   ·rw [limbs_pos h,val_cons,ih _ (Nat.div_lt_self (by omega) (by decide)),Nat.mod_add_div]
theorem trim_limbs (n:Nat):trimL (limbs n)=limbs n:=by rw [← limbs_val (limbs_L32 n),val_limbs]
theorem limbs_nil {n:Nat}:limbs n=[] ↔ n=0:=by
 constructor
 ·intro h;have:=val_limbs n;rw [h] at this;exact this.symm
 ·rintro rfl;exact limbs_zero
theorem limbs_inj {a b:Nat} (h:limbs a=limbs b):a=b:=by rw [← val_limbs a,h,val_limbs]
theorem limbs_len {n k:Nat} (h:n < bB ^ k):(limbs n).length≤k:=by
 induction k generalizing n with
 | zero =>
   have:n=0:=by simpa using h
   rw [this,limbs_zero];simp
 | succ k ih =>
   by_cases h0:n=0
   ·rw [h0,limbs_zero];simp
   ·rw [limbs_pos h0,List.length_cons]
    have:n / bB < bB ^ k:=by rw [Nat.div_lt_iff_lt_mul bB_pos];rwa [Nat.pow_succ] at h
    have:=ih this
    omega
theorem limbs_ge {n k:Nat} (h:k < (limbs n).length):bB ^ k≤n:=by
 rcases Nat.lt_or_ge n (bB ^ k) with h1 | h1
 ·have:=limbs_len h1;omega
 ·exact h1
theorem limbs_lt (n:Nat):n < bB ^ (limbs n).length:=by
 have:=val_lt (limbs_L32 n)
 rwa [val_limbs] at this
theorem trimL_end {l:List Nat} (h:0 < (trimL l).length):nth (trimL l) ((trimL l).length - 1) ≠ 0:=by
 induction l with
 | nil=>simp [trimL] at h
 | cons x l ih =>
   unfold trimL at h ⊢
   split
   ·rename_i h1;rw [if_pos h1] at h;simp at h
   ·rename_i h1
    rw [List.length_cons,Nat.add_sub_cancel]
    rcases Nat.eq_zero_or_pos (trimL l).length with h0 | h0
    ·have h2:trimL l=[]:=List.eq_nil_of_length_eq_zero h0
     rw [h2]
     simp [nth,List.getD]
     intro h3;exact h1 ⟨h2,h3⟩
    ·have:=ih h0
     obtain ⟨k,hk⟩:∃ k,(trimL l).length=k + 1:=⟨(trimL l).length - 1,by omega⟩
     rw [hk] at this ⊢
     simpa [nth,List.getD] using this
theorem limbs_end {n:Nat} (h:0 < (limbs n).length):nth (limbs n) ((limbs n).length - 1) ≠ 0:=by
 have:=trimL_end (l:=limbs n)
 rw [trim_limbs] at this
 exact this h

def vTo (l:List Nat):Nat→Nat
 | 0=>0
 | k + 1=>vTo l k + nth l k * bB ^ k
theorem vTo_take (l:List Nat):∀ k,vTo l k=val (l.take k)
 | 0=>by simp [vTo,val]
 | k + 1=>by
   unfold vTo
   rw [vTo_take l k]
   rcases Nat.lt_or_ge k l.length with h | h
   ·rw [val_take_succ h,Nat.mul_comm]
   ·rw [nth_none h,List.take_of_length_le h,List.take_of_length_le (by omega)];simp
theorem vTo_all {l:List Nat} {k:Nat} (h:l.length≤k):vTo l k=val l:=by rw [vTo_take,List.take_of_length_le h]
theorem vTo_lt {l:List Nat} (h:L32 l) (k:Nat):vTo l k < bB ^ k:=by
 induction k with
 | zero=>simp [vTo]
 | succ k ih =>
   unfold vTo
   have h1:(nth l k + 1) * bB ^ k≤bB * bB ^ k:=Nat.mul_le_mul_right _ (h.nth k)
   rw [Nat.add_mul,Nat.one_mul] at h1
   rw [Nat.pow_succ,Nat.mul_comm (bB ^ k)]
   omega
theorem vTo_top {l m:List Nat} (hl:L32 l) {i n:Nat} (hi:i < n) (he:∀ j,i < j→j < n→nth l j=nth m j) (h:nth l i < nth m i):vTo l n < vTo m n:=by
 induction n with
 | zero=>omega
 | succ n ih =>
   unfold vTo
   rcases Nat.lt_or_ge i n with h1 | h1
   ·have:=ih h1 (fun j h2 h3=>he j h2 (by omega))
    rw [he n h1 (by omega)]
    omega
   ·obtain rfl:i=n:=by omega
    have h2:=vTo_lt hl i
    have h3:(nth l i + 1) * bB ^ i≤nth m i * bB ^ i:=Nat.mul_le_mul_right _ h
    rw [Nat.add_mul,Nat.one_mul] at h3
    omega
def cmpN (a b:Nat):Int:=if a < b then -1 else if b < a then 1 else 0
theorem cmpN_lt {a b:Nat} (h:a < b):cmpN a b=-1:=if_pos h
theorem cmpN_gt {a b:Nat} (h:b < a):cmpN a b=1:=by unfold cmpN;rw [if_neg (by omega),if_pos h]
theorem cmpN_eq {a b:Nat} (h:a=b):cmpN a b=0:=by unfold cmpN;rw [if_neg (by omega),if_neg (by omega)]
theorem limbs_fewer {a b:Nat} (h:(limbs a).length < (limbs b).length):a < b:=by
 have h1:=limbs_lt a
 have h2:=limbs_ge h
 omega
end Go.Proofs.YtgbmnlmnhbkdbaaGreat
/- Plain law of whole numbers by sign and size, and of fractions by numerator and denominator: what they say, and how they look in lowest terms. No condition. -/
namespace Go.Proofs.YtgbmnlmnhbkdbaaGreat

def sgn (neg:Bool) (n:Nat):Int:=if neg then -(n:Int) else n
def und (d:Nat):Nat:=if d=0 then 1 else d
def ratR (neg:Bool) (n d:Nat):Rat:=mkRat (sgn neg n) (und d)
def isNeg (z:Int):Bool:=decide (z < 0)
theorem und_pos (d:Nat):und d ≠ 0:=by unfold und;split <;> omega
theorem und_ne {d:Nat} (h:d ≠ 0):und d=d:=if_neg h
theorem sgn_natAbs (neg:Bool) (n:Nat):(sgn neg n).natAbs=n:=by unfold sgn;split <;> omega
theorem sgn_neg (neg:Bool) (n:Nat):isNeg (sgn neg n)=(neg && decide (n ≠ 0)):=by
 unfold sgn isNeg
 cases neg
 ·simp
 ·simp only [if_true,Bool.true_and,decide_eq_decide];omega
theorem sgn_isNeg (z:Int):sgn (isNeg z) z.natAbs=z:=by
 unfold sgn isNeg
 split
 ·rename_i h;rw [decide_eq_true_iff] at h;omega
 ·rename_i h;rw [decide_eq_true_iff] at h;omega
theorem sgn_zero (neg:Bool):sgn neg 0=0:=by unfold sgn;split <;> rfl
theorem sgn_eq_zero {neg:Bool} {n:Nat}:sgn neg n=0 ↔ n=0:=by unfold sgn;split <;> omega
theorem sgn_mul (s t:Bool) (m n:Nat):sgn s m * sgn t n=sgn (s != t) (m * n):=by
 unfold sgn
 cases s <;> cases t <;> simp [Int.neg_mul,Int.mul_neg]
theorem sgn_false (n:Nat):sgn false n=n:=rfl
def sgnI (z:Int):Int:=if z < 0 then -1 else if z=0 then 0 else 1
def cmpZ (a b:Int):Int:=if a < b then -1 else if b < a then 1 else 0
def cmpQ (a b:Rat):Int:=cmpZ (a.num * b.den) (b.num * a.den)
theorem cmpZ_mul {a b:Int} {k:Nat} (hk:k ≠ 0):cmpZ (a * k) (b * k)=cmpZ a b:=by
 have hk':(0:Int) < k:=by omega
 unfold cmpZ
 by_cases h:a < b
 ·rw [if_pos (Int.mul_lt_mul_of_pos_right h hk'),if_pos h]
 ·rw [if_neg (fun h2=>h (Int.lt_of_mul_lt_mul_right h2 (Int.le_of_lt hk'))),if_neg h]
  by_cases h3:b < a
  ·rw [if_pos (Int.mul_lt_mul_of_pos_right h3 hk'),if_pos h3]
  ·rw [if_neg (fun h2=>h3 (Int.lt_of_mul_lt_mul_right h2 (Int.le_of_lt hk'))),if_neg h3]
theorem mk_scale (n:Int) {d:Nat} (hd:d ≠ 0):∃ m:Nat,m ≠ 0∧n=(mkRat n d).num * m∧d=(mkRat n d).den * m:=by
 rcases h:mkRat n d with ⟨n',d',z',c⟩
 obtain ⟨m,h1,h2,h3⟩:=Rat.mkRat_num_den hd h
 exact ⟨m,h1,h2,h3⟩
theorem cmpQ_mk (n1 n2:Int) {d1 d2:Nat} (h1:d1 ≠ 0) (h2:d2 ≠ 0):cmpZ (n1 * d2) (n2 * d1)=cmpQ (mkRat n1 d1) (mkRat n2 d2):=by
 obtain ⟨m1,e1,e2,e3⟩:=mk_scale n1 h1
 obtain ⟨m2,f1,f2,f3⟩:=mk_scale n2 h2
 unfold cmpQ
 generalize mkRat n1 d1=a at *
 generalize mkRat n2 d2=b at *
 subst e2 e3 f2 f3
 rw [← cmpZ_mul (a:=a.num * b.den) (b:=b.num * a.den) (k:=m1 * m2) (by intro h;rcases Nat.mul_eq_zero.1 h with h | h <;> omega)]
 congr 1 <;> push_cast <;> ac_rfl
theorem cmpQ_lt {a b:Rat}:cmpQ a b=-1 ↔ a < b:=by
 rw [Rat.lt_iff];unfold cmpQ cmpZ
 split
 ·simp [*]
 ·split <;> simp [*]
theorem cmpQ_gt {a b:Rat}:cmpQ a b=1 ↔ b < a:=by
 rw [Rat.lt_iff];unfold cmpQ cmpZ
 split
 ·simp;omega
 ·split <;> simp [*]
theorem cmpQ_zero {a b:Rat}:cmpQ a b=0 ↔ a=b:=by
 constructor
 ·intro h
  have h1:¬ a < b:=fun h2=>by rw [cmpQ_lt.2 h2] at h;cases h
  have h2:¬ b < a:=fun h2=>by rw [cmpQ_gt.2 h2] at h;cases h
  grind
 ·rintro rfl;unfold cmpQ cmpZ;rw [if_neg (by omega),if_neg (by omega)]
theorem mk_lowest (neg:Bool) (n:Nat) {d:Nat} (hd:d ≠ 0):(mkRat (sgn neg n) d).num=sgn neg (n / Nat.gcd n d)∧(mkRat (sgn neg n) d).den=d / Nat.gcd n d:=by
 rw [Rat.num_mkRat,Rat.den_mkRat,if_neg hd,if_neg hd,sgn_natAbs,Nat.gcd_comm d n]
 refine ⟨?_,rfl⟩
 unfold sgn
 cases neg
 ·simp
 ·simp only [if_true]
  rw [Int.neg_ediv_of_dvd (Int.natCast_dvd_natCast.2 (Nat.gcd_dvd_left n d))]
  simp
theorem ratR_mul (s t:Bool) (m n d e:Nat):mkRat (sgn (s != t) (m * n)) (und d * und e)=ratR s m d * ratR t n e:=by
 unfold ratR
 rw [Rat.mkRat_mul_mkRat,sgn_mul]
theorem ratR_add (s t:Bool) (m n d e:Nat):mkRat (sgn s m * und e + sgn t n * und d) (und d * und e)=ratR s m d + ratR t n e:=by
 unfold ratR
 rw [Rat.mkRat_add_mkRat _ _ (und_pos d) (und_pos e)]
theorem ratR_cmp (s t:Bool) (m n d e:Nat):cmpZ (sgn s m * und e) (sgn t n * und d)=cmpQ (ratR s m d) (ratR t n e):=cmpQ_mk _ _ (und_pos d) (und_pos e)
theorem ratR_norm (q:Rat):ratR (isNeg q.num) q.num.natAbs q.den=q:=by
 unfold ratR
 rw [sgn_isNeg,und_ne q.den_nz,Rat.mkRat_self]
def sgnQ (q:Rat):Int:=sgnI q.num
theorem ratR_sgn (s:Bool) (m d:Nat):sgnI (sgn s m)=sgnQ (ratR s m d):=by
 obtain ⟨k,e1,e2,_⟩:=mk_scale (sgn s m) (und_pos d)
 unfold sgnQ ratR
 generalize mkRat (sgn s m) (und d)=a at *
 have hk:(0:Int) < k:=by omega
 rw [e2]
 unfold sgnI
 by_cases h:a.num < 0
 ·rw [if_pos (Int.mul_neg_of_neg_of_pos h hk),if_pos h]
 ·by_cases h0:a.num=0
  ·rw [h0];simp
  ·have:0 < a.num * k:=Int.mul_pos (by omega) hk
   rw [if_neg (by omega),if_neg h,if_neg (by omega),if_neg h0]
end Go.Proofs.YtgbmnlmnhbkdbaaGreat
/- Plain law of long division: a guess of two limbs over one is right or one too much; taking out, adding back, shifting. No condition. -/
namespace Go.Proofs.YtgbmnlmnhbkdbaaGreat

section
variable {V U P v1 v2 vl u0 u1 u2 ul:Nat}
theorem guess_big (hV:V=(v1 * bB + v2) * P + vl) (hU:U=((u0 * bB + u1) * bB + u2) * P + ul) (hul:ul < P) (hV0:0 < V) {g:Nat} (h:(u0 * bB + u1) * bB + u2 < g * (v1 * bB + v2)):U / V < g:=by
 rw [Nat.div_lt_iff_lt_mul hV0]
 have h1:((u0 * bB + u1) * bB + u2 + 1) * P≤g * (v1 * bB + v2) * P:=Nat.mul_le_mul_right _ h
 rw [Nat.add_mul,Nat.one_mul] at h1
 have h2:g * (v1 * bB + v2) * P≤g * V:=by
  rw [Nat.mul_assoc,hV];exact Nat.mul_le_mul_left _ (by omega)
 omega
theorem guess_near (hV:V=(v1 * bB + v2) * P + vl) (hvl:vl < P) (hU:U=((u0 * bB + u1) * bB + u2) * P + ul) {g:Nat} (hg:g≤v1 * bB + v2) (h:g * (v1 * bB + v2)≤(u0 * bB + u1) * bB + u2):g * V≤U + V:=by
 have h1:g * (v1 * bB + v2) * P≤((u0 * bB + u1) * bB + u2) * P:=Nat.mul_le_mul_right _ h
 have h2:g * vl≤(v1 * bB + v2) * P:=Nat.mul_le_mul hg (by omega)
 have h3:g * V=g * (v1 * bB + v2) * P + g * vl:=by rw [hV,Nat.mul_add,Nat.mul_assoc]
 omega
theorem top_le (hV:V=(v1 * bB + v2) * P + vl) (hvl:vl < P) (hv2:v2 < bB) (hU:U=((u0 * bB + u1) * bB + u2) * P + ul) (h:U < V * bB):u0≤v1:=by
 rcases Nat.lt_or_ge v1 u0 with h1 | h1
 ·exfalso
  have h2:(v1 + 1) * bB * bB * P≤(u0 * bB + u1) * bB * P:=by
   refine Nat.mul_le_mul_right _ (Nat.mul_le_mul_right _ ?_)
   have:=Nat.mul_le_mul_right bB (show v1 + 1≤u0 by omega)
   omega
  have h3:V≤(v1 + 1) * bB * P:=by
   have h4:(v1 * bB + v2 + 1) * P≤(v1 + 1) * bB * P:=Nat.mul_le_mul_right _ (by rw [Nat.add_mul];omega)
   rw [Nat.add_mul _ 1,Nat.one_mul] at h4
   omega
  have h5:V * bB≤(v1 + 1) * bB * P * bB:=Nat.mul_le_mul_right _ h3
  have h6:(v1 + 1) * bB * P * bB=(v1 + 1) * bB * bB * P:=by rw [Nat.mul_assoc _ P,Nat.mul_comm P,← Nat.mul_assoc]
  have h7:((u0 * bB + u1) * bB + u2) * P=(u0 * bB + u1) * bB * P + u2 * P:=Nat.add_mul _ _ _
  omega
 ·exact h1
end
structure Guess (q v1 top g r:Nat):Prop where
 eq:g * v1 + r=top
 ge:q≤g
 le:g≤bB + 1
theorem Guess.start {V U P v1 v2 vl u0 u1 u2 ul:Nat} (hV:V=(v1 * bB + v2) * P + vl) (hvl:vl < P) (hv2:v2 < bB) (hU:U=((u0 * bB + u1) * bB + u2) * P + ul) (hul:ul < P) (h:U < V * bB) (hv1:bB≤2 * v1) (hu1:u1 < bB) (hu2:u2 < bB) :
 Guess (U / V) v1 (u0 * bB + u1) ((u0 * bB + u1) / v1) ((u0 * bB + u1) % v1):=by
 have hb:=bB_eq
 have hv0:0 < v1:=by omega
 have hV0:0 < V:=by
  have:0 < (v1 * bB + v2) * P:=Nat.mul_pos (by have:=Nat.mul_pos hv0 bB_pos;omega) (by omega)
  omega
 have htl:=top_le hV hvl hv2 hU h
 refine ⟨by rw [Nat.mul_comm];exact Nat.div_add_mod _ _,?_,?_⟩
 ·-- U / V≤top / v1
  rw [Nat.le_div_iff_mul_le hv0]
  have h1:U / V * V≤U:=Nat.div_mul_le_self _ _
  generalize U / V=q at *
  rcases Nat.lt_or_ge (u0 * bB + u1) (q * v1) with h2 | h2
  ·exfalso
   have h3:(u0 * bB + u1 + 1) * bB * P≤q * v1 * bB * P:=Nat.mul_le_mul_right _ (Nat.mul_le_mul_right _ h2)
   have h4:q * v1 * bB * P≤q * V:=by
    rw [hV,Nat.mul_assoc,Nat.mul_assoc,← Nat.mul_assoc v1]
    refine Nat.mul_le_mul_left _ ?_
    have:=Nat.mul_le_mul_right P (show v1 * bB≤v1 * bB + v2 by omega)
    omega
   have h5:((u0 * bB + u1) * bB + u2 + 1) * P≤(u0 * bB + u1 + 1) * bB * P:=Nat.mul_le_mul_right _ (by rw [Nat.add_mul (u0 * bB + u1) 1];omega)
   rw [Nat.add_mul _ 1 P,Nat.one_mul] at h5
   omega
  ·exact h2
 ·have h1:u0 * bB + u1 < (bB + 2) * v1:=by
   have:u0 * bB≤v1 * bB:=Nat.mul_le_mul_right _ htl
   rw [Nat.add_mul,Nat.mul_comm bB]
   omega
  have:=(Nat.div_lt_iff_lt_mul hv0).2 h1
  omega
theorem Guess.down {V U P v1 v2 vl u0 u1 u2 ul g r:Nat} (h:Guess (U / V) v1 (u0 * bB + u1) g r) (hV:V=(v1 * bB + v2) * P + vl) (hU:U=((u0 * bB + u1) * bB + u2) * P + ul) (hul:ul < P) (hlt:U < V * bB) (hV0:0 < V)
 (hc:bB≤g ∨ r * bB + u2 < g * v2):1≤g∧Guess (U / V) v1 (u0 * bB + u1) (g - 1) (r + v1):=by
 have hlt2:U / V < g:=by
  rcases hc with hc | hc
  ·have:U / V < bB:=by rw [Nat.div_lt_iff_lt_mul hV0,Nat.mul_comm];exact hlt
   omega
  ·refine guess_big hV hU hul hV0 ?_
   have h1:g * (v1 * bB + v2)=g * v1 * bB + g * v2:=by rw [Nat.mul_add,Nat.mul_assoc]
   have h2:(u0 * bB + u1) * bB=g * v1 * bB + r * bB:=by rw [← h.eq,Nat.add_mul]
   omega
 generalize U / V=q at *
 obtain ⟨k,rfl⟩:∃ k,g=k + 1:=⟨g - 1,by omega⟩
 refine ⟨by omega,⟨?_,by omega,by have:=h.le;omega⟩⟩
 have:=h.eq
 rw [Nat.add_mul,Nat.one_mul] at this
 rw [Nat.add_sub_cancel]
 omega
theorem Guess.done {V U P v1 v2 vl u0 u1 u2 ul g r:Nat} (h:Guess (U / V) v1 (u0 * bB + u1) g r) (hV:V=(v1 * bB + v2) * P + vl) (hvl:vl < P) (hv2:v2 < bB) (hU:U=((u0 * bB + u1) * bB + u2) * P + ul) (hlt:U < V * bB) (hv1:bB≤2 * v1) (hu1:u1 < bB)
 (hc:g < bB∧g * v2≤r * bB + u2 ∨ bB≤r):g < bB∧g * V≤U + V:=by
 have hb:=bB_eq
 have htl:=top_le hV hvl hv2 hU hlt
 have hgb:g < bB:=by
  rcases hc with hc | hc
  ·exact hc.1
  ·rcases Nat.lt_or_ge g bB with h1 | h1
   ·exact h1
   ·exfalso
    have h2:bB * v1≤g * v1:=Nat.mul_le_mul_right _ h1
    have h3:u0 * bB≤v1 * bB:=Nat.mul_le_mul_right _ htl
    have:=h.eq
    rw [Nat.mul_comm v1] at h3
    omega
 refine ⟨hgb,guess_near hV hvl hU ?_ ?_⟩
 ·have h1:1 * bB≤v1 * bB:=Nat.mul_le_mul_right _ (by omega)
  omega
 ·have h1:g * (v1 * bB + v2)=g * v1 * bB + g * v2:=by rw [Nat.mul_add,Nat.mul_assoc]
  have h2:(u0 * bB + u1) * bB=g * v1 * bB + r * bB:=by rw [← h.eq,Nat.add_mul]
  rcases hc with hc | hc
  ·omega
  ·have h3:g * v2≤bB * bB:=Nat.mul_le_mul (by omega) (by omega)
   have h4:bB * bB≤r * bB:=Nat.mul_le_mul_right _ hc
   omega
theorem near_div {V U g:Nat} (hV0:0 < V) (hge:U / V≤g) (hn:g * V≤U + V):g=U / V ∨ g=U / V + 1:=by
 have h1:g≤(U + V) / V:=(Nat.le_div_iff_mul_le hV0).2 hn
 rw [Nat.add_div_right _ hV0] at h1
 omega
theorem div_pow (l:List Nat) (h:L32 l) {i:Nat} (hi:i≤l.length):val l / bB ^ i=val (l.drop i):=by
 rw [val_split l hi]
 have h1:val (l.take i) < bB ^ i:=by
  have:=val_lt (h.take i)
  rwa [List.length_take,Nat.min_eq_left hi] at this
 rw [Nat.add_mul_div_left _ _ (bB_pow_pos i),Nat.div_eq_of_lt h1,Nat.zero_add]
end Go.Proofs.YtgbmnlmnhbkdbaaGreat
