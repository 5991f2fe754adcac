/- Joined by program out of: NatDiv, ShiftMath. What each says stands at its own head. -/
import Derived.Test.YtgbmnlmnhbkdbaaGreatNatStep
import Derived.Lib.BitFns
set_option linter.unusedVariables false
set_option linter.unusedSimpArgs false
/- Plain law of long division, the whole of it: one digit; shifts; the digits in turn. No condition. -/
namespace Go.Proofs.YtgbmnlmnhbkdbaaGreat

theorem digit_right {U V g T B1:Nat} (hV:0 < V) (hg:g=U / V ∨ g=U / V + 1) (he:T + g * V=U + 0 * B1):g=U / V∧T=U % V:=by
 have h1:=Nat.div_add_mod U V
 have h2:=Nat.mod_lt U hV
 rcases hg with rfl | rfl
 ·refine ⟨rfl,?_⟩
  rw [Nat.mul_comm] at he
  omega
 ·exfalso
  rw [Nat.add_mul,Nat.one_mul,Nat.mul_comm] at he
  omega
theorem digit_back {U V g T W B1 e:Nat} (hV:0 < V) (hlt:V≤B1) (hg:g=U / V ∨ g=U / V + 1) (hT:T < B1) (he:T + g * V=U + 1 * B1) (hW:W < B1) (hb:W + e * B1=T + V):1≤g∧g - 1=U / V∧W=U % V:=by
 have h1:=Nat.div_add_mod U V
 have h2:=Nat.mod_lt U hV
 rcases hg with rfl | rfl
 ·exfalso
  rw [Nat.mul_comm] at he
  omega
 ·refine ⟨Nat.le_add_left _ _,Nat.add_sub_cancel _ _,?_⟩
  rw [Nat.add_mul,Nat.one_mul,Nat.mul_comm] at he
  rcases Nat.eq_zero_or_pos e with h0 | h0
  ·subst h0;omega
  ·rcases Nat.lt_or_ge e 2 with h3 | h3
   ·obtain rfl:e=1:=by omega
    omega
   ·exfalso
    have:=Nat.mul_le_mul_right B1 h3
    omega
theorem val_top2 {l:List Nat} {k:Nat} (h:l.length=k + 2):val l=(nth l (k + 1) * bB + nth l k) * bB ^ k + val (l.take k):=by
 rw [val_split l (i:=k) (by omega),val_drop (by omega),val_drop (by omega),List.drop_eq_nil_of_le (by omega),val_nil]
 rw [Nat.mul_zero,Nat.add_zero,Nat.add_comm (nth l k),Nat.mul_comm bB (nth l (k + 1)),Nat.mul_comm (bB ^ k),Nat.add_comm]
theorem val_top3 {l:List Nat} {k:Nat} (h:l.length=k + 3):val l=((nth l (k + 2) * bB + nth l (k + 1)) * bB + nth l k) * bB ^ k + val (l.take k):=by
 rw [val_split l (i:=k) (by omega),val_drop (by omega),val_drop (by omega),val_drop (by omega),List.drop_eq_nil_of_le (by omega),val_nil]
 generalize nth l k=z
 rw [show k + 1 + 1=k + 2 from rfl]
 generalize nth l (k + 1)=y
 generalize nth l (k + 2)=x
 generalize bB ^ k=P
 generalize val (l.take k)=T
 grind
theorem val_take_lt {l:List Nat} (h:L32 l) (k:Nat):val (l.take k) < bB ^ k:=by
 have h1:=val_lt (h.take k)
 have h2:bB ^ (l.take k).length≤bB ^ k:=Nat.pow_le_pow_right bB_pos (by simp;omega)
 omega

structure LeftAt (a s:List Nat) (z i:Nat):Prop where
 eq:vTo s (i + 1)=2 ^ z * vTo a i
 top:nth s i < 2 ^ z
 len:s.length=a.length + 1
 l32:L32 s
 rest:∀ j,i < j→nth s j=0
theorem nth_rep {k j:Nat}:nth (List.replicate k (0:Nat)) j=0:=by
 rcases Nat.lt_or_ge j k with h | h
 ·rw [nth_eq (by simpa using h)];simp
 ·exact nth_none (by simpa using h)
theorem LeftAt.start (a:List Nat) (z:Nat):LeftAt a (List.replicate (a.length + 1) 0) z 0:=by
 refine ⟨?_,by rw [nth_rep];exact Nat.pow_pos (by omega),by simp,L32.replicate _,fun j _=>nth_rep⟩
 show 0 + _ * _=_
 rw [nth_rep];simp [vTo]
theorem LeftAt.step {a s:List Nat} {z i:Nat} (h:LeftAt a s z i) (ha:L32 a) (hz:z < 32) (hi:i < a.length) :
 LeftAt a ((s.set i (nth s i + nth a i * 2 ^ z % bB)).set (i + 1) (nth a i * 2 ^ z / bB)) z (i + 1)∧nth s i + nth a i * 2 ^ z % bB < bB:=by
 have h1:=ha.nth i
 have h2:=h.top
 have hzB:2 ^ z≤2 ^ 31:=Nat.pow_le_pow_right (by omega) (by omega)
 have hdiv:nth a i * 2 ^ z / bB < 2 ^ z:=by
  rw [Nat.div_lt_iff_lt_mul bB_pos,Nat.mul_comm (2 ^ z)]
  exact Nat.mul_lt_mul_of_lt_of_le h1 (Nat.le_refl _) (Nat.pow_pos (by omega))
 have hdB:bB=2 ^ z * 2 ^ (32 - z):=by rw [← Nat.pow_add,show z + (32 - z)=32 by omega];rfl
 have hlow:nth s i + nth a i * 2 ^ z % bB < bB:=by
  have h3:nth a i * 2 ^ z % bB=2 ^ z * (nth a i % 2 ^ (32 - z)):=by
   rw [hdB,Nat.mul_comm (nth a i),Nat.mul_mod_mul_left]
  have h4:nth a i % 2 ^ (32 - z) < 2 ^ (32 - z):=Nat.mod_lt _ (Nat.pow_pos (by omega))
  have h5:2 ^ z * (nth a i % 2 ^ (32 - z) + 1)≤2 ^ z * 2 ^ (32 - z):=Nat.mul_le_mul_left _ h4
  rw [Nat.mul_add,← hdB,Nat.mul_one,← h3] at h5
  omega
 refine ⟨⟨?_,by rw [nth_set_same (by simp;rw [h.len];omega)];exact hdiv,by simp [h.len],(h.l32.set hlow _).set (Nat.lt_of_lt_of_le hdiv (by rw [bB_eq];omega)) _,fun j hj=>by rw [nth_set_other (by omega),nth_set_other (by omega)];exact h.rest j (by omega)⟩,hlow⟩
 rw [vTo_set_succ (by simp;rw [h.len];omega),vTo_set_succ (by rw [h.len];omega),vTo_succ,Nat.mul_add]
 have h3:=h.eq
 rw [vTo_succ] at h3
 have h5:=Nat.mod_add_div (nth a i * 2 ^ z) bB
 generalize nth a i * 2 ^ z % bB=r at *
 generalize nth a i * 2 ^ z / bB=q at *
 rw [← h3,Nat.pow_succ]
 have h6:2 ^ z * (nth a i * bB ^ i)=nth a i * 2 ^ z * bB ^ i:=by ac_rfl
 rw [h6,← h5,Nat.add_mul,Nat.add_mul]
 have h7:q * (bB ^ i * bB)=bB * q * bB ^ i:=by ac_rfl
 omega
theorem LeftAt.done {a s:List Nat} {z:Nat} (h:LeftAt a s z a.length):val s=2 ^ z * val a:=by
 rw [← vTo_all (Nat.le_of_eq h.len),h.eq,vTo_all (Nat.le_refl _)]
theorem down_digit {l:List Nat} (hl:L32 l) {i z:Nat} (hi:i < l.length) (hz:z < 32):(nth l (i + 1) * bB + nth l i) / 2 ^ z % bB=val l / 2 ^ z / bB ^ i % bB:=by
 rw [Nat.div_div_eq_div_mul,Nat.mul_comm (2 ^ z),← Nat.div_div_eq_div_mul,div_pow l hl (by omega),val_drop hi]
 have hdB:bB=2 ^ z * 2 ^ (32 - z):=by rw [← Nat.pow_add,show z + (32 - z)=32 by omega];rfl
 have h2:val (l.drop (i + 1))=nth l (i + 1) + bB * val (l.drop (i + 2)):=by
  rcases Nat.lt_or_ge (i + 1) l.length with h | h
  ·exact val_drop h
  ·rw [nth_none h,List.drop_eq_nil_of_le h,List.drop_eq_nil_of_le (by omega)];simp [val]
 rw [h2,Nat.mul_add,Nat.mul_comm bB (nth l (i + 1)),← Nat.add_assoc,Nat.add_comm (nth l i)]
 generalize nth l (i + 1) * bB + nth l i=X
 have h3:bB * (bB * val (l.drop (i + 2)))=2 ^ z * (bB * (2 ^ (32 - z) * val (l.drop (i + 2)))):=by
  conv=>lhs;arg 1;rw [hdB]
  ac_rfl
 rw [h3,Nat.add_mul_div_left _ _ (Nat.pow_pos (by omega)),Nat.add_mul_mod_self_left]
theorem val_digits:∀ {l:List Nat} {n:Nat},n < bB ^ l.length→(∀ j,j < l.length→nth l j=n / bB ^ j % bB)→val l=n
 | [],n,h,_=>by
   have:n=0:=by simpa using h
   rw [this];rfl
 | x :: l,n,h,hd=>by
   have h0:=hd 0 (by simp)
   simp only [Nat.pow_zero,Nat.div_one] at h0
   have h1:x=n % bB:=h0
   rw [val_cons,val_digits (l:=l) (n:=n / bB) (by rw [Nat.div_lt_iff_lt_mul bB_pos,← Nat.pow_succ];exact h) (fun j hj=>by
    have:=hd (j + 1) (by simpa using hj)
    rw [Nat.div_div_eq_div_mul,← Nat.pow_succ']
    simpa [nth,List.getD] using this),h1,Nat.mod_add_div]
structure DownAt (u s:List Nat) (z i:Nat):Prop where
 done:∀ j,j < i→nth s j=val u / 2 ^ z / bB ^ j % bB
 len:s.length=u.length
 l32:L32 s
 rest:∀ j,i≤j→nth s j=nth u j
theorem DownAt.start {u:List Nat} (z:Nat) (hu:L32 u):DownAt u u z 0:=⟨fun j hj=>by omega,rfl,hu,fun _ _=>rfl⟩
theorem DownAt.step {u s:List Nat} {z i:Nat} (h:DownAt u s z i) (hu:L32 u) (hz:z < 32) (hi:i < u.length):DownAt u (s.set i ((nth u (i + 1) * bB + nth u i) / 2 ^ z % bB)) z (i + 1):=by
 refine ⟨fun j hj=>?_,by rw [List.length_set];exact h.len,h.l32.set (Nat.mod_lt _ bB_pos) _,fun j hj=>by rw [nth_set_other (by omega)];exact h.rest j (by omega)⟩
 rcases Nat.lt_or_ge j i with h1 | h1
 ·rw [nth_set_other (by omega)];exact h.done j h1
 ·obtain rfl:j=i:=by omega
  rw [nth_set_same (by rw [h.len];exact hi),down_digit hu hi hz]
theorem DownAt.fin {u s:List Nat} {z:Nat} (h:DownAt u s z u.length) (hu:L32 u):val s=val u / 2 ^ z:=by
 refine val_digits ?_ (fun j hj=>h.done j (by rw [← h.len];exact hj))
 rw [h.len]
 have:=val_lt hu
 have:=Nat.div_le_self (val u) (2 ^ z)
 omega
structure DivAt (A V:Nat) (u q:List Nat) (nv j:Nat):Prop where
 eq:val u + bB ^ j * V * val (q.drop j)=A
 lt:val u < V * bB ^ j
 lu:L32 u
 lq:L32 q
theorem mod_shift {a b z:Nat}:(2 ^ z * a) % (2 ^ z * b) / 2 ^ z=a % b:=by
 rw [Nat.mul_mod_mul_left,Nat.mul_div_cancel_left _ (Nat.pow_pos (by omega))]
theorem div_shift {a b z:Nat}:(2 ^ z * a) / (2 ^ z * b)=a / b:=by
 rw [Nat.mul_div_mul_left _ _ (Nat.pow_pos (by omega))]
theorem DivAt.done {A V:Nat} {u q:List Nat} {nv:Nat} (h:DivAt A V u q nv 0):val q=A / V∧val u=A % V:=by
 have h1:=h.eq
 have h2:=h.lt
 simp only [Nat.pow_zero,Nat.one_mul,Nat.mul_one,List.drop_zero] at h1 h2
 have hV:0 < V:=by omega
 rw [← h1,Nat.add_mul_div_left _ _ hV,Nat.div_eq_of_lt h2,Nat.add_mul_mod_self_left,Nat.mod_eq_of_lt h2]
 exact ⟨by simp,rfl⟩
theorem window_val {u:List Nat} {j m:Nat} (hl:j + m≤u.length) (hlt:val u < bB ^ (j + m)):val u=val (u.take j) + bB ^ j * val ((u.drop j).take m):=by
 rw [val_split u (i:=j) (by omega)]
 congr 2
 rw [val_split (u.drop j) (i:=m) (by simp;omega)]
 have h0:val ((u.drop j).drop m)=0:=by
  rcases Nat.eq_zero_or_pos (val ((u.drop j).drop m)) with h | h
  ·exact h
  ·exfalso
   rw [List.drop_drop] at h
   have h1:=val_split u hl
   have:bB ^ (j + m) * 1≤bB ^ (j + m) * val (u.drop (j + m)):=Nat.mul_le_mul_left _ h
   omega
 rw [h0];simp
theorem DivAt.step {A V:Nat} {u q w:List Nat} {nv j:Nat} (h:DivAt A V u q nv (j + 1)) (hV:0 < V) (hVn:V≤bB ^ nv) (hl:j + nv + 1≤u.length) (hj:j < q.length) (hw:L32 w) (hwl:w.length=nv + 1)
 (hwv:val w=val ((u.drop j).take (nv + 1)) % V):DivAt A V (u.take j ++ w ++ u.drop (j + nv + 1)) (q.set j (val ((u.drop j).take (nv + 1)) / V)) nv j∧val ((u.drop j).take (nv + 1)) < V * bB∧val ((u.drop j).take (nv + 1)) / V < bB:=by
 have hlt:val u < bB ^ (j + (nv + 1)):=by
  have h1:=h.lt
  have h2:V * bB ^ (j + 1)≤bB ^ nv * bB ^ (j + 1):=Nat.mul_le_mul_right _ hVn
  rw [← Nat.pow_add] at h2
  rw [show j + (nv + 1)=nv + (j + 1) by omega]
  omega
 have hwin:=window_val (u:=u) (j:=j) (m:=nv + 1) (by omega) hlt
 have htk:=val_take_lt h.lu j
 have hU:val ((u.drop j).take (nv + 1)) < V * bB:=by
  have h1:=h.lt
  rw [hwin,Nat.pow_succ] at h1
  rcases Nat.lt_or_ge (val ((u.drop j).take (nv + 1))) (V * bB) with h3 | h3
  ·exact h3
  ·exfalso
   have h4:bB ^ j * (V * bB)≤bB ^ j * val ((u.drop j).take (nv + 1)):=Nat.mul_le_mul_left _ h3
   have h5:V * (bB ^ j * bB)=bB ^ j * (V * bB):=by ac_rfl
   omega
 have hzero:val (u.drop (j + nv + 1))=0:=by
  rcases Nat.eq_zero_or_pos (val (u.drop (j + nv + 1))) with h0 | h0
  ·exact h0
  ·exfalso
   have h1:=val_split u hl
   have h2:bB ^ (j + nv + 1) * 1≤bB ^ (j + nv + 1) * val (u.drop (j + nv + 1)):=Nat.mul_le_mul_left _ h0
   rw [← Nat.add_assoc] at hlt
   omega
 have hq:val ((u.drop j).take (nv + 1)) / V < bB:=by rw [Nat.div_lt_iff_lt_mul hV,Nat.mul_comm];exact hU
 refine ⟨⟨?_,?_,(((h.lu.take j).append hw).append (h.lu.drop _)),h.lq.set hq _⟩,hU,hq⟩
 ·have h1:=h.eq
  rw [val_append,val_append,hzero,Nat.mul_zero,Nat.add_zero,hwv,List.length_take,Nat.min_eq_left (by omega),val_drop (by simpa using hj),nth_set_same hj,List.drop_set_of_lt (by omega)]
  rw [hwin] at h1
  have h2:=Nat.div_add_mod (val ((u.drop j).take (nv + 1))) V
  generalize val ((u.drop j).take (nv + 1))=U at *
  generalize U / V=d at *
  generalize U % V=r at *
  generalize val (u.take j)=t at *
  generalize val (q.drop (j + 1))=Q at *
  rw [← h2,Nat.pow_succ] at h1
  rw [← h1,Nat.mul_add,Nat.mul_add]
  have e1:bB ^ j * V * (bB * Q)=bB ^ j * bB * V * Q:=by ac_rfl
  have e2:bB ^ j * V * d=bB ^ j * (V * d):=by ac_rfl
  omega
 ·rw [val_append,val_append,hzero,Nat.mul_zero,Nat.add_zero,hwv,List.length_take,Nat.min_eq_left (by omega)]
  have h1:bB ^ j * (val ((u.drop j).take (nv + 1)) % V + 1)≤bB ^ j * V:=Nat.mul_le_mul_left _ (Nat.mod_lt _ hV)
  rw [Nat.mul_add,Nat.mul_one] at h1
  rw [Nat.mul_comm V]
  omega
end Go.Proofs.YtgbmnlmnhbkdbaaGreat
/- Plain law of a divisor shifted up till its highest bit is set. No condition. -/
namespace Go.Proofs.YtgbmnlmnhbkdbaaGreat

theorem bitLen_bounds (x:Nat):x ≠ 0→x < 2 ^ 64→x < 2 ^ Lib.bitLen x∧2 ^ Lib.bitLen x≤2 * x:=by
 induction x using Nat.strongRecOn with
 | ind x ih =>
   intro h0 h
   rw [Lib.bitLen_half x h0 h]
   rcases Nat.eq_zero_or_pos (x / 2) with h2 | h2
   ·obtain rfl:x=1:=by omega
    exact ⟨by decide,by decide⟩
   ·obtain ⟨h3,h4⟩:=ih (x / 2) (by omega) (by omega) (by omega)
    rw [Nat.add_comm,Nat.pow_succ]
    omega
theorem shift_norm {b m x z:Nat} (hm:(limbs b).length=m) (hp:0 < m) (hx:nth (limbs b) (m - 1)=x) (hz:z + Lib.bitLen x=32) :
 (limbs (2 ^ z * b)).length=m∧bB≤2 * nth (limbs (2 ^ z * b)) (m - 1)∧z≤31:=by
 have hx0:x ≠ 0:=by
  have:=limbs_end (n:=b) (by omega)
  rw [hm,hx] at this
  exact this
 have hxB:x < bB:=by rw [← hx];exact (limbs_L32 b).nth _
 obtain ⟨h1,h2⟩:=bitLen_bounds x hx0 (by rw [bB_eq] at hxB;omega)
 have hB:bB=2 ^ z * 2 ^ Lib.bitLen x:=by rw [← Nat.pow_add,hz];rfl
 have hz31:z≤31:=by
  rcases Nat.eq_zero_or_pos (Lib.bitLen x) with h | h
  ·rw [h] at h1;omega
  ·omega
 have hv:=val_split (limbs b) (i:=m - 1) (by omega)
 rw [val_limbs,val_drop (by omega),List.drop_eq_nil_of_le (by omega),val_nil,hx,Nat.mul_zero,Nat.add_zero] at hv
 have ht:=val_take_lt (limbs_L32 b) (m - 1)
 have hBm:bB ^ m=bB * bB ^ (m - 1):=by rw [← Nat.pow_succ'];congr 1;omega
 have hup:2 ^ z * b < bB ^ m:=by
  have h3:b + 1≤(x + 1) * bB ^ (m - 1):=by rw [Nat.add_mul,Nat.mul_comm x];omega
  have h4:2 ^ z * (b + 1)≤2 ^ z * ((x + 1) * bB ^ (m - 1)):=Nat.mul_le_mul_left _ h3
  have h5:2 ^ z * ((x + 1) * bB ^ (m - 1))≤2 ^ z * (2 ^ Lib.bitLen x * bB ^ (m - 1)):=Nat.mul_le_mul_left _ (Nat.mul_le_mul_right _ h1)
  rw [← Nat.mul_assoc,← Nat.mul_assoc,← hB] at h5
  rw [← Nat.mul_assoc] at h4
  rw [Nat.mul_add,Nat.mul_one] at h4
  have:=Nat.pow_pos (n:=z) (show 0 < 2 by omega)
  rw [hBm]
  omega
 have hlow:bB ^ m≤2 * (2 ^ z * b):=by
  have h3:bB ^ (m - 1) * x≤b:=by omega
  have h4:2 ^ z * (bB ^ (m - 1) * x)≤2 ^ z * b:=Nat.mul_le_mul_left _ h3
  have h5:2 ^ z * 2 ^ Lib.bitLen x * bB ^ (m - 1)≤2 ^ z * (2 * x) * bB ^ (m - 1):=Nat.mul_le_mul_right _ (Nat.mul_le_mul_left _ h2)
  rw [← hB] at h5
  have h6:2 ^ z * (2 * x) * bB ^ (m - 1)=2 * (2 ^ z * (bB ^ (m - 1) * x)):=by ac_rfl
  rw [hBm]
  omega
 have hl1:=limbs_len hup
 have hP:=bB_pow_pos (m - 1)
 have hl2:m≤(limbs (2 ^ z * b)).length:=by
  rcases Nat.lt_or_ge (limbs (2 ^ z * b)).length m with h | h
  ·exfalso
   have h3:=limbs_lt (2 ^ z * b)
   have h4:bB ^ (limbs (2 ^ z * b)).length≤bB ^ (m - 1):=Nat.pow_le_pow_right bB_pos (by omega)
   rw [hBm] at hlow
   have h5:2 * bB ^ (m - 1)≤bB * bB ^ (m - 1):=Nat.mul_le_mul_right _ (by rw [bB_eq];omega)
   omega
  ·exact h
 have hl:(limbs (2 ^ z * b)).length=m:=by omega
 refine ⟨hl,?_,hz31⟩
 have hv2:=val_split (limbs (2 ^ z * b)) (i:=m - 1) (by omega)
 rw [val_limbs,val_drop (by omega),List.drop_eq_nil_of_le (by omega),val_nil,Nat.mul_zero,Nat.add_zero] at hv2
 have ht2:=val_take_lt (limbs_L32 (2 ^ z * b)) (m - 1)
 generalize nth (limbs (2 ^ z * b)) (m - 1)=t at *
 have h3:2 ^ z * b < (t + 1) * bB ^ (m - 1):=by rw [Nat.add_mul,Nat.mul_comm t];omega
 have h4:bB * bB ^ (m - 1) < 2 * (t + 1) * bB ^ (m - 1):=by rw [Nat.mul_assoc 2,← hBm];omega
 have h5:=Nat.lt_of_mul_lt_mul_right h4
 rw [bB_eq] at h5 ⊢
 omega
theorem DivAt.win {A V:Nat} {u q:List Nat} {nv j:Nat} (h:DivAt A V u q nv (j + 1)) (hVn:V≤bB ^ nv) (hl:j + nv + 1≤u.length):val ((u.drop j).take (nv + 1)) < V * bB:=by
 have hlt:val u < bB ^ (j + (nv + 1)):=by
  have h1:=h.lt
  have h2:V * bB ^ (j + 1)≤bB ^ nv * bB ^ (j + 1):=Nat.mul_le_mul_right _ hVn
  rw [← Nat.pow_add] at h2
  rw [show j + (nv + 1)=nv + (j + 1) by omega]
  omega
 have hwin:=window_val (u:=u) (j:=j) (m:=nv + 1) (by omega) hlt
 have h1:=h.lt
 rw [hwin,Nat.pow_succ] at h1
 rcases Nat.lt_or_ge (val ((u.drop j).take (nv + 1))) (V * bB) with h3 | h3
 ·exact h3
 ·exfalso
  have h4:bB ^ j * (V * bB)≤bB ^ j * val ((u.drop j).take (nv + 1)):=Nat.mul_le_mul_left _ h3
  have h5:V * (bB ^ j * bB)=bB ^ j * (V * bB):=by ac_rfl
  omega
theorem DivAt.start {a b n m z:Nat} (ha:(limbs a).length=n) (hz:z≤31) (hV:bB ^ m≤2 * (2 ^ z * b)) (hmn:m≤n) {u q:List Nat} (hu:val u=2 ^ z * a) (hlu:L32 u) (hlq:L32 q) (hql:q.length=n - m + 1):DivAt (2 ^ z * a) (2 ^ z * b) u q m (n - m + 1):=by
 refine ⟨?_,?_,hlu,hlq⟩
 ·rw [List.drop_eq_nil_of_le (by omega),val_nil,Nat.mul_zero,Nat.add_zero,hu]
 ·rw [hu]
  have h1:a < bB ^ n:=by have:=limbs_lt a;rwa [ha] at this
  have h2:2 ^ z * a < 2 ^ z * bB ^ n:=Nat.mul_lt_mul_of_pos_left h1 (Nat.pow_pos (by omega))
  have h3:2 ^ z * bB ^ n≤2 ^ 31 * bB ^ n:=Nat.mul_le_mul_right _ (Nat.pow_le_pow_right (by omega) hz)
  have h4:bB ^ m * bB ^ (n - m + 1)≤2 * (2 ^ z * b) * bB ^ (n - m + 1):=Nat.mul_le_mul_right _ hV
  rw [← Nat.pow_add,show m + (n - m + 1)=n + 1 by omega,Nat.pow_succ',Nat.mul_assoc 2] at h4
  have h5:bB * bB ^ n=2 * (2 ^ 31 * bB ^ n):=by rw [← Nat.mul_assoc];rfl
  omega
theorem shift_low {b m x z:Nat} (hm:(limbs b).length=m) (hp:0 < m) (hx:nth (limbs b) (m - 1)=x) (hz:z + Lib.bitLen x=32):bB ^ m≤2 * (2 ^ z * b):=by
 obtain ⟨h1,h2,_⟩:=shift_norm hm hp hx hz
 have hv2:=val_split (limbs (2 ^ z * b)) (i:=m - 1) (by omega)
 rw [val_limbs,val_drop (by omega),List.drop_eq_nil_of_le (by omega),val_nil,Nat.mul_zero,Nat.add_zero] at hv2
 have h3:bB * bB ^ (m - 1)≤2 * nth (limbs (2 ^ z * b)) (m - 1) * bB ^ (m - 1):=Nat.mul_le_mul_right _ h2
 have h4:bB ^ m=bB * bB ^ (m - 1):=by rw [← Nat.pow_succ'];congr 1;omega
 rw [Nat.mul_assoc 2,Nat.mul_comm (nth _ _)] at h3
 rw [h4]
 omega
end Go.Proofs.YtgbmnlmnhbkdbaaGreat
