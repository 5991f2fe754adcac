/- Plain law: products and sums of eighths, step by step, and how many limbs they have. No condition. -/
import Derived.Test.YtgbmnlmnhbkdbaaGreatWEntry
set_option linter.unusedVariables false
set_option linter.unusedSimpArgs false
namespace Go.Proofs.YtgbmnlmnhbkdbaaGreat

def prodL (f:Nat→Asg→Rat) (l:List Nat) (x:Asg):Rat:=l.foldl (fun q v=>q * f v x) 1
theorem prodL_snoc (f:Nat→Asg→Rat) (l:List Nat) (v:Nat) (x:Asg):prodL f (l ++ [v]) x=prodL f l x * f v x:=by unfold prodL;rw [List.foldl_append];rfl
def partQ (f:Nat→Asg→Rat) (l:List Nat) (gl:List Int) (z:Nat→Bool) (al:List Int) (t i:Nat):Rat:=sumTo t (fun k=>indQ gl z al i (bitsA k) * prodL f l (bitsA k))
theorem mk_mul8 (a e d:Nat):mkRat (a:Int) d * mkRat (e:Int) 8=mkRat ((a * e:Nat):Int) (d * 8):=by
 rw [Rat.mkRat_mul_mkRat];push_cast;rfl
theorem mk_add_same (a b:Nat) {d:Nat} (hd:d ≠ 0):mkRat (a:Int) d + mkRat (b:Int) d=mkRat ((a + b:Nat):Int) d:=by
 rw [Rat.mkRat_add_mkRat _ _ hd hd]
 have e:((a:Int) * (d:Int) + (b:Int) * (d:Int))=((a + b:Nat):Int) * (d:Int):=by push_cast;rw [Int.add_mul]
 rw [e,Rat.mkRat_mul_right hd]
theorem prod_oct (Ts Ps:List (List Int)) (x:Asg):∀ (l:List Nat) (a t:Nat),a≤8 ^ t→∃ b:Nat,b≤8 ^ (t + l.length)∧l.foldl (fun q v=>q * entQ Ts Ps v x) (mkRat (a:Int) (8 ^ t))=mkRat (b:Int) (8 ^ (t + l.length))
 | [],a,t,h=>⟨a,h,rfl⟩
 | v :: l,a,t,h=>by
   have h2:a * entN Ts Ps v x≤8 ^ (t + 1):=by rw [Nat.pow_succ];exact Nat.mul_le_mul h (entN_le Ts Ps v x)
   obtain ⟨b,h3,h4⟩:=prod_oct Ts Ps x l _ _ h2
   refine ⟨b,by rw [List.length_cons,show t + (l.length + 1)=t + 1 + l.length by omega];exact h3,?_⟩
   rw [List.foldl_cons,List.length_cons,show t + (l.length + 1)=t + 1 + l.length by omega,← h4]
   unfold entQ
   rw [mk_mul8,← Nat.pow_succ]
theorem prodL_oct (Ts Ps:List (List Int)) (l:List Nat) (x:Asg):∃ b:Nat,b≤8 ^ l.length∧prodL (entQ Ts Ps) l x=mkRat (b:Int) (8 ^ l.length):=by
 obtain ⟨b,h1,h2⟩:=prod_oct Ts Ps x l 1 0 (by decide)
 rw [Nat.zero_add] at h1 h2
 exact ⟨b,h1,by rw [← h2];rfl⟩
theorem pow8_le {n:Nat} (h:n≤7):8 ^ n≤2097152:=Nat.le_trans (Nat.pow_le_pow_right (by decide) h) (by decide)
theorem prodL_len (Ts Ps:List (List Int)) (l:List Nat) (x:Asg) (h:l.length≤7):ratLen (prodL (entQ Ts Ps) l x)≤2:=by
 obtain ⟨b,h1,h2⟩:=prodL_oct Ts Ps l x
 have:=pow8_le h
 rw [h2]
 exact small_len (by omega) (by omega) (by have:=Nat.pow_pos (n:=l.length) (show 0 < 8 by decide);omega)
theorem entQ_len (Ts Ps:List (List Int)) (v:Nat) (x:Asg):ratLen (entQ Ts Ps v x)≤2:=small_len (by have:=entN_le Ts Ps v x;omega) (by decide) (by decide)
theorem partQ_oct (Ts Ps:List (List Int)) (l:List Nat) (gl:List Int) (z:Nat→Bool) (al:List Int) (i:Nat):∀ t,∃ a:Nat,a≤t * 8 ^ l.length∧partQ (entQ Ts Ps) l gl z al t i=mkRat (a:Int) (8 ^ l.length)
 | 0=>⟨0,by omega,by show (0:Rat)=_;rw [show (((0:Nat)):Int)=0 from rfl,Rat.zero_mkRat]⟩
 | t + 1=>by
   obtain ⟨a,h1,h2⟩:=partQ_oct Ts Ps l gl z al i t
   have h8:8 ^ l.length ≠ 0:=by have:=Nat.pow_pos (n:=l.length) (show 0 < 8 by decide);omega
   obtain ⟨b,h3,h4⟩:∃ b:Nat,b≤8 ^ l.length∧indQ gl z al i (bitsA t) * prodL (entQ Ts Ps) l (bitsA t)=mkRat (b:Int) (8 ^ l.length):=by
    unfold indQ
    split
    ·obtain ⟨b,h3,h4⟩:=prodL_oct Ts Ps l (bitsA t)
     exact ⟨b,h3,by rw [Rat.one_mul];exact h4⟩
    ·exact ⟨0,Nat.zero_le _,by rw [Rat.zero_mul,show (((0:Nat)):Int)=0 from rfl,Rat.zero_mkRat]⟩
   refine ⟨a + b,by rw [Nat.succ_mul];omega,?_⟩
   show partQ (entQ Ts Ps) l gl z al t i + indQ gl z al i (bitsA t) * prodL (entQ Ts Ps) l (bitsA t)=_
   rw [h2,h4,mk_add_same _ _ h8]
theorem partQ_len (Ts Ps:List (List Int)) (l:List Nat) (gl:List Int) (z:Nat→Bool) (al:List Int) (i t:Nat) (h:l.length≤7) (ht:t≤128):ratLen (partQ (entQ Ts Ps) l gl z al t i)≤2:=by
 obtain ⟨a,h1,h2⟩:=partQ_oct Ts Ps l gl z al i t
 have h3:=pow8_le h
 have h4:t * 8 ^ l.length≤128 * 2097152:=Nat.mul_le_mul ht h3
 rw [h2]
 exact small_len (by omega) (by omega) (by have:=Nat.pow_pos (n:=l.length) (show 0 < 8 by decide);omega)
theorem partQ_next (f:Nat→Asg→Rat) (l:List Nat) (gl:List Int) (z:Nat→Bool) (al:List Int) (t i:Nat):partQ f l gl z al (t + 1) i=if fitB gl z (bitsA t)=true∧placeA al (bitsA t)=i then partQ f l gl z al t i + prodL f l (bitsA t) else partQ f l gl z al t i:=by
 show partQ f l gl z al t i + indQ gl z al i (bitsA t) * prodL f l (bitsA t)=_
 unfold indQ
 by_cases h:fitB gl z (bitsA t)=true∧placeA al (bitsA t)=i
 ·rw [if_pos h,if_pos (by rw [h.1,h.2];simp),Rat.one_mul]
 ·rw [if_neg h,if_neg (fun e=>h (by simpa using e)),Rat.zero_mul]
  grind
theorem fitB_snoc (gl:List Int) (y:Int) (z:Nat→Bool) (x:Asg):fitB (gl ++ [y]) z x=(fitB gl z x && (x y.toNat == z y.toNat)):=by unfold fitB;rw [List.all_append];simp
theorem partQ_all (f:Nat→Asg→Rat) (l:List Nat) (D:Nat→Bool) (n:Nat) (gl:List Int) (z:Nat→Bool) (al:List Int) (i:Nat) (hl:l=(List.range n).filter D):partQ f l gl z al (2 ^ n) i=sumsQ f D n gl z al i:=by
 unfold partQ sumsQ
 rw [← sumTo_S]
 refine sumTo_congr fun k _=>?_
 rw [hl]
 unfold prodL
 rw [prodP_list]
end Go.Proofs.YtgbmnlmnhbkdbaaGreat
