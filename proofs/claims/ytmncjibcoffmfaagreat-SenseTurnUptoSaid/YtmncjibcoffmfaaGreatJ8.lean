/- Joined by program out of: RNatA, RNatB, RNatC. What each says stands at its own head. -/
import Derived.Test.YtmncjibcoffmfaaGreatNatB
set_option linter.unusedVariables false
set_option linter.unusedSimpArgs false
/- The document's naturals: Norm, limb, Cmp, walked. Conditions: the slices read as limbs, within their capacities and Go's bound. -/
namespace Go.Proofs.YtmncjibcoffmfaaGreat
open Go.RowKit

set_option maxRecDepth 100000 in
set_option maxHeartbeats 800000 in
theorem rnat_norm (A:Option Addr) (n c:Nat) (xs:List Nat) (w:World) (h:Sl eU w A n xs) (hc:n≤c) (hl:L32 xs) (hb:n * 4≤140737488355328) :
 Calls Tryz.prog 65 #[.slice A n c] w (NatPost (val xs) w):=by
 have hbig:=h.big
 have HL:=Lib.hid (And.intro h.len (limbs_val hl))
 obtain ⟨wa,hwa⟩:∃ wa:World,wa=w:=⟨_,rfl⟩
 subst hwa
 go_enter Tryz.func65,Tryz.ntmps65
 go_wp2_with fail
 go_loopw [3] (fun v wr=>∃ m:Nat,v=.int .i64 (m:Nat)∧m≤n∧trimL (xs.take m)=trimL xs∧wr=wa) (fun v _=>(intOf v).toNat)
 case atStart=>exact ⟨n,rfl,Nat.le_refl _,by rw [List.take_of_length_le (by rw [HL.out.1];exact Nat.le_refl _)],rfl⟩
 case round =>
  obtain ⟨m,rfl,hm,ht,hwr⟩:=hrel
  have hwr:=hwr.symm
  subst hwr
  have hs:=h.cutN hm
  have hq:m * 4≤140737488355328:=by omega
  have i5:m≤c:=by omega
  have i6:(m:Int)≤(c:Nat):=by omega
  have hfin:(m=0 ∨ nth xs (m - 1) ≠ 0)→limbs (val xs)=xs.take m:=fun hx=>by
   rw [HL.out.2,← ht]
   rcases Nat.eq_zero_or_pos m with rfl | hp
   ·simp [trimL]
   ·have hx:nth xs (m - 1) ≠ 0:=by rcases hx with hx | hx;omega;exact hx
    have hts:xs.take m=xs.take (m - 1) ++ [nth xs (m - 1)]:=by
     have:=take_snoc (xs:=xs) (k:=m - 1) (by rw [HL.out.1];omega)
     rwa [show m - 1 + 1=m by omega] at this
    rw [hts,trimL_last hx]
  have HFN:=Lib.hid hfin
  clear hfin
  rcases Nat.eq_zero_or_pos m with rfl | hp
  ·have HE:=Lib.hid (HFN.out (.inl rfl))
   clear ht
   go_wp2_with (first
    | (at_builtin;refine wpList_app _ eiNat eU eU_one rfl _ _ rfl wa.heap.size _ _ _ _ rfl (OwnR.nil _ _ _ _) _ _ _ _ rfl hs (by omega) (Nat.le_refl _) ?_)
    | fail)
   intro R d w' ho hg hb' _
   have HF:=Lib.hid (And.intro ho hb')
   clear ho hg hb'
   go_wp2_with fail
   go_ret
   exact ⟨R,d,by rw [HE.out];simp,by rw [HE.out];simpa using HF.out.1,HF.out.2⟩
  ·obtain ⟨b,o,rfl,_,hcc⟩:=h.at' (by omega)
   have g1:=hcc (m - 1) (by omega)
   have i1:(0:Int) < (m:Nat):=by omega
   have i2:(0:Int)≤(m:Int) - 1:=by omega
   have i3:((m:Int) - 1).toNat=m - 1:=by omega
   have i4:(m:Int) - 1 < (n:Nat):=by omega
   have i7:(0:Int)≤(m:Nat):=by omega
   have hlen:(xs.take m).length=m:=hs.len
   have hts:xs.take m=xs.take (m - 1) ++ [nth xs (m - 1)]:=by
    have:=take_snoc (xs:=xs) (k:=m - 1) (by rw [HL.out.1];omega)
    rwa [show m - 1 + 1=m by omega] at this
   generalize hxv:nth xs (m - 1)=x at *
   unfold eU at g1
   rcases Nat.eq_zero_or_pos x with rfl | hxp
   ·have ht2:trimL (xs.take (m - 1))=trimL xs:=by rw [← ht,hts,trimL_zero]
    have HT:=Lib.hid ht2
    clear ht ht2 hts hcc hs hlen hxv
    go_wp2_with fail
    exact ⟨⟨m - 1,by first | rfl | (congr 1;omega),by omega,HT.out,by first | rfl | trivial⟩,by simp [intOf];omega⟩
   ·have HE:=Lib.hid (HFN.out (.inr (by omega)))
    have HLN:=Lib.hid hlen
    have j1:((x:Int) == 0)=false:=by simp;omega
    have j2:¬ (x:Int)=0:=by omega
    clear ht hts hcc hlen hxv
    go_wp2_with (first
     | (at_builtin;refine wpList_app _ eiNat eU eU_one rfl _ _ rfl wa.heap.size _ _ _ _ rfl (OwnR.nil _ _ _ _) _ _ _ _ rfl hs (by omega) (Nat.le_refl _) ?_)
     | fail)
    intro R d w' ho hg hb' _
    have HF:=Lib.hid (And.intro ho hb')
    clear ho hg hb'
    go_wp2_with fail
    go_ret
    exact ⟨R,d,by rw [HE.out,HLN.out];simp,by rw [HE.out,HLN.out];simpa using HF.out.1,HF.out.2⟩
set_option maxRecDepth 100000 in
set_option maxHeartbeats 400000 in
theorem rnat_limb (A:Option Addr) (n c:Nat) (xs:List Nat) (i:Nat) (w:World) (h:Sl eU w A n xs) (hl:L32 xs) :
 Calls Tryz.prog 122 #[.slice A n c,.int .i64 (i:Nat)] w fun e w'=>e=.returned (.int .u64 ((nth xs i:Nat):Int))∧w=w':=by
 have HL:=Lib.hid h.len
 have hbig:=h.big
 have hx:=hl.nth i
 rw [bB_eq] at hx
 go_enter Tryz.func122,Tryz.ntmps122
 rcases Nat.lt_or_ge i n with hi | hi
 ·obtain ⟨b,o,rfl⟩:=sl_someU h (by omega)
  have g1:=sl_atU h hi
  have i1:(i:Int) < (n:Nat):=by omega
  have i2:(0:Int)≤(i:Nat):=by omega
  generalize nth xs i=x at *
  have j1:(x:Int) % 18446744073709551616=x:=by omega
  clear h
  go_wp2_with fail
  go_ret
  exact ⟨by first | rfl | simp [ret_u64],by first | rfl | trivial⟩
 ·have hz:nth xs i=0:=nth_none (by rw [HL.out];exact hi)
  have i1:¬ (i:Int) < (n:Nat):=by omega
  rw [hz]
  clear h hx hz
  go_wp2_with fail
  go_ret
  exact ⟨rfl,by first | rfl | trivial⟩
end Go.Proofs.YtmncjibcoffmfaaGreat
/- The document's naturals: Cmp, Add, Sub, walked. Conditions: the slices read as limbs, within Go's bound together. -/
namespace Go.Proofs.YtmncjibcoffmfaaGreat
open Go.RowKit

structure RAdd (a b s:List Nat) (i c:Nat):Prop where
 len:s.length=i
 c1:c≤1
 l32:L32 s
 eq:val s + c * bB ^ i=vTo a i + vTo b i
theorem RAdd.start (a b:List Nat):RAdd a b [] 0 0:=⟨rfl,by omega,L32.nil,by simp [val,vTo]⟩
theorem RAdd.step {a b s:List Nat} {i c:Nat} (h:RAdd a b s i c) (ha:L32 a) (hb:L32 b):RAdd a b (s ++ [(c + nth a i + nth b i) % bB]) (i + 1) ((c + nth a i + nth b i) / bB):=by
 have h1:=ha.nth i
 have h2:=hb.nth i
 have h3:=h.c1
 have h4:=h.eq
 refine ⟨by rw [List.length_append,h.len];rfl,?_,h.l32.append (L32.cons (Nat.mod_lt _ bB_pos) L32.nil),?_⟩
 ·rw [bB_eq] at *;omega
 ·rw [val_snoc,h.len,vTo_succ,vTo_succ,Nat.pow_succ]
  have h5:=Nat.mod_add_div (c + nth a i + nth b i) bB
  generalize (c + nth a i + nth b i) % bB=r at *
  generalize (c + nth a i + nth b i) / bB=q at *
  generalize bB ^ i=p at *
  have h6:p * r + q * (p * bB)=(r + bB * q) * p:=by rw [Nat.add_mul,Nat.mul_comm p r];congr 1;ac_rfl
  have h7:val s + p * r + q * (p * bB)=val s + (r + bB * q) * p:=by rw [Nat.add_assoc,h6]
  rw [h7,h5,Nat.add_mul,Nat.add_mul]
  omega
theorem RAdd.done {a b s:List Nat} {i:Nat} (h:RAdd a b s i 0) (ha:a.length≤i) (hb:b.length≤i):val s=val a + val b:=by
 have:=h.eq
 rw [vTo_all ha,vTo_all hb] at this
 omega
structure RSub (a b s:List Nat) (i c:Nat):Prop where
 len:s.length=i
 c1:c≤1
 l32:L32 s
 eq:val s + vTo b i=vTo a i + c * bB ^ i
theorem RSub.start (a b:List Nat):RSub a b [] 0 0:=⟨rfl,by omega,L32.nil,by simp [val,vTo]⟩
theorem RSub.step {a b s:List Nat} {i c:Nat} (h:RSub a b s i c) (ha:L32 a) (hb:L32 b):RSub a b (s ++ [lessD (nth a i) (nth b i + c)]) (i + 1) (lessC (nth a i) (nth b i + c)):=by
 have h1:=ha.nth i
 have h2:=hb.nth i
 have h3:=h.c1
 have h4:=h.eq
 have h5:=lessD_eq h1 (t:=nth b i + c) (by omega)
 refine ⟨by rw [List.length_append,h.len];rfl,lessC_le _ _,h.l32.append (L32.cons (Nat.mod_lt _ bB_pos) L32.nil),?_⟩
 rw [val_snoc,h.len,vTo_succ,vTo_succ,Nat.pow_succ]
 generalize lessD (nth a i) (nth b i + c)=r at *
 generalize lessC (nth a i) (nth b i + c)=q at *
 generalize bB ^ i=p at *
 have h6:q * (p * bB)=q * bB * p:=by ac_rfl
 have h7:=congrArg (· * p) h5
 simp only [Nat.add_mul] at h7
 rw [h6,Nat.mul_comm p r]
 omega
theorem RSub.done {a b s:List Nat} {c:Nat} (h:RSub a b s a.length c) (hle:val b≤val a) (ha:L32 a):val s=val a - val b:=by
 have h1:=h.eq
 rw [vTo_all (Nat.le_refl _)] at h1
 have h2:vTo b a.length=val b:=by
  rcases Nat.le_total b.length a.length with hl | hl
  ·exact vTo_all hl
  ·rw [vTo_take]
   have h3:=val_split b hl
   have h4:=val_lt ha
   rcases Nat.eq_zero_or_pos (val (b.drop a.length)) with h0 | h0
   ·rw [h0] at h3;omega
   ·have:bB ^ a.length * 1≤bB ^ a.length * val (b.drop a.length):=Nat.mul_le_mul_left _ h0
    omega
 have h5:=val_lt h.l32
 rw [h.len] at h5
 have h6:=h.c1
 rcases Nat.eq_zero_or_pos c with h0 | h0
 ·subst h0;omega
 ·obtain rfl:c=1:=by omega
  omega
set_option maxRecDepth 100000 in
set_option maxHeartbeats 800000 in
theorem rnat_add (A B:Option Addr) (n c m d:Nat) (xs ys:List Nat) (w:World) (h:Sl eU w A n xs) (hl:L32 xs) (k:Sl eU w B m ys) (kl:L32 ys) (hb:(n + m + 4) * 8≤140737488351232) :
 Calls Tryz.prog 103 #[.slice A n c,.slice B m d] w (NatPost (val xs + val ys) w):=by
 obtain ⟨M,hM1,hM2,hM3⟩:∃ M,n≤M∧m≤M∧M≤n + m:=⟨n + m,by omega,by omega,Nat.le_refl _⟩
 have HL:=Lib.hid (And.intro h.len k.len)
 have HS:=Lib.hid (And.intro h k)
 clear h k
 go_enter Tryz.func103,Tryz.ntmps103
 go_wp2_with fail
 go_loopw [5,6,7] (fun o cv iv wr=>∃ (i cc:Nat) (D:Option Addr) (q:Nat) (s:List Nat),o=.slice D i q∧cv=.int .u64 (cc:Int)∧iv=.int .i64 (i:Nat)∧RAdd xs ys s i cc∧(i≤M ∨ i=M + 1∧cc=0)∧OwnR eU wr w.heap.size 54 D i q s∧Below w.heap.size w wr) (fun _ _ iv _=>M + 1 - (intOf iv).toNat)
 case atStart=>exact ⟨0,0,none,0,[],rfl,rfl,rfl,RAdd.start _ _,.inl (Nat.zero_le _),OwnR.nil _ _ _ _,Below.refl _ _⟩
 case round =>
  obtain ⟨i,cc,D,q,s,rfl,rfl,rfl,hS,hi,hO,hB⟩:=hrel
  obtain ⟨wb,hwb⟩:∃ wb:World,wb=wr:=⟨_,rfl⟩
  subst hwb
  have hcc:=hS.c1
  by_cases hgo:i < n ∨ i < m ∨ 0 < cc
  ·as_aux_lemma =>
   have hiM:i≤M:=by omega
   have hst:=hS.step hl kl
   have hx:=hl.nth i
   have hy:=kl.nth i
   rw [bB_eq] at hx hy
   have hz:M < i + 1→(cc + nth xs i + nth ys i) / bB=0:=fun hlt=>by
    obtain rfl:i=M:=by omega
    rw [nth_none (l:=xs) (by rw [HL.out.1];exact hM1),nth_none (l:=ys) (by rw [HL.out.2];exact hM2),bB_eq]
    omega
   have hla:=rnat_limb A n c xs i wb (HS.out.1.below (Nat.le_refl _) hB) hl
   have hlb:=rnat_limb B m d ys i wb (HS.out.2.below (Nat.le_refl _) hB) kl
   generalize nth xs i=x at *
   generalize nth ys i=y at *
   have e2:(((cc + x + y) / bB:Nat):Int)=((cc:Int) + x + y) / 4294967296:=by rw [bB_eq];omega
   have hs1:Sl eU (wb.alloc (.cells #[.int .u32 (((cc:Int) + x + y) % 4294967296)] 54)) (some ⟨wb.heap.size,0,none⟩) 1 [(cc + x + y) % bB]:=by
    have:=Sl.one (enc:=eU) wb 54 ((cc + x + y) % bB)
    have e1:eU ((cc + x + y) % bB)=.int .u32 (((cc:Int) + x + y) % 4294967296):=by unfold eU;rw [bB_eq];rfl
    rw [e1] at this
    exact this
   have ho1:=hO.alloc (.cells #[.int .u32 (((cc:Int) + x + y) % 4294967296)] 54)
   have hb1:=hB.alloc hB.size (.cells #[.int .u32 (((cc:Int) + x + y) % 4294967296)] 54)
   have hsz:=hb1.size
   have hx':(x:Int) < 4294967296:=by omega
   have hy':(y:Int) < 4294967296:=by omega
   have HT:=Lib.hid (And.intro hst (And.intro e2 (And.intro hz hb1)))
   have HLA:=Lib.hid (And.intro hla (And.intro hlb (And.intro hs1 (And.intro ho1 hsz))))
   clear hst e2 hz hb1 hla hlb hS hx hy hO hB hi hs1 ho1 hsz
   have hgo2:(i:Int) < (n:Nat) ∨ (¬ (i:Int) < (n:Nat)∧(i:Int) < (m:Nat)) ∨ (¬ (i:Int) < (n:Nat)∧¬ (i:Int) < (m:Nat)∧(0:Int) < (cc:Nat)):=by omega
   clear hgo
   rcases hgo2 with g1 | ⟨g1,g2⟩ | ⟨g1,g2,g3⟩
   case' inl=>go_wp2_with fail
   case' inr.inl=>go_wp2_with fail
   case' inr.inr =>
    have j1:decide ((0:Int) < (cc:Nat))=true:=by simpa using g3
    have j2:decide (0 < cc)=true:=by simp;omega
    clear g3
    go_wp2_with fail
   all_goals
    refine HLA.out.1.mono ?_
    rintro e w1 ⟨rfl,rfl⟩
    go_wp2_with fail
    refine HLA.out.2.1.mono ?_
    rintro e w1 ⟨rfl,rfl⟩
    obtain ⟨_,_,hs1,ho1,hsz⟩:=HLA.out
    go_wp2_with (first
     | (at_builtin;refine wpList_app _ eiNat eU eU_one rfl _ _ rfl w.heap.size _ _ _ _ rfl ho1 _ _ _ _ rfl hs1 (by omega) hsz ?_)
     | fail)
    intro D9 q9 w9 ho9 _ hb9 _
    have HR:=Lib.hid (And.intro ho9 (HT.out.2.2.2.trans hb9))
    clear ho9 hb9 ho1 hs1
    go_wp2_with fail
    exact ⟨⟨i + 1,_,D9,q9,_,by first | rfl | go_num,by rw [HT.out.2.1],by go_num,HT.out.1,by rcases Nat.lt_or_ge M (i + 1) with h9 | h9;exact .inr ⟨by omega,HT.out.2.2.1 h9⟩;exact .inl h9,HR.out.1,HR.out.2⟩,by simp [intOf];omega⟩
  ·as_aux_lemma =>
   obtain rfl:cc=0:=by omega
   have hv:=hS.done (by rw [HL.out.1];omega) (by rw [HL.out.2];omega)
   have hls:=hS.l32
   have g1:¬ (i:Int) < (n:Nat):=by omega
   have g2:¬ (i:Int) < (m:Nat):=by omega
   have hcap:=hO.cap
   have hs:=hO.sl (by omega)
   have hsz:=hB.size
   have HV:=Lib.hid (And.intro hv hB)
   clear hS hO hB hgo hv
   go_wp2_with fail
   refine (rnat_norm D i q s _ hs hcap hls (by omega)).mono ?_
   rintro e wf ⟨R,dr,rfl,ho,hbf⟩
   rw [HV.out.1] at ho ⊢
   have HF:=Lib.hid (And.intro (ho.mono hsz) (HV.out.2.trans (hbf.mono hsz)))
   clear ho hbf
   go_wp2_with fail
   go_ret
   exact ⟨R,dr,rfl,HF.out.1,HF.out.2⟩
set_option maxRecDepth 100000 in
set_option maxHeartbeats 800000 in
theorem rnat_cmp (A B:Option Addr) (n c m d:Nat) (xs ys:List Nat) (w:World) (h:Sl eU w A n xs) (hl:L32 xs) (k:Sl eU w B m ys) (kl:L32 ys) :
 Calls Tryz.prog 125 #[.slice A n c,.slice B m d] w fun e w'=>e=.returned (.int .i64 (cmpN (val xs) (val ys)))∧w=w':=by
 obtain ⟨wa,hwa⟩:∃ wa:World,wa=w:=⟨_,rfl⟩
 subst hwa
 have HL:=Lib.hid (And.intro h.len k.len)
 have b1:=h.big
 have b2:=k.big
 go_enter Tryz.func125,Tryz.ntmps125
 have hcase:∃ M:Nat,((n:Int) < (m:Nat)∧M=m ∨ ¬ (n:Int) < (m:Nat)∧M=n)∧n≤M∧m≤M∧M≤140737488351232:=by
  by_cases hnm:n < m
  ·exact ⟨m,.inl ⟨by omega,rfl⟩,by omega,by omega,by omega⟩
  ·exact ⟨n,.inr ⟨by omega,rfl⟩,by omega,by omega,by omega⟩
 obtain ⟨M,hor,hM1,hM2,hM3⟩:=hcase
 have HM:=Lib.hid (And.intro (show val xs=vTo xs M from (vTo_all (by rw [HL.out.1];exact hM1)).symm) (show val ys=vTo ys M from (vTo_all (by rw [HL.out.2];exact hM2)).symm))
 rcases hor with ⟨i1,hq⟩ | ⟨i1,hq⟩
 case' inl =>
  have HEQ:=Lib.hid hq
  clear hq
  go_wp2_with fail
 case' inr =>
  have HEQ:=Lib.hid hq
  clear hq
  go_wp2_with fail
 all_goals
  clear i1
  go_loopw [6] (fun iv wr=>∃ t:Nat,iv=.int .i64 ((t:Int) - 1)∧t≤M∧(∀ j,t≤j→j < M→nth xs j=nth ys j)∧wr=wa) (fun iv _=>(intOf iv + 1).toNat)
  case atStart=>exact ⟨M,by rw [HEQ.out],Nat.le_refl _,fun j h1 h2=>by omega,rfl⟩
  case round =>
   obtain ⟨t,rfl,ht,heq,hwr⟩:=hrel
   have hwr:=hwr.symm
   subst hwr
   have HE:=Lib.hid heq
   clear heq
   rcases t with _ | s
   ·have HR:=Lib.hid (show cmpN (val xs) (val ys)=0 from cmpN_eq (by rw [HM.out.1,HM.out.2];exact vTo_same fun j hj=>HE.out j (Nat.zero_le _) hj))
    go_wp2_with fail
    go_ret
    exact ⟨ret_int (by rw [HR.out]),by first | rfl | trivial⟩
   ·rw [show (((s + 1:Nat):Int) - 1)=(s:Int) by omega]
    have hla:=rnat_limb A n c xs s wa h hl
    have hlb:=rnat_limb B m d ys s wa k kl
    have hx:=hl.nth s
    have hy:=kl.nth s
    rw [bB_eq] at hx hy
    have h1:nth xs s < nth ys s→cmpN (val xs) (val ys)=-1:=fun hlt=>cmpN_lt (by rw [HM.out.1,HM.out.2];exact vTo_top hl ht (fun j a b=>HE.out j a b) hlt)
    have h2:nth ys s < nth xs s→cmpN (val xs) (val ys)=1:=fun hlt=>cmpN_gt (by rw [HM.out.1,HM.out.2];exact vTo_top kl ht (fun j a b=>(HE.out j a b).symm) hlt)
    have h3:nth xs s=nth ys s→∀ j,s≤j→j < M→nth xs j=nth ys j:=fun he j a b=>by
     rcases Nat.eq_or_lt_of_le a with rfl | a
     ·exact he
     ·exact HE.out j a b
    generalize nth xs s=x at *
    generalize nth ys s=y at *
    have HLA:=Lib.hid (And.intro hla (And.intro hlb (And.intro h1 (And.intro h2 h3))))
    clear hla hlb h1 h2 h3
    have i2:(0:Int)≤(s:Nat):=by omega
    go_wp2_with fail
    refine HLA.out.1.mono ?_
    rintro e w1 ⟨rfl,rfl⟩
    go_wp2_with fail
    refine HLA.out.2.1.mono ?_
    rintro e w1 ⟨rfl,rfl⟩
    rcases Nat.lt_trichotomy x y with hxy | hxy | hxy
    ·have HR:=Lib.hid (HLA.out.2.2.1 hxy)
     have j2:(x:Int) < (y:Nat):=by omega
     go_wp2_with fail
     go_ret
     exact ⟨ret_int (by rw [HR.out]),by first | rfl | trivial⟩
    ·have HR:=Lib.hid (HLA.out.2.2.2.2 hxy)
     subst hxy
     have j2:¬ (x:Int) < (x:Nat):=by omega
     go_wp2_with fail
     exact ⟨⟨s,by first | rfl | go_num,by omega,HR.out,by first | rfl | trivial⟩,by simp [intOf]⟩
    ·have HR:=Lib.hid (HLA.out.2.2.2.1 hxy)
     have j2:¬ (x:Int) < (y:Nat):=by omega
     have j3:(y:Int) < (x:Nat):=by omega
     go_wp2_with fail
     go_ret
     exact ⟨ret_int (by rw [HR.out]),by first | rfl | trivial⟩
set_option maxRecDepth 100000 in
set_option maxHeartbeats 800000 in
theorem rnat_sub (A B:Option Addr) (n c m d:Nat) (xs ys:List Nat) (w:World) (h:Sl eU w A n xs) (hl:L32 xs) (k:Sl eU w B m ys) (kl:L32 ys) (hb:(n + m + 4) * 8≤140737488351232) :
 Calls Tryz.prog 121 #[.slice A n c,.slice B m d] w fun e w'=>(val xs < val ys∧e=.returned (.tuple #[.slice none 0 0,.bool false])∧w=w') ∨
  (val ys≤val xs∧∃ R k,e=.returned (.tuple #[.slice R (limbs (val xs - val ys)).length k,.bool true])∧OwnR eU w' w.heap.size 54 R (limbs (val xs - val ys)).length k (limbs (val xs - val ys))∧Below w.heap.size w w'):=by
 have HL:=Lib.hid h.len
 go_enter Tryz.func121,Tryz.ntmps121
 go_wp2_with fail
 refine (rnat_cmp A B n c m d xs ys _ h hl k kl).mono ?_
 rintro e w1 ⟨rfl,rfl⟩
 have HS:=Lib.hid (And.intro h k)
 clear h k
 rcases Nat.lt_or_ge (val xs) (val ys) with hv | hv
 ·rw [cmpN_lt hv]
  go_wp2_with fail
  exact bodyPost_ret (v:=.tuple #[.slice none 0 0,.bool false]) (by simp [results,Tryz.results121,go_sem]) rfl (.inl ⟨hv,rfl,by first | rfl | trivial⟩)
 ·obtain ⟨z,hz,hz2⟩:∃ z,cmpN (val xs) (val ys)=z∧¬ z < 0:=⟨_,rfl,by unfold cmpN;rw [if_neg (by omega)];split <;> omega⟩
  rw [hz]
  have HV:=Lib.hid hv
  clear hv hz
  go_wp2_with fail
  clear hz2
  go_loopw [6,7,8] (fun o cv iv wr=>∃ (i cc:Nat) (D:Option Addr) (q:Nat) (s:List Nat),o=.slice D i q∧cv=.int .u64 (cc:Int)∧iv=.int .i64 (i:Nat)∧i≤n∧RSub xs ys s i cc∧OwnR eU wr w.heap.size 54 D i q s∧Below w.heap.size w wr) (fun _ _ iv _=>n - (intOf iv).toNat)
  case atStart=>exact ⟨0,0,none,0,[],rfl,rfl,rfl,Nat.zero_le _,RSub.start _ _,OwnR.nil _ _ _ _,Below.refl _ _⟩
  case round =>
   obtain ⟨i,cc,D,q,s,rfl,rfl,rfl,hi,hS,hO,hB⟩:=hrel
   obtain ⟨wb,hwb⟩:∃ wb:World,wb=wr:=⟨_,rfl⟩
   subst hwb
   have hcc:=hS.c1
   by_cases hlt:i < n
   ·as_aux_lemma =>
    have hst:=hS.step hl kl
    have hx:=hl.nth i
    have hy:=kl.nth i
    rw [bB_eq] at hx hy
    have hla:=rnat_limb A n c xs i wb (HS.out.1.below (Nat.le_refl _) hB) hl
    have hlb:=rnat_limb B m d ys i wb (HS.out.2.below (Nat.le_refl _) hB) kl
    generalize nth xs i=x at *
    generalize nth ys i=y at *
    have hx':(x:Int) < 4294967296:=by omega
    have hy':(y:Int) < 4294967296:=by omega
    have HT:=Lib.hid (And.intro hst (And.intro hO hB))
    have HLA:=Lib.hid (And.intro hla hlb)
    clear hst hla hlb hS hO hB
    have g1:(i:Int) < (n:Nat):=by omega
    go_wp2_with fail
    refine HLA.out.1.mono ?_
    rintro e w1 ⟨rfl,rfl⟩
    go_wp2_with fail
    refine HLA.out.2.mono ?_
    rintro e w1 ⟨rfl,rfl⟩
    clear HLA
    rcases Nat.lt_or_ge x (y + cc) with hxt | hxt
    ·have j1:(x:Int) < (y:Int) + (cc:Nat):=by omega
     have e1:eU (lessD x (y + cc))=.int .u32 ((x:Int) + 4294967296 - ((y:Int) + (cc:Nat))):=by unfold eU lessD;rw [bB_eq];congr 1;omega
     have e2:lessC x (y + cc)=1:=by unfold lessC;rw [if_pos hxt]
     have j2:IntKind.u64.wrap ((x:Int) + 4294967296 - ((y:Int) + (cc:Nat)))=(x:Int) + 4294967296 - ((y:Int) + (cc:Nat)):=IntWalk.u64_in _ ⟨by omega,by omega⟩
     have j3:((x:Int) + 4294967296 - ((y:Int) + (cc:Nat))) % 4294967296=(x:Int) + 4294967296 - ((y:Int) + (cc:Nat)):=by omega
     have hs1:Sl eU (wb.alloc (.cells #[.int .u32 ((x:Int) + 4294967296 - ((y:Int) + (cc:Nat)))] 54)) (some ⟨wb.heap.size,0,none⟩) 1 [lessD x (y + cc)]:=by
      have:=Sl.one (enc:=eU) wb 54 (lessD x (y + cc))
      rw [e1] at this
      exact this
     have ho1:=HT.out.2.1.alloc (.cells #[.int .u32 ((x:Int) + 4294967296 - ((y:Int) + (cc:Nat)))] 54)
     have hb1:=HT.out.2.2.alloc HT.out.2.2.size (.cells #[.int .u32 ((x:Int) + 4294967296 - ((y:Int) + (cc:Nat)))] 54)
     have hsz:=hb1.size
     have HB:=Lib.hid (And.intro hb1 e2)
     clear hb1 e1 e2
     go_wp2_with (first
      | (at_builtin;refine wpList_app _ eiNat eU eU_one rfl _ _ rfl w.heap.size _ _ _ _ rfl ho1 _ _ _ _ rfl hs1 (by omega) hsz ?_)
      | fail)
     intro D9 q9 w9 ho9 _ hb9 _
     have HR:=Lib.hid (And.intro ho9 (HB.out.1.trans hb9))
     clear ho9 hb9 ho1 hs1
     go_wp2_with fail
     exact ⟨⟨i + 1,1,D9,q9,_,by first | rfl | go_num,by first | rfl | go_num,by go_num,by omega,by have:=HT.out.1;rw [HB.out.2] at this;exact this,HR.out.1,HR.out.2⟩,by simp [intOf];omega⟩
    ·have j1:decide ((x:Int) < (y:Int) + (cc:Nat))=false:=by simp;omega
     have j1':decide (x < y + cc)=false:=by simp;omega
     have e1:eU (lessD x (y + cc))=.int .u32 ((x:Int) - ((y:Int) + (cc:Nat))):=by unfold eU lessD;rw [bB_eq];congr 1;omega
     have e2:lessC x (y + cc)=0:=by unfold lessC;rw [if_neg (by omega)]
     have j2:IntKind.u64.wrap ((x:Int) - ((y:Int) + (cc:Nat)))=(x:Int) - ((y:Int) + (cc:Nat)):=IntWalk.u64_in _ ⟨by omega,by omega⟩
     have j3:((x:Int) - ((y:Int) + (cc:Nat))) % 4294967296=(x:Int) - ((y:Int) + (cc:Nat)):=by omega
     have hs1:Sl eU (wb.alloc (.cells #[.int .u32 ((x:Int) - ((y:Int) + (cc:Nat)))] 54)) (some ⟨wb.heap.size,0,none⟩) 1 [lessD x (y + cc)]:=by
      have:=Sl.one (enc:=eU) wb 54 (lessD x (y + cc))
      rw [e1] at this
      exact this
     have ho1:=HT.out.2.1.alloc (.cells #[.int .u32 ((x:Int) - ((y:Int) + (cc:Nat)))] 54)
     have hb1:=HT.out.2.2.alloc HT.out.2.2.size (.cells #[.int .u32 ((x:Int) - ((y:Int) + (cc:Nat)))] 54)
     have hsz:=hb1.size
     have HB:=Lib.hid (And.intro hb1 e2)
     clear hb1 e1 e2
     go_wp2_with (first
      | (at_builtin;refine wpList_app _ eiNat eU eU_one rfl _ _ rfl w.heap.size _ _ _ _ rfl ho1 _ _ _ _ rfl hs1 (by omega) hsz ?_)
      | fail)
     intro D9 q9 w9 ho9 _ hb9 _
     have HR:=Lib.hid (And.intro ho9 (HB.out.1.trans hb9))
     clear ho9 hb9 ho1 hs1
     go_wp2_with fail
     exact ⟨⟨i + 1,0,D9,q9,_,by first | rfl | go_num,by first | rfl | go_num,by go_num,by omega,by have:=HT.out.1;rw [HB.out.2] at this;exact this,HR.out.1,HR.out.2⟩,by simp [intOf];omega⟩
   ·as_aux_lemma =>
    obtain rfl:i=n:=by omega
    have hS':=hS
    rw [← HL.out] at hS'
    have hv:=hS'.done HV.out hl
    have hls:=hS.l32
    have hcap:=hO.cap
    have hs:=hO.sl (by omega)
    have hsz:=hB.size
    have HD:=Lib.hid (And.intro hv hB)
    clear hS hS' hO hB hlt hv
    go_wp2_with fail
    refine (rnat_norm D i q s _ hs hcap hls (by omega)).mono ?_
    rintro e wf ⟨R,dr,rfl,ho,hbf⟩
    rw [HD.out.1] at ho ⊢
    have HF:=Lib.hid (And.intro (ho.mono hsz) (HD.out.2.trans (hbf.mono hsz)))
    clear ho hbf
    go_wp2_with fail
    exact bodyPost_ret (v:=.tuple #[.slice R (limbs (val xs - val ys)).length dr,.bool true]) (by simp [results,Tryz.results121,go_sem]) rfl (.inr ⟨HV.out,R,dr,rfl,HF.out.1,HF.out.2⟩)
end Go.Proofs.YtmncjibcoffmfaaGreat
/- The document's naturals: Of, Mul, walked. Conditions: the slices read as limbs, within their capacities and Go's bound together. -/
namespace Go.Proofs.YtmncjibcoffmfaaGreat
open Go.RowKit

set_option maxRecDepth 100000 in
set_option maxHeartbeats 400000 in
theorem rnat_of (u:Nat) (w:World) (h:u < bB * bB):Calls Tryz.prog 102 #[.int .u64 (u:Int)] w (NatPost u w):=by
 have e1:u / bB < bB:=Nat.div_lt_of_lt_mul h
 have hs:Sl eU (w.alloc (.cells #[.int .u32 ((u:Int) % 4294967296),.int .u32 ((u:Int) / 4294967296)] 54)) (some ⟨w.heap.size,0,none⟩) 2 [u % bB,u / bB]:=by
  have:=Sl.litM eU w 54 [u % bB,u / bB] (by simp)
  have e2:((u / bB:Nat):Int)=(u:Int) / 4294967296:=by rw [bB_eq] at *;omega
  have e3:((u % bB:Nat):Int)=(u:Int) % 4294967296:=by rw [bB_eq];omega
  unfold eU at this
  simp only [List.map_cons,List.map_nil,e2,e3] at this
  exact this
 have hb1:Below w.heap.size w (w.alloc (.cells #[.int .u32 ((u:Int) % 4294967296),.int .u32 ((u:Int) / 4294967296)] 54)):=(Below.refl _ _).alloc (Nat.le_refl _) _
 have HB:=Lib.hid hb1
 have hu:(u:Int) < 18446744073709551616:=by rw [bB_eq] at h;omega
 clear hb1 e1
 go_enter Tryz.func102,Tryz.ntmps102
 go_wp2_with fail
 refine (rnat_norm _ 2 2 [u % bB,u / bB] _ hs (Nat.le_refl _) (l32_two h) (by omega)).mono ?_
 rintro e w2 ⟨R,d,rfl,ho,hb2⟩
 rw [val_two h] at ho ⊢
 have HF:=Lib.hid (And.intro (ho.mono HB.out.size) (HB.out.trans (hb2.mono HB.out.size)))
 clear ho hb2
 go_wp2_with fail
 go_ret
 exact ⟨R,d,rfl,HF.out.1,HF.out.2⟩
set_option maxRecDepth 100000 in
set_option maxHeartbeats 1600000 in
theorem rnat_mul (A B:Option Addr) (n c m d:Nat) (xs ys:List Nat) (w:World) (h:Sl eU w A n xs) (hc:n≤c) (hl:L32 xs) (k:Sl eU w B m ys) (kc:m≤d) (kl:L32 ys) (hb:(n + m + 1) * 4≤140737488351232) :
 Calls Tryz.prog 64 #[.slice A n c,.slice B m d] w (NatPost (val xs * val ys) w):=by
 have hle:(limbs (val xs)).length≤n:=by rw [limbs_val hl];have:=trimL_length xs;rw [h.len] at this;exact this
 have kle:(limbs (val ys)).length≤m:=by rw [limbs_val kl];have:=trimL_length ys;rw [k.len] at this;exact this
 obtain ⟨S,hS⟩:∃ S,S=val xs * val ys:=⟨_,rfl⟩
 rw [← hS]
 go_enter Tryz.func64,Tryz.ntmps64
 go_wp2_with fail
 refine (rnat_norm A n c xs _ h hc hl (by omega)).mono ?_
 rintro e w1 ⟨R1,c1,rfl,o1,hb1⟩
 have k1:=k.below (Nat.le_refl _) hb1
 have HO1:=Lib.hid (And.intro o1 hb1)
 clear o1 hb1 h k
 go_wp2_with fail
 refine (rnat_norm B m d ys _ k1 kc kl (by omega)).mono ?_
 rintro e wa ⟨R2,c2,rfl,o2,hb2⟩
 have ht:=(HO1.out.1.below (Nat.le_refl _) hb2).sl (by omega)
 have kt:=o2.sl (by omega)
 have hbw:Below w.heap.size w wa:=HO1.out.2.trans (hb2.mono HO1.out.2.size)
 clear HO1 o2 hb2 k1 hl kl
 generalize val xs=a at *
 generalize val ys=b at *
 generalize hp:(limbs a).length=p at *
 generalize hq:(limbs b).length=q at *
 have HW:=Lib.hid hbw
 have HP:=Lib.hid (And.intro hp (And.intro hq (And.intro hS (And.intro ht kt))))
 clear hp hq hS ht kt hbw
 go_wp2_with (first
  | (refine wpList_mk _ eiNat eU 0 rfl rfl _ _ rfl (p + q) rfl rfl (by omega) ?_)
  | fail)
 intro w2 hr hb2
 have HB:=Lib.hid (And.intro hr hb2)
 clear hr hb2
 go_wp2_with fail
 go_loopw [8] (fun iv wr=>∃ (i:Nat) (s:List Nat),iv=.int .i64 (i:Nat)∧i≤p∧vTo s (i + q)=vTo (limbs a) i * val (limbs b)∧s.length=p + q∧L32 s∧RowAt eU wr wa.heap.size 54 s []∧Below wa.heap.size wa wr) (fun iv _=>p - (intOf iv).toNat)
 case atStart=>exact ⟨0,_,rfl,Nat.zero_le _,by rw [vTo_zero,Nat.zero_mul,vTo_take];simp [val_zeros],by simp,L32.replicate _,HB.out.1,HB.out.2⟩
 case round =>
  obtain ⟨i,s,rfl,hi,hv,hsl,hs,hR,hbl⟩:=hrel
  obtain ⟨wb,hwb⟩:∃ wb:World,wb=wr:=⟨_,rfl⟩
  subst hwb
  have hGb:=hR.lt
  by_cases hlt:i < p
  ·obtain ⟨ba,oa,rfl⟩:=sl_someU HP.out.2.2.2.1 (by omega)
   have hx:=(limbs_L32 a).nth i
   generalize hxx:nth (limbs a) i=x at hx
   have HX:=Lib.hid (And.intro hxx (And.intro hv (And.intro hsl (And.intro hs (And.intro hR hbl)))))
   clear hxx hv hsl hs hR hbl
   have hlt':(i:Int) < (p:Nat):=by omega
   go_wp2_with fail
   go_loopw [9,10] (fun cv kv wr=>∃ (k cc:Nat) (u:List Nat),cv=.int .u64 (cc:Int)∧kv=.int .i64 (k:Nat)∧k≤q∧MulAt s (limbs b) u x i k cc∧RowAt eU wr wa.heap.size 54 u []∧Below wa.heap.size wa wr) (fun _ kv _=>q - (intOf kv).toNat)
   case atStart=>exact ⟨0,0,_,rfl,rfl,Nat.zero_le _,MulAt.start x i HX.out.2.2.2.1,HX.out.2.2.2.2.1,HX.out.2.2.2.2.2⟩
   case round=>as_aux_lemma =>
    obtain ⟨k,cc,u,rfl,rfl,hk,hM,hR,hbl⟩:=hrel
    obtain ⟨wc,hwc⟩:∃ wc:World,wc=wr:=⟨_,rfl⟩
    subst hwc
    have hGc:=hR.lt
    have hul:=hM.len
    rw [HX.out.2.2.1] at hul
    by_cases hlk:k < q
    ·obtain ⟨bb,ob,rfl⟩:=sl_someU HP.out.2.2.2.2 (by omega)
     have g1:=sl_atU (HP.out.2.2.2.1.below (Nat.le_refl _) hbl) hlt
     rw [HX.out.1] at g1
     have g2:=sl_atU (HP.out.2.2.2.2.below (Nat.le_refl _) hbl) hlk
     have hy:=(limbs_L32 b).nth k
     have g3:=hR.cell (j:=i + k) (by omega)
     have g4:=hR.frozen (i + k)
     rw [hM.rest (i + k) (Nat.le_refl _)] at g3
     unfold eU at g3
     have hz:=HX.out.2.2.2.1.nth (i + k)
     have hst:=hM.step HX.out.2.2.2.1 (limbs_L32 b) hx (by rw [HX.out.2.2.1];omega)
     have hcb:=hM.cB
     have hset:∀ wq:World,RowAt eU wq wa.heap.size 54 u []→Below wa.heap.size wa wq→RowAt eU (wq.setCell ⟨wa.heap.size,i + k,none⟩ (eU ((cc + x * nth (limbs b) k + nth s (i + k)) % bB))) wa.heap.size 54 (u.set (i + k) ((cc + x * nth (limbs b) k + nth s (i + k)) % bB)) []∧Below wa.heap.size wa (wq.setCell ⟨wa.heap.size,i + k,none⟩ (eU ((cc + x * nth (limbs b) k + nth s (i + k)) % bB))):=fun wq h1 h2 =>
      ⟨h1.set (j:=i + k) (by omega) ((cc + x * nth (limbs b) k + nth s (i + k)) % bB),h2.setCell (p:=⟨wa.heap.size,i + k,none⟩) (Nat.le_refl _) (eU ((cc + x * nth (limbs b) k + nth s (i + k)) % bB))⟩
     generalize nth (limbs b) k=y at *
     generalize nth s (i + k)=z at *
     have hf:=mul_fits hcb hx hy hz
     have hxy:x * y≤4294967295 * 4294967295:=Nat.mul_le_mul (by rw [bB_eq] at hx;omega) (by rw [bB_eq] at hy;omega)
     have q0:((x:Int) * (y:Int))=((x * y:Nat):Int):=by simp
     have q1:((cc:Int) + ((x * y:Nat):Int) + (z:Int)) / 4294967296=(((cc + x * y + z) / bB:Nat):Int):=by rw [bB_eq];omega
     have q2:((cc:Int) + ((x * y:Nat):Int) + (z:Int)) % 4294967296=(((cc + x * y + z) % bB:Nat):Int):=by rw [bB_eq];omega
     have q3:((cc:Int) + ((x * y:Nat):Int)) < 18446744073709551616:=by rw [bB_eq] at hf;omega
     have q4:(cc:Int) + ((x * y:Nat):Int) + (z:Int) < 18446744073709551616:=by rw [bB_eq] at hf;omega
     have q5:((x * y:Nat):Int) < 18446744073709551616:=by omega
     have q6:(0:Int)≤((x * y:Nat):Int):=by omega
     have q7:(z:Int) < 4294967296:=by rw [bB_eq] at hz;omega
     have q8:(y:Int) < 4294967296:=by rw [bB_eq] at hy;omega
     have q9:(x:Int) < 4294967296:=by rw [bB_eq] at hx;omega
     have HS:=Lib.hid (And.intro hst (And.intro hset (And.intro hR hbl)))
     clear hst hset hM hR hbl hf hxy hy hz hcb
     generalize x * y=xy at *
     generalize (cc + xy + z) / bB=hi' at *
     generalize (cc + xy + z) % bB=lo at *
     have hlk':(k:Int) < (q:Nat):=by omega
     have hik:(i:Int) + (k:Int) < (p:Nat) + (q:Nat):=by omega
     go_wp2_with fail
     go_quiet (fail)
     obtain ⟨wq,hwq⟩:∃ wq:World,wq=wc.drewN nq:=⟨_,rfl⟩
     rw [← hwq]
     have g3:wq.cell? ⟨wa.heap.size,i + k,none⟩=some (.int .u32 (z:Int)):=by rw [hwq];exact g3
     have g4:wq.frozen? ⟨wa.heap.size,i + k,none⟩=false:=by rw [hwq];exact g4
     have hnew:=HS.out.2.1 wq (by rw [hwq];exact HS.out.2.2.1) (by rw [hwq];exact below_drewN HS.out.2.2.2 nq)
     have HN:=Lib.hid hnew
     clear hnew hwq
     go_wp2_with fail
     try simp only [q1,q2]
     exact ⟨⟨k + 1,hi',_,rfl,by go_num,by omega,HS.out.1,HN.out.1,HN.out.2⟩,by simp [intOf];omega⟩
    ·obtain rfl:k=q:=by omega
     have hM':=hM
     rw [← HP.out.2.1,← HX.out.1] at hM'
     have hdn:=hM'.done (a:=limbs a) (by rw [HP.out.2.1];exact HX.out.2.1) (by rw [HP.out.2.1,HX.out.2.2.1];omega)
     rw [HP.out.2.1] at hdn
     have hcb:=hM.cB
     have hrow:=hR.set (j:=i + k) (by omega) cc
     have hbel:=hbl.setCell (p:=⟨wa.heap.size,i + k,none⟩) (Nat.le_refl _) (eU cc)
     unfold eU at hbel
     have hL:=hM.l32.set hcb (i + k)
     have g3:=hR.cell (j:=i + k) (by omega)
     have g4:=hR.frozen (i + k)
     have hcb':(cc:Int) < 4294967296:=by rw [bB_eq] at hcb;omega
     have hlk':¬ (k:Int) < (k:Nat):=by omega
     have hik:(i:Int) + (k:Int) < (p:Nat) + (k:Nat):=by omega
     have HS:=Lib.hid (And.intro hdn (And.intro (show (u.set (i + k) cc).length=p + k by rw [List.length_set];exact hul) (And.intro hL (And.intro hrow hbel))))
     clear hM hM' hR hbl hdn hrow hbel hL hcb
     go_wp2_with fail
     exact ⟨⟨i + 1,_,by go_num,by omega,HS.out.1,HS.out.2.1,HS.out.2.2.1,HS.out.2.2.2.1,HS.out.2.2.2.2⟩,by simp [intOf];omega⟩
  ·obtain rfl:i=p:=by omega
   have hvs:val s=S:=by
    have h1:vTo s (i + q)=val s:=vTo_all (by omega)
    have h2:vTo (limbs a) i=a:=by rw [vTo_all (by rw [HP.out.1];exact Nat.le_refl _),val_limbs]
    rw [h1,h2,val_limbs] at hv
    rw [hv,HP.out.2.2.1]
   have hsl2:=hR.slAll (n:=i + q) hsl (by omega)
   have hsz:=hbl.size
   have HF:=Lib.hid (And.intro hvs (And.intro hs hbl))
   have hlt':¬ (i:Int) < (i:Nat):=by omega
   clear hv hvs hR hbl hs
   go_wp2_with fail
   refine (rnat_norm _ (i + q) (i + q) s _ hsl2 (Nat.le_refl _) HF.out.2.1 (by omega)).mono ?_
   rintro e wf ⟨R,dr,rfl,ho,hbf⟩
   rw [HF.out.1] at ho ⊢
   have hG:=HF.out.2.2.trans (hbf.mono hsz)
   have HG:=Lib.hid (And.intro (ho.mono (Nat.le_trans HW.out.size hsz)) (HW.out.trans (hG.mono HW.out.size)))
   clear ho hbf hG
   go_wp2_with fail
   go_ret
   exact ⟨R,dr,rfl,HG.out.1,HG.out.2⟩
end Go.Proofs.YtmncjibcoffmfaaGreat
