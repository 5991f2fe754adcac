/- nat.trim, own, Norm, Of and slices.Clone at limbs, walked. Conditions: the slice reads as limbs, within its capacity. -/
import Derived.Test.YtgbmnlmnhbkdbaaGreatJ1
import Derived.Test.YtgbmnlmnhbkdbaaGreatJ21
import Derived.IntWalk
set_option linter.unusedVariables false
set_option linter.unusedSimpArgs false
namespace Go.Proofs.YtgbmnlmnhbkdbaaGreat
open Go.RowKit

def eU (x:Nat):Value:=.int .u32 (x:Int)
theorem eU_one (x:Nat):(eU x).oneCell'=true:=rfl
def lenS:Value→Nat
 | .slice _ m _=>m
 | _=>0
theorem Sl.cutN {w:World} {A:Option Addr} {n:Nat} {xs:List Nat} (h:Sl eU w A n xs) {k:Nat} (hk:k≤n):Sl eU w A k (xs.take k):=
 ⟨by rw [List.length_take,h.len];omega,by have:=h.big;omega,fun h0=>by
   obtain ⟨b,o,e,hb,hc⟩:=h.at' (by omega)
   exact ⟨b,o,e,hb,fun j hj=>by rw [nth_take hj];exact hc j (by omega)⟩⟩
theorem Sl.trim {w:World} {A:Option Addr} {n:Nat} {xs:List Nat} (h:Sl eU w A n xs):Sl eU w A (trimL xs).length (trimL xs):=by
 have:=h.cutN (k:=(trimL xs).length) (by have:=trimL_length xs;rw [h.len] at this;exact this)
 rwa [← trimL_take] at this
theorem Sl.trimV {w:World} {A:Option Addr} {n:Nat} {xs:List Nat} (h:Sl eU w A n xs) (hl:L32 xs):Sl eU w A (limbs (val xs)).length (limbs (val xs)):=by rw [limbs_val hl];exact h.trim

set_option maxRecDepth 100000 in
set_option maxHeartbeats 400000 in
theorem nat_trim (A:Option Addr) (n c:Nat) (xs:List Nat) (w:World) (h:Sl eU w A n xs) (hc:n≤c) (hl:L32 xs) :
 Calls Tryz.prog 47 #[.slice A n c] w fun e w'=>e=.returned (.slice A (limbs (val xs)).length c)∧w=w':=by
 have hbig:=h.big
 have HL:=Lib.hid (And.intro h.len (limbs_val hl))
 obtain ⟨wa,hwa⟩:∃ wa:World,wa=w:=⟨_,rfl⟩
 subst hwa
 go_enter Tryz.func47,Tryz.ntmps47
 go_wp2_with fail
 go_loopw [0] (fun v wr=>∃ m:Nat,v=.slice A m c∧m≤n∧trimL (xs.take m)=trimL xs∧wr=wa) (fun v _=>lenS v)
 case atStart=>exact ⟨n,rfl,Nat.le_refl _,by rw [List.take_of_length_le (by rw [HL.out.1];exact Nat.le_refl _)],rfl⟩
 case round =>
  obtain ⟨m,rfl,hm,ht,hwr⟩:=hrel
  have hwr:=hwr.symm
  subst hwr
  rcases Nat.eq_zero_or_pos m with rfl | hp
  ·have h0:(limbs (val xs)).length=0:=by rw [HL.out.2,← ht];rfl
   have H0:=Lib.hid h0
   clear h0 ht
   go_wp2_with fail
   go_ret
   exact ⟨by rw [H0.out];rfl,by first | rfl | trivial⟩
  ·obtain ⟨b,o,rfl,_,hcc⟩:=h.at' (by omega)
   have g1:=hcc (m - 1) (by omega)
   have i1:(0:Int) < (m:Nat):=by omega
   have i2:(0:Int)≤(m:Int) - 1:=by omega
   have i3:((m:Int) - 1).toNat=m - 1:=by omega
   have i4:(m:Int) - 1≤(c:Nat):=by omega
   have i5:(m:Int) - 1 < (m:Nat):=by omega
   have i6:m - 1≤c:=by omega
   have hx:=hl.nth (m - 1)
   have hts:xs.take m=xs.take (m - 1) ++ [nth xs (m - 1)]:=by
    have:=take_snoc (xs:=xs) (k:=m - 1) (by rw [HL.out.1];omega)
    rwa [show m - 1 + 1=m by omega] at this
   generalize nth xs (m - 1)=x at *
   unfold eU at g1
   rcases Nat.eq_zero_or_pos x with rfl | hxp
   ·have ht2:trimL (xs.take (m - 1))=trimL xs:=by rw [← ht,hts,trimL_zero]
    have HT:=Lib.hid ht2
    clear ht ht2 hts hcc
    go_wp2_with fail
    exact ⟨⟨m - 1,by first | rfl | (congr 1),by omega,HT.out,by first | rfl | trivial⟩,by simp [lenS];omega⟩
   ·have hlen:(limbs (val xs)).length=m:=by
     rw [HL.out.2,← ht,hts,trimL_last (by omega),← hts,List.length_take,HL.out.1];omega
    have HT:=Lib.hid hlen
    have j1:((x:Int) == 0)=false:=by simp;omega
    have j2:¬ (x:Int)=0:=by omega
    clear ht hts hcc hlen
    go_wp2_with fail
    go_ret
    exact ⟨by rw [HT.out];rfl,by first | rfl | trivial⟩
theorem eiNat:EI Tryz.prog 34 83 (.int .u32 0) 4:=.mk' Tryz.underlying34 (by kernel_rfl) rfl (by omega)

def NatPost (v:Nat) (w:World) (e:Ending) (w':World):Prop:=
 ∃ R c,e=.returned (.slice R (limbs v).length c)∧OwnR eU w' w.heap.size 83 R (limbs v).length c (limbs v)∧Below w.heap.size w w'
set_option maxRecDepth 100000 in
set_option maxHeartbeats 400000 in
theorem clone_u (A:Option Addr) (n c:Nat) (xs:List Nat) (w:World) (hx:Sl eU w A n xs) (hb:n * 4≤140737488355328) :
 Calls Tryz.prog 67 #[.slice A n c] w fun e w'=>∃ R d,e=.returned (.slice R n d)∧OwnR eU w' w.heap.size 83 R n d xs∧Below w.heap.size w w':=by
 have hbig:=hx.big
 have q:∀ (w:World) (a:Option Addr) (n c n' c':Nat),(binOp .eql 34 (.slice a n c) (.slice none n' c')).run Tryz.prog w=.ok (.bool a.isNone) w:=fun w a n c n' c'=>Go.Lib.run_eql_slice_nil w _ _ a n c n' c' Tryz.underlying34
 rcases A with _ | ad
 ·have hn:n=0:=by
   rcases Nat.eq_zero_or_pos n with h0 | h0
   ·exact h0
   ·obtain ⟨b,off,e,_⟩:=hx.at' h0
    cases e
  subst hn
  obtain rfl:xs=[]:=List.eq_nil_of_length_eq_zero hx.len
  clear hb hbig
  go_enter Tryz.func67,Tryz.ntmps67
  go_wp2_with fail
  go_ret
  exact ⟨none,0,rfl,OwnR.nil _ _ _ _,Below.refl _ _⟩
 ·go_enter Tryz.func67,Tryz.ntmps67
  have how:OwnR eU (w.alloc (.cells #[] 83)) w.heap.size 83 (some ⟨w.heap.size,0,none⟩) 0 0 []:=
   OwnR.of_row (rest:=[]) (heap_alloc_new w _) (Nat.le_refl _) (by simp [maxLen])
  go_wp2_with (first
   | (at_builtin;refine wpList_app _ eiNat eU eU_one rfl _ _ rfl w.heap.size _ _ _ _ rfl how _ _ _ _ rfl (hx.alloc _) (by omega) (by simp) ?_)
   | fail)
  intro A' c' w' how' hg hb' _
  have how':OwnR eU w' w.heap.size 83 A' n c' xs:=by simpa using how'
  try simp only [Nat.zero_add]
  have HF:=Lib.hid (And.intro how' hb')
  clear how' hg hb' how
  go_wp2_with fail
  go_ret
  exact ⟨A',c',rfl,HF.out.1,((Below.refl _ _).alloc (Nat.le_refl _) _).trans HF.out.2⟩
set_option maxRecDepth 100000 in
set_option maxHeartbeats 400000 in
theorem nat_own (A:Option Addr) (n c:Nat) (xs:List Nat) (w:World) (h:Sl eU w A n xs) (hc:n≤c) (hl:L32 xs) (hb:n * 4≤140737488355328) :
 Calls Tryz.prog 48 #[.slice A n c] w (NatPost (val xs) w):=by
 have ht:=h.trimV hl
 have hle:(limbs (val xs)).length≤n:=by rw [limbs_val hl];have:=trimL_length xs;rw [h.len] at this;exact this
 go_enter Tryz.func48,Tryz.ntmps48
 go_wp2_with fail
 refine (nat_trim A n c xs _ h hc hl).mono ?_
 rintro e w1 ⟨rfl,rfl⟩
 generalize hv:limbs (val xs)=L at *
 have HV:=Lib.hid hv
 clear hv h
 rcases L with _ | ⟨x,L⟩
 ·go_wp2_with fail
  go_ret
  exact ⟨none,0,by rw [HV.out];rfl,by rw [HV.out];exact OwnR.nil _ _ _ _,Below.refl _ _⟩
 ·generalize hL:(x :: L).length=m at *
  have hm:0 < m:=by rw [← hL];simp
  have i1:¬ (m:Int)=0:=by omega
  have i2:((m:Int) == 0)=false:=by simpa using i1
  have HL:=Lib.hid hL
  clear hL
  go_wp2_with fail
  refine (clone_u A m c (x :: L) _ ht (by omega)).mono ?_
  rintro e w2 ⟨R,d,rfl,ho,hb2⟩
  have HF:=Lib.hid (And.intro ho hb2)
  clear ho hb2
  go_wp2_with fail
  go_ret
  exact ⟨R,d,by rw [HV.out,HL.out];rfl,by rw [HV.out,HL.out];exact HF.out.1,HF.out.2⟩
set_option maxHeartbeats 400000 in
theorem nat_norm (A:Option Addr) (n c:Nat) (xs:List Nat) (w:World) (h:Sl eU w A n xs) (hc:n≤c) (hl:L32 xs) (hb:n * 4≤140737488355328) :
 Calls Tryz.prog 43 #[.slice A n c] w (NatPost (val xs) w):=by
 go_enter Tryz.func43,Tryz.ntmps43
 go_wp2_with fail
 refine (nat_own A n c xs _ h hc hl hb).mono ?_
 rintro e w2 ⟨R,d,rfl,ho,hb2⟩
 have HF:=Lib.hid (And.intro ho hb2)
 clear ho hb2
 go_wp2_with fail
 go_ret
 exact ⟨R,d,rfl,HF.out.1,HF.out.2⟩
theorem val_two {u:Nat} (_:u < bB * bB):val [u % bB,u / bB]=u:=by
 rw [val_cons,val_cons,val_nil,Nat.mul_zero,Nat.add_zero,Nat.mod_add_div]
theorem l32_two {u:Nat} (h:u < bB * bB):L32 [u % bB,u / bB]:=L32.cons (Nat.mod_lt _ bB_pos) (L32.cons (Nat.div_lt_of_lt_mul h) L32.nil)
set_option maxRecDepth 100000 in
set_option maxHeartbeats 400000 in
theorem nat_of (u:Nat) (w:World) (h:u < bB * bB):Calls Tryz.prog 40 #[.int .u64 (u:Int)] w (NatPost u w):=by
 have e1:u / bB < bB:=Nat.div_lt_of_lt_mul h
 have hs:Sl eU (w.alloc (.cells #[.int .u32 ((u:Int) % 4294967296),.int .u32 ((u:Int) / 4294967296)] 83)) (some ⟨w.heap.size,0,none⟩) 2 [u % bB,u / bB]:=by
  have:=Sl.litM eU w 83 [u % bB,u / bB] (by simp)
  have e2:((u / bB:Nat):Int)=(u:Int) / 4294967296:=by rw [bB_eq] at *;omega
  have e3:((u % bB:Nat):Int)=(u:Int) % 4294967296:=by rw [bB_eq];omega
  unfold eU at this
  simp only [List.map_cons,List.map_nil,e2,e3] at this
  exact this
 have hb1:Below w.heap.size w (w.alloc (.cells #[.int .u32 ((u:Int) % 4294967296),.int .u32 ((u:Int) / 4294967296)] 83)):=(Below.refl _ _).alloc (Nat.le_refl _) _
 have HB:=Lib.hid hb1
 have hu:(u:Int) < 18446744073709551616:=by rw [bB_eq] at h;omega
 clear hb1 e1
 go_enter Tryz.func40,Tryz.ntmps40
 go_wp2_with fail
 refine (nat_own _ 2 2 [u % bB,u / bB] _ hs (Nat.le_refl _) (l32_two h) (by omega)).mono ?_
 rintro e w2 ⟨R,d,rfl,ho,hb2⟩
 rw [val_two h] at ho ⊢
 have HF:=Lib.hid (And.intro (ho.mono HB.out.size) (HB.out.trans (hb2.mono HB.out.size)))
 clear ho hb2
 go_wp2_with fail
 go_ret
 exact ⟨R,d,rfl,HF.out.1,HF.out.2⟩
end Go.Proofs.YtgbmnlmnhbkdbaaGreat
