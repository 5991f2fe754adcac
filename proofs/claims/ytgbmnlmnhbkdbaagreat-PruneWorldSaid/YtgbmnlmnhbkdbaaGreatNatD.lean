/- nat.left and digit, walked. Conditions: the slices read as limbs, within Go's bound together. -/
import Derived.Test.YtgbmnlmnhbkdbaaGreatJ23
import Derived.Test.YtgbmnlmnhbkdbaaGreatJ22
import Derived.StillTailTactics
set_option linter.unusedVariables false
set_option linter.unusedSimpArgs false
namespace Go.Proofs.YtgbmnlmnhbkdbaaGreat
open Go.RowKit

theorem or_u32 (a b:Nat) (ha:a < 4294967296) (hb:b < 4294967296):bits .or .u32 (a:Int) (b:Int)=((a ||| b:Nat):Int):=by
 have hx:a ||| b < 2 ^ 32:=Nat.or_lt_two_pow (by omega) (by omega)
 have h1:(BitVec.ofInt 32 (a:Int)).toNat=a:=by
  rw [BitVec.ofInt_natCast,BitVec.toNat_ofNat];exact Nat.mod_eq_of_lt (by omega)
 have h2:(BitVec.ofInt 32 (b:Int)).toNat=b:=by
  rw [BitVec.ofInt_natCast,BitVec.toNat_ofNat];exact Nat.mod_eq_of_lt (by omega)
 show IntKind.u32.wrap ((BitVec.ofInt 32 (a:Int) ||| BitVec.ofInt 32 (b:Int)).toNat:Int)=_
 rw [BitVec.toNat_or,h1,h2]
 unfold IntKind.wrap
 simp [IntKind.signed,IntKind.bits]
 omega
theorem or_low {y m z:Nat} (hy:y < 2 ^ z):y ||| 2 ^ z * m=y + 2 ^ z * m:=by
 have:=Nat.shiftLeft_add_eq_or_of_lt (a:=m) (b:=y) (i:=z) hy
 rw [Nat.shiftLeft_eq,Nat.mul_comm m] at this
 rw [Nat.or_comm,← this,Nat.add_comm]
theorem low_shift {x z:Nat} (hz:z < 32):x * 2 ^ z % bB=2 ^ z * (x % 2 ^ (32 - z)):=by
 have hdB:bB=2 ^ z * 2 ^ (32 - z):=by rw [← Nat.pow_add,show z + (32 - z)=32 by omega];rfl
 rw [hdB,Nat.mul_comm x,Nat.mul_mod_mul_left]
theorem wrap_u32_nat (m:Nat):IntKind.u32.wrap (m:Int)=((m % bB:Nat):Int):=by
 unfold IntKind.wrap;rw [bB_eq];simp [IntKind.signed,IntKind.bits]
theorem wrap_u64_nat {m:Nat} (h:m < 18446744073709551616):IntKind.u64.wrap (m:Int)=(m:Int):=by
 rw [IntKind.wrap_u64];omega
def LeftPost (n v:Nat) (w:World) (e:Ending) (w':World):Prop:=
 ∃ g s,e=.returned (.slice (some ⟨g,0,none⟩) (n + 1) (n + 1))∧w.heap.size≤g∧RowAt eU w' g 83 s []∧s.length=n + 1∧L32 s∧val s=v∧Below w.heap.size w w'
set_option maxRecDepth 100000 in
set_option maxHeartbeats 800000 in
theorem nat_left (A:Option Addr) (n c z:Nat) (xs:List Nat) (w:World) (h:Sl eU w A n xs) (hl:L32 xs) (hz:z < 32) (hb:(n + 1) * 4≤140737488351232) :
 Calls Tryz.prog 70 #[.slice A n c,.int .i64 (z:Int)] w (LeftPost n (2 ^ z * val xs) w):=by
 have HK:=Lib.hid (And.intro h.len h)
 obtain ⟨wa,hwa⟩:∃ wa:World,wa=w:=⟨_,rfl⟩
 subst hwa
 clear h
 have hz':(z:Int) < 32:=by omega
 have hz0:(0:Int)≤(z:Nat):=by omega
 go_enter Tryz.func70,Tryz.ntmps70
 go_wp2_with (first
  | (refine wpList_mk _ eiNat eU 0 rfl rfl _ _ rfl (n + 1) rfl rfl (by omega) ?_)
  | fail)
 intro w2 hr hb2
 have HB:=Lib.hid (And.intro hr hb2)
 clear hr hb2
 go_wp2_with fail
 have hst0:=LeftAt.start xs z
 rw [HK.out.1] at hst0
 have HST:=Lib.hid hst0
 clear hst0
 go_loopw [14] (fun iv wr=>∃ (i:Nat) (s:List Nat),iv=.int .i64 (i:Nat)∧i≤n∧LeftAt xs s z i∧RowAt eU wr wa.heap.size 83 s []∧Below wa.heap.size wa wr) (fun iv _=>n - (intOf iv).toNat)
 case atStart=>exact ⟨0,_,rfl,Nat.zero_le _,HST.out,HB.out.1,HB.out.2⟩
 case round =>
  obtain ⟨i,s,rfl,hi,hS,hR,hbl⟩:=hrel
  obtain ⟨wb,hwb⟩:∃ wb:World,wb=wr:=⟨_,rfl⟩
  subst hwb
  have hGb:=hR.lt
  have hsl:=hS.len
  rw [HK.out.1] at hsl
  by_cases hlt:i < n
  ·obtain ⟨ba,oa,hAe⟩:=sl_someU HK.out.2 (by omega)
   have hslx:=HK.out.2.below (Nat.le_refl _) hbl
   subst hAe
   have g1:=sl_atU hslx hlt
   have hx:=hl.nth i
   have ⟨hst,hroom⟩:=hS.step hl hz (by rw [HK.out.1];exact hlt)
   have htop:=hS.top
   have hr1:=(hR.set (j:=i) (by omega) (nth s i + nth xs i * 2 ^ z % bB))
   have hr2:=hr1.set (j:=i + 1) (by simp;omega) (nth xs i * 2 ^ z / bB)
   have hb1:=hbl.setCell (p:=⟨wa.heap.size,i,none⟩) (Nat.le_refl _) (eU (nth s i + nth xs i * 2 ^ z % bB))
   have hb3:=hb1.setCell (p:=⟨wa.heap.size,i + 1,none⟩) (Nat.le_refl _) (eU (nth xs i * 2 ^ z / bB))
   have g2:=hR.cell (j:=i) (by omega)
   have g3:=hR.frozen i
   have g5:=hR.cell (j:=i + 1) (by omega)
   have g6:=hR.frozen (i + 1)
   unfold eU at g2 g5
   generalize nth xs i=x at *
   generalize nth s i=y at *
   have hlt':(i:Int) < (n:Nat):=by omega
   have hlt2:(i:Int) < (n:Int) + 1:=by omega
   have hlt3:(i:Int) + 1 < (n:Int) + 1:=by omega
   have hi0:(0:Int)≤(i:Nat):=by omega
   have hX:x * 2 ^ z < 18446744073709551616:=by
    have h1:x * 2 ^ z≤4294967295 * 2 ^ 31:=Nat.mul_le_mul (by rw [bB_eq] at hx;omega) (Nat.pow_le_pow_right (by omega) (by omega))
    omega
   have hlo:x * 2 ^ z % bB < 4294967296:=Nat.mod_lt _ bB_pos
   have hyb:y < 4294967296:=Nat.lt_of_le_of_lt (Nat.le_add_right _ _) hroom
   have hcast:(x:Int) * 2 ^ z=((x * 2 ^ z:Nat):Int):=by push_cast;rfl
   have w1:IntKind.u32.wrap ((x:Int) * 2 ^ z)=((x * 2 ^ z % bB:Nat):Int):=by rw [hcast];exact wrap_u32_nat _
   have w2:bits .or .u32 (y:Int) ((x * 2 ^ z % bB:Nat):Int)=((y + x * 2 ^ z % bB:Nat):Int):=by rw [or_u32 _ _ hyb hlo,low_shift hz,or_low htop]
   have w3:IntKind.u64.wrap ((x:Int) * 2 ^ z)=((x * 2 ^ z:Nat):Int):=by rw [hcast];exact wrap_u64_nat hX
   have w4:((x * 2 ^ z:Nat):Int) / 4294967296=((x * 2 ^ z / bB:Nat):Int):=by rw [bB_eq];rfl
   have w5:((x * 2 ^ z / bB:Nat):Int) < 4294967296:=by
    have:x * 2 ^ z / bB < bB:=Nat.div_lt_of_lt_mul (by rw [bB_eq];omega)
    rw [bB_eq] at this;omega
   have w6:(0:Int)≤((x * 2 ^ z:Nat):Int):=by omega
   have w7:(x:Int) < 4294967296:=by rw [bB_eq] at hx;omega
   have HS:=Lib.hid (And.intro hst (And.intro hr2 hb3))
   clear hcast hX hlo hyb htop hroom hx
   generalize y + x * 2 ^ z % bB=sm at *
   generalize x * 2 ^ z / bB=hv at *
   generalize x * 2 ^ z % bB=lo at *
   generalize x * 2 ^ z=X at *
   clear hst hr1 hr2 hb1 hb3 hS hR hbl hslx
   go_upto_region 5 with fail
   go_still_tail 9,(by kernel_rfl)
   change wpList _ _ _ _ _ wb.drew
   have g2':wb.drew.cell? ⟨wa.heap.size,i,none⟩=some (.int .u32 (y:Int)):=g2
   go_wp2_with fail
   exact ⟨⟨i + 1,_,by go_num,by omega,HS.out.1,HS.out.2.1.drew,below_drewN HS.out.2.2 1⟩,by simp [intOf];omega⟩
  ·obtain rfl:i=n:=by omega
   have hS':=hS
   rw [← HK.out.1] at hS'
   have HF:=Lib.hid (And.intro hR (And.intro hsl (And.intro hS.l32 (And.intro hS'.done hbl))))
   have hlt':¬ (i:Int) < (i:Nat):=by omega
   clear hS hS' hR hbl
   go_wp2_with fail
   go_ret
   exact ⟨wa.heap.size,s,rfl,Nat.le_refl _,HF.out.1,HF.out.2.1,HF.out.2.2.1,HF.out.2.2.2.1,HF.out.2.2.2.2⟩

theorem nth_midN {a s b:List Nat} {i:Nat} (hi:i < s.length):nth (a ++ s ++ b) (a.length + i)=nth s i:=by
 rw [nth_append_left (by simp;omega),nth_append_right (by omega),Nat.add_sub_cancel_left]
theorem set_midN {a s b:List Nat} {i x:Nat} (hi:i < s.length):(a ++ s ++ b).set (a.length + i) x=a ++ s.set i x ++ b:=by
 rw [List.set_append_left _ _ (by simp;omega),List.set_append_right _ _ (by omega),Nat.add_sub_cancel_left]
theorem Sl.grownM {w w':World} {gv ov n:Nat} {xs:List Nat} {g:Nat} (h:Sl eU w (some ⟨gv,ov,none⟩) n xs) (hg:w.grownBy w' (some g)) (hne:gv ≠ g):Sl eU w' (some ⟨gv,ov,none⟩) n xs:=
 ⟨h.len,h.big,fun hn=>by
   obtain ⟨b,o,e,hlt,hc⟩:=h.at' hn
   refine ⟨b,o,e,Nat.lt_of_lt_of_le hlt hg.size,fun j hj=>?_⟩
   rw [← hc j hj]
   injection e with e
   injection e with e1 e2 _
   subst e1
   simp only [World.cell?,hg.block gv hlt (by intro e;injection e with e;exact hne e)]⟩
structure Win (w:World) (g j:Nat) (a s b:List Nat) (rest:List Value):Prop where
 row:RowAt eU w g 83 (a ++ s ++ b) rest
 len:a.length=j
theorem Win.cell {w:World} {g j:Nat} {a s b:List Nat} {rest:List Value} (h:Win w g j a s b rest) {i:Nat} (hi:i < s.length):w.cell? ⟨g,j + i,none⟩=some (.int .u32 ((nth s i:Nat):Int)):=by
 have:=h.row.cell (j:=j + i) (by have:=h.len;simp;omega)
 rw [← h.len,nth_midN hi,h.len] at this
 exact this
theorem Win.frozen {w:World} {g j:Nat} {a s b:List Nat} {rest:List Value} (h:Win w g j a s b rest) (i:Nat):w.frozen? ⟨g,i,none⟩=false:=h.row.frozen i
theorem Win.set {w:World} {g j:Nat} {a s b:List Nat} {rest:List Value} (h:Win w g j a s b rest) {i:Nat} (hi:i < s.length) (x:Nat):Win (w.setCell ⟨g,j + i,none⟩ (eU x)) g j a (s.set i x) b rest:=by
 refine ⟨?_,h.len⟩
 have:=h.row.set (j:=j + i) (by have:=h.len;simp;omega) x
 rw [← h.len,set_midN hi,h.len] at this
 exact this
theorem Win.drewN {w:World} {g j:Nat} {a s b:List Nat} {rest:List Value} (h:Win w g j a s b rest) (k:Nat):Win (w.drewN k) g j a s b rest:=⟨h.row.drewN k,h.len⟩
end Go.Proofs.YtgbmnlmnhbkdbaaGreat
