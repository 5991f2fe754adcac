/- Joined by program out of: CmpI, Sl1I, Set2I, Choose. What each says stands at its own head. -/
import Derived.Test.YtgbmnlmnhbkdbaaGreatJ9
import Derived.Test.YtgbmnlmnhbkdbaaGreatJ1
import Derived.Outline
set_option linter.unusedVariables false
set_option linter.unusedSimpArgs false
/- cmp.Compare, cmp.Less, isNaN at int: what they return. No condition. -/
namespace Go.Proofs.YtgbmnlmnhbkdbaaGreat
open Go.RowKit

def cmpI (a b:Int):Int:=if a < b then -1 else if b < a then 1 else 0
theorem cmpI_neg (a b:Int):(cmpI a b < 0)=(a < b):=by
 unfold cmpI;split <;> (try split) <;> simp <;> omega
theorem cmpI_zero (a b:Int):(cmpI a b=0)=(a=b):=by
 unfold cmpI;split <;> (try split) <;> simp <;> omega

theorem cmpokI:CmpOk cmpI:=by
 refine ⟨⟨fun x=>?_,fun {x y z}=>?_,fun {x z}=>?_⟩,fun a b=>?_⟩
 ·rw [cmpI_neg];omega
 ·simp only [cmpI_neg];omega
 ·simp only [cmpI_neg];omega
 ·rw [cmpI_neg];unfold cmpI;split <;> (try split) <;> simp <;> omega
theorem nan_i (a:Int) (w:World):Calls Tryz.prog 82 #[.int .i64 a] w fun e w'=>e=.returned (.bool false)∧w=w':=by
 have h:(a != a)=false:=by simp
 go_enter Tryz.func82,Tryz.ntmps82
 go_wp2
 go_ret
 exact ⟨rfl,rfl⟩
theorem snan_i (a:Int) (w:World):Calls Tryz.prog 98 #[.int .i64 a] w fun e w'=>e=.returned (.bool false)∧w=w':=by
 have h:(a != a)=false:=by simp
 go_enter Tryz.func98,Tryz.ntmps98
 go_wp2
 go_ret
 exact ⟨rfl,rfl⟩
theorem cmp_i (a b:Int) (w:World):Calls Tryz.prog 63 #[.int .i64 a,.int .i64 b] w fun e w'=>e=.returned (.int .i64 (cmpI a b))∧w=w':=by
 go_enter Tryz.func63,Tryz.ntmps63
 go_wp2_with (go_at_call 82;refine (nan_i _ _).mono ?_;rintro e w' ⟨rfl,rfl⟩)
 all_goals go_ret
 all_goals refine ⟨ret_int ?_,rfl⟩
 ·have h:a < b:=by assumption
  simp [cmpI,h]
 ·have h:¬ a < b:=by omega
  have h':b < a:=by assumption
  simp [cmpI,h,h']
 ·have h:¬ a < b:=by omega
  have h':¬ b < a:=by omega
  simp [cmpI,h,h']
theorem less_i (a b:Int) (w:World):Calls Tryz.prog 94 #[.int .i64 a,.int .i64 b] w fun e w'=>e=.returned (.bool (decide (a < b)))∧w=w':=by
 go_enter Tryz.func94,Tryz.ntmps94
 go_wp2_with (go_at_call 82;refine (nan_i _ _).mono ?_;rintro e w' ⟨rfl,rfl⟩)
 go_ret
 exact ⟨rfl,rfl⟩
def ltbI (a b:Int):Bool:=decide (cmpI a b < 0)
theorem ltb_i (a b:Int) (w:World):Calls Tryz.prog 94 #[.int .i64 a,.int .i64 b] w fun e w'=>e=.returned (.bool (ltbI a b))∧w=w':=
 (less_i a b w).mono fun _ _ h=>⟨by rw [h.1,ltbI];simp only [cmpI_neg],h.2⟩
end Go.Proofs.YtgbmnlmnhbkdbaaGreat
/- slices.Clone and slices.CompactFunc at int: walked. Conditions: the slice reads as a list, of a length that Go's bound lets in. -/
namespace Go.Proofs.YtgbmnlmnhbkdbaaGreat
open Go.RowKit
namespace SoI

theorem info:(Tryz.prog.info? 3).map (fun i=>(i.zero,i.size,i.bytes))=some (some (.int .i64 0),1,8):=by kernel_rfl
theorem zero:∀ w:World,(zeroValue 3).run Tryz.prog w=.ok (.int .i64 0) w:=fun w=>by kernel_rfl
theorem one (x:Int):(Value.int .i64 x).oneCell'=true:=rfl

set_option maxHeartbeats 400000 in
theorem clone_any (A:Option Addr) (n c:Nat) (xs:List Int) (w:World) (hx:Sl (Value.int .i64) w A n xs) (hb:n * 8≤140737488355328) :
 Calls Tryz.prog 61 #[.slice A n c] w fun e w'=>∃ A' c',e=.returned (.slice A' n c')∧OwnR (Value.int .i64) w' w.heap.size 3 A' n c' xs∧Below w.heap.size w w':=by
 obtain ⟨i0,hi,hz0,hz1,hz2⟩:=info_parts info
 have hbig:=hx.big
 have q:∀ (w:World) (a:Option Addr) (n c n' c':Nat),(binOp .eql 23 (.slice a n c) (.slice none n' c')).run Tryz.prog w=.ok (.bool a.isNone) w:=fun w a n c n' c'=>Go.Lib.run_eql_slice_nil w _ _ a n c n' c' Tryz.underlying23
 rcases A with _ | ad
 ·have hn:n=0:=by
   rcases Nat.eq_zero_or_pos n with h0 | h0
   ·exact h0
   ·obtain ⟨b,off,e,_⟩:=hx.at' h0
    cases e
  subst hn
  obtain rfl:xs=[]:=List.eq_nil_of_length_eq_zero hx.len
  clear hb hbig
  go_enter Tryz.func61,Tryz.ntmps61
  go_wp2_with fail
  go_ret
  exact ⟨none,0,rfl,OwnR.nil _ _ _ _,Below.refl _ _⟩
 ·go_enter Tryz.func61,Tryz.ntmps61
  have how:OwnR (Value.int .i64) (w.alloc (.cells #[] 3)) w.heap.size 3 (some ⟨w.heap.size,0,none⟩) 0 0 []:=
   OwnR.of_row (rest:=[]) (heap_alloc_new w _) (Nat.le_refl _) (by simp [maxLen])
  go_wp2_with (first
   | (at_builtin;refine wpList_append_sl _ (Value.int .i64) one rfl _ _ 23 rfl w.heap.size 3 i0 (.int .i64 0) 8 Tryz.underlying23 hi hz0 hz1 hz2 rfl _ _ _ _ rfl how _ _ _ _ rfl (hx.alloc _) ?c1 ?c2 ?c3 ?_)
   | fail)
  case c1=>unfold maxLen;omega
  case c2=>omega
  case c3=>simp
  intro A' c' w' how' hg hb' _
  go_wp2_with fail
  go_ret
  exact ⟨A',c',rfl,how',((Below.refl _ _).alloc (Nat.le_refl _) _).trans hb'⟩

def eqb (a b:Int):Bool:=cmpI a b == 0
theorem eq_any (a b:Int) (w:World):Calls Tryz.prog 65 #[Value.int .i64 a,Value.int .i64 b] w fun e w'=>e=.returned (.bool (eqb a b))∧w=w':=by
 go_enter Tryz.func65,Tryz.ntmps65
 go_wp2_with (go_at_call 63;refine (cmp_i _ _ _).mono ?_;rintro e w' ⟨rfl,rfl⟩)
 go_ret
 exact ⟨rfl,rfl⟩
theorem eq_q (a b:Int) (w:World):Calls Tryz.prog 65 #[Value.int .i64 a,Value.int .i64 b] w fun e w'=>e=.returned (.bool (eqb a b))∧w'=w:=(eq_any a b w).mono fun _ _ h=>⟨h.1,h.2.symm⟩

set_option maxRecDepth 100000 in
set_option maxHeartbeats 800000 in
theorem compact_row (g n c:Nat) (xs:List Int) (rest:List Value) (w:World) (hr:RowAt (Value.int .i64) w g 3 xs rest) (hn:xs.length=n) (hbig:n≤140737488351232) (hnc:n≤c) (hc:c≤maxLen) :
 Calls Tryz.prog 64 #[.slice (some ⟨g,0,none⟩) n c,.func (.func 65) #[] #[]] w fun e w'=>∃ k,e=.returned (.slice (some ⟨g,0,none⟩) k c) ∧
  (∃ rest',RowAt (Value.int .i64) w' g 3 (dd eqb xs) rest'∧(dd eqb xs).length=k∧k + rest'.length=n + rest.length)∧w.grownBy w' (some g):=by
 unfold maxLen at hc
 have HN:=Lib.hid hn;clear hn
 by_cases hn2:n < 2
 ·have hdd:dd eqb xs=xs:=by
   have h0:=HN.out
   rcases xs with _ | ⟨x,_ | ⟨y,xs⟩⟩
   ·rfl
   ·rfl
   ·simp at h0;omega
  have HD:=Lib.hid hdd;clear hdd
  go_enter Tryz.func64,Tryz.ntmps64
  go_wp2_with fail
  go_ret
  exact ⟨n,rfl,⟨rest,by rw [HD.out];exact hr,by rw [HD.out,HN.out],rfl⟩,grown_refl _ _⟩
 ·go_enter Tryz.func64,Tryz.ntmps64
  go_wp2_with fail
  go_loopw [5] (fun i wr=>∃ k:Nat,i=.int .i64 (k:Nat)∧1≤k∧k≤n∧dd eqb (xs.take k)=xs.take k∧RowAt (Value.int .i64) wr g 3 xs rest∧w.grownBy wr (some g)) (fun i _=>n - (intOf i).toNat)
  case atStart =>
   refine ⟨1,rfl,Nat.le_refl _,by omega,?_,hr,grown_refl _ _⟩
   rcases xs with _ | ⟨x,xs⟩
   ·rfl
   ·simp [dd,ddF]
  case round =>
   obtain ⟨k,rfl,hk1,hk2,hdd,hrow,hg⟩:=hrel
   by_cases hlt:k < n
   ·have hst:=dd_step eqb xs k (by omega) (by rw [HN.out];exact hlt)
    rw [hdd] at hst
    have HD:=Lib.hid (And.intro hdd hst);clear hdd hst
    have c1:wr.cell? ⟨g,k,none⟩=some (Value.int .i64 (nth xs k)):=hrow.cell (by rw [HN.out];exact hlt)
    have c2:wr.cell? ⟨g,k - 1,none⟩=some (Value.int .i64 (nth xs (k - 1))):=hrow.cell (by rw [HN.out];omega)
    have hkc:k < c:=by omega
    have hk0:0 < k:=hk1
    go_wp2_with fail
    go_quiet ((go_at_call 65;exact Calls.quiet_of_same (eq_q _ _ _)))
    go_wp2_with fail
    ·have heq:eqb (nth xs k) (nth xs (k - 1))=true:=by assumption
     have h0:1≤n - k:=by omega
     go_loopw [5,7] (fun i j wq=>∃ (ii kk:Nat) (ys:List Int),i=.int .i64 (ii:Nat)∧j=.int .i64 (kk:Nat)∧1≤kk∧kk≤n - k∧k≤ii∧ii + 1≤k + kk ∧
      ys.take ii=dd eqb (xs.take (k + kk))∧ys.length=n∧(∀ j,k + kk≤j + 1→nth ys j=nth xs j)∧RowAt (Value.int .i64) wq g 3 ys rest∧w.grownBy wq (some g)) (fun _ j _=>n - (intOf j).toNat)
     case atStart =>
      refine ⟨k,1,xs,rfl,rfl,Nat.le_refl _,h0,Nat.le_refl _,Nat.le_refl _,?_,HN.out,fun _ _=>rfl,hrow.drewN _,grown_drewN hg _⟩
      rw [HD.out.2,heq,if_pos rfl]
     case round =>
      obtain ⟨ii,kk,ys,rfl,rfl,hj1,hj2,hi1,hi2,htk,hyl,hsame,hrow,hg⟩:=hrel
      have HT:=Lib.hid (And.intro htk (And.intro hyl hsame));clear htk hyl hsame
      by_cases hlt2:kk < n - k
      ·have hst:=dd_step eqb xs (k + kk) (by omega) (by rw [HN.out];omega)
       have hkn:k + kk < n:=by omega
       have hkk:0 < kk:=hj1
       have hin:ii < n:=by omega
       have hjl:(kk:Int) < (n:Int) - (k:Int):=by omega
       have c1:wr.cell? ⟨g,k + kk,none⟩=some (Value.int .i64 (nth xs (k + kk))):=by
        rw [← HT.out.2.2 (k + kk) (by omega)];exact hrow.cell (by rw [HT.out.2.1];omega)
       have c2:wr.cell? ⟨g,k + (kk - 1),none⟩=some (Value.int .i64 (nth xs (k + (kk - 1)))):=by
        rw [← HT.out.2.2 (k + (kk - 1)) (by omega)];exact hrow.cell (by rw [HT.out.2.1];omega)
       have c3:∃ u,wr.cell? ⟨g,ii,none⟩=some u:=⟨_,hrow.cell (by rw [HT.out.2.1];omega)⟩
       obtain ⟨u,c3⟩:=c3
       have f1:=hrow.frozen ii
       rw [show k + kk - 1=k + (kk - 1) from by omega] at hst
       generalize hx:nth xs (k + kk)=x at c1 hst
       generalize hy:nth xs (k + (kk - 1))=y at c2 hst
       have HX:=Lib.hid (And.intro hx (And.intro hy hst));clear hx hy hst
       go_wp2_with fail
       go_quiet ((go_at_call 65;exact Calls.quiet_of_same (eq_q _ _ _)))
       go_wp2_with fail
       ·have hne:eqb x y=false:=by
         have h:(!eqb x y)=true:=by assumption
         simpa using h
        have hH:=HX.out.2.2
        rw [hne,if_neg (by simp)] at hH
        have hT:=HT.out
        refine ⟨⟨ii + 1,kk + 1,ys.set ii x,by go_num,by go_num,by omega,by omega,by omega,by omega,?_,by simpa using hT.2.1,?_,?_,?_⟩,by simp [intOf];omega⟩
        ·rw [show k + (kk + 1)=k + kk + 1 from by omega,hH,← hT.1,take_snoc (by simp;omega),nth_set_same (by omega),List.take_set_of_le (Nat.le_refl _)]
        ·intro j hj
         rw [nth_set_other (by omega)]
         exact hT.2.2 j (by omega)
        ·exact (hrow.drewN _).set (by omega) x
        ·exact grown_setCell (grown_drewN hg _) _ _
       ·have hne:eqb x y=true:=by
         have h:(!eqb x y)=false:=by assumption
         simpa using h
        have hH:=HX.out.2.2
        rw [hne,if_pos rfl] at hH
        have hT:=HT.out
        refine ⟨⟨ii,kk + 1,ys,rfl,by go_num,by omega,by omega,by omega,by omega,?_,hT.2.1,?_,hrow.drewN _,grown_drewN hg _⟩,by simp [intOf];omega⟩
        ·rw [show k + (kk + 1)=k + kk + 1 from by omega,hH,← hT.1]
        ·intro j hj
         exact hT.2.2 j (by omega)
      ·have hin:ii < n:=by omega
       have hic:ii < c:=by omega
       go_wp2_with (first
        | (refine wpList_clear_row _ (Value.int .i64) rfl _ _ rfl 3 (.int .i64 0) Tryz.underlying23 zero rfl rfl g ii (n - ii) _ rfl ys rest hrow (by have:=HT.out.2.1;omega) ?_)
        | fail)
       intro w' hrow2 hg2
       go_wp2_with fail
       go_ret
       have hT:=HT.out
       have hkk:k + kk=n:=by omega
       have hxs:xs.take n=xs:=List.take_of_length_le (by rw [HN.out];exact Nat.le_refl _)
       rw [hkk,hxs] at hT
       refine ⟨ii,rfl,⟨_,by rw [← hT.1];exact hrow2,by rw [← hT.1];simp;omega,by simp;omega⟩,grown_trans hg hg2⟩
    ·have heq:eqb (nth xs k) (nth xs (k - 1))=false:=by assumption
     refine ⟨⟨k + 1,by go_num,by omega,by omega,?_,hrow.drewN _,grown_drewN hg _⟩,by simp [intOf];omega⟩
     rw [HD.out.2,heq,take_snoc (by rw [HN.out];exact hlt)]
     rfl
   ·obtain rfl:k=n:=by omega
    go_wp2_with fail
    go_ret
    have he:dd eqb xs=xs:=by
     have h:=hdd
     rw [List.take_of_length_le (by rw [HN.out];exact Nat.le_refl _)] at h
     exact h
    exact ⟨k,rfl,⟨rest,by rw [he];exact hrow,by rw [he,HN.out],rfl⟩,hg⟩
theorem compact_any (base:Nat) (A:Option Addr) (n c:Nat) (xs:List Int) (w:World) (h:OwnR (Value.int .i64) w base 3 A n c xs) (hbig:n≤140737488351232) (hB:base≤w.heap.size) :
 Calls Tryz.prog 64 #[.slice A n c,.func (.func 65) #[] #[]] w fun e w'=>∃ k,e=.returned (.slice A k c)∧OwnR (Value.int .i64) w' base 3 A k c (dd eqb xs)∧Below base w w':=by
 rcases Nat.eq_zero_or_pos n with rfl | hn
 ·obtain rfl:xs=[]:=List.eq_nil_of_length_eq_zero h.length
  go_enter Tryz.func64,Tryz.ntmps64
  go_wp2_with fail
  go_ret
  exact ⟨0,rfl,h,Below.refl _ _⟩
 ·obtain ⟨g,rest,rfl,hbg,hr,hcap⟩:=h.row hn
  refine (compact_row g n c xs rest w hr h.length hbig h.cap h.capmax).mono ?_
  rintro e w' ⟨k,rfl,⟨rest',h1,h2,h3⟩,hg⟩
  exact ⟨k,rfl,OwnR.of_row' h1 hbg (by omega) h.capmax h2,grown_below hg hbg hB⟩
end SoI
end Go.Proofs.YtgbmnlmnhbkdbaaGreat
/- slices.BinarySearch, find, Has at int, walked. Conditions: the list rises. -/
namespace Go.Proofs.YtgbmnlmnhbkdbaaGreat
open Go.RowKit
namespace SoI

set_option maxHeartbeats 800000 in
theorem bs_any (A:Option Addr) (n c:Nat) (xs:List Int) (x:Int) (w:World) (hx:Sl (Value.int .i64) w A n xs) (ha:Asc cmpI xs) :
 Calls Tryz.prog 85 #[.slice A n c,Value.int .i64 x] w fun e w'=>∃ i:Nat,e=.returned (.tuple #[.int .i64 (i:Nat),.bool (isIn cmpI x xs)])∧Place cmpI xs x i∧w=w':=by
 have hbig:=hx.big
 have HL:=Lib.hid hx.len
 go_enter Tryz.func85,Tryz.ntmps85
 go_wp2_with fail
 go_loop [7,8] (fun i j=>∃ (ii jj:Nat),i=.int .i64 (ii:Nat)∧j=.int .i64 (jj:Nat)∧ii≤jj∧jj≤n∧(∀ t,t < ii→cmpI (nth xs t) x < 0)∧(∀ t,jj≤t→t < n→ltbI (nth xs t) x=false)) (fun i j=>(intOf j).toNat - (intOf i).toNat)
 case atStart=>exact ⟨0,n,rfl,rfl,Nat.zero_le _,Nat.le_refl _,by intro t ht;omega,by intro t ht ht';omega⟩
 case round =>
  obtain ⟨ii,jj,rfl,rfl,hij,hj,hlo,hhi⟩:=hrel
  have HLO:=Lib.hid (And.intro hlo hhi);clear hlo hhi
  by_cases hlt:ii < jj
  ·obtain ⟨h,hh⟩:∃ h:Nat,((ii:Int) + (jj:Int)) / 2=(h:Int):=⟨(ii + jj) / 2,by omega⟩
   have hh1:ii≤h:=by omega
   have hh2:h < jj:=by omega
   have hhn:h < n:=by omega
   obtain ⟨b,off,rfl,hb,hc⟩:=hx.at' (by omega)
   have c1:=hc h hhn
   clear hc
   go_wp2_with (go_at_call 94;refine (ltb_i _ _ _).mono ?_;rintro e w' ⟨rfl,rfl⟩)
   ·have hcc:ltbI (nth xs h) x=true:=by assumption
    have hc':cmpI (nth xs h) x < 0:=by simpa [ltbI] using hcc
    refine ⟨⟨h + 1,jj,by go_num,rfl,by omega,by omega,fun t ht=>?_,HLO.out.2⟩,by simp [intOf];omega⟩
    by_cases e:t=h
    ·subst e;exact hc'
    ·exact cmpokI.lt_trans (nth_asc ha (by omega) (by rw [HL.out];omega)) hc'
   ·have hcc:ltbI (nth xs h) x=false:=by assumption
    refine ⟨⟨ii,h,rfl,by go_num,hh1,by omega,HLO.out.1,fun t ht ht'=>?_⟩,by simp [intOf];omega⟩
    by_cases e:t=h
    ·subst e;exact hcc
    ·simp only [ltbI,decide_eq_false_iff_not] at hcc ⊢
     exact fun h1=>hcc (cmpokI.lt_trans (nth_asc ha (by omega) (by rw [HL.out];omega)) h1)
  ·obtain rfl:ii=jj:=by omega
   have hp:Place cmpI xs x ii:=⟨by rw [HL.out];exact hj,HLO.out.1,fun t h1 h2=>by
    have:=HLO.out.2 t h1 (by rw [← HL.out];exact h2)
    simpa [ltbI] using this⟩
   have hin:=hp.isIn cmpokI ha
   have HP:=Lib.hid (And.intro hp hin);clear hp hin HLO
   by_cases hin:ii < n
   ·obtain ⟨b,off,rfl,hb,hc⟩:=hx.at' (by omega)
    have c1:=hc ii hin
    clear hc
    generalize hy:nth xs ii=y at c1
    have HY:=Lib.hid hy;clear hy
    rcases (show ((y == x)=true∧(cmpI y x == 0)=true) ∨ ((y == x)=false∧(cmpI y x == 0)=false) from by simp [cmpI_zero];omega) with ⟨he,ho⟩ | ⟨he,ho⟩
    all_goals
     go_wp2_with (go_at_call 98;refine (snan_i _ _).mono ?_;rintro e w' ⟨rfl,rfl⟩)
     go_ret2
     refine ⟨ii,?_,HP.out.1,rfl⟩
     rw [HP.out.2,HY.out,HL.out]
     simp [hin,ho]
   ·have hd:decide ((ii:Int) < (n:Int))=false:=by simp;omega
    have hd':decide (ii < n)=false:=by simp;omega
    go_wp2_with fail
    go_ret2
    refine ⟨ii,?_,HP.out.1,rfl⟩
    rw [HP.out.2,HL.out]
    simp [hin]
theorem find_any (A:Option Addr) (n c:Nat) (xs:List Int) (x:Int) (w:World) (hx:Sl (Value.int .i64) w A n xs) (ha:Asc cmpI xs) :
 Calls Tryz.prog 80 #[.agg #[.slice A n c],Value.int .i64 x] w fun e w'=>∃ i:Nat,e=.returned (.tuple #[.int .i64 (i:Nat),.bool (isIn cmpI x xs)])∧Place cmpI xs x i∧Below w.heap.size w w':=by
 have hbox:=RowC.new w 66 [.slice A n c]
 have r1:=hbox.cell 0
 go_enter Tryz.func80,Tryz.ntmps80
 go_wp2_with fail
 refine (bs_any A n c xs x _ (hx.alloc _) ha).mono ?_
 rintro e w' ⟨i,rfl,hp,rfl⟩
 go_wp2_with fail
 go_ret2
 exact ⟨i,rfl,hp,(Below.refl _ _).alloc (Nat.le_refl _) _⟩
theorem has_any (A:Option Addr) (n c:Nat) (xs:List Int) (x:Int) (w:World) (hx:Sl (Value.int .i64) w A n xs) (ha:Asc cmpI xs) :
 Calls Tryz.prog 59 #[.agg #[.slice A n c],Value.int .i64 x] w fun e w'=>e=.returned (.bool (isIn cmpI x xs))∧Below w.heap.size w w':=by
 have hbox:=RowC.new w 66 [.slice A n c]
 have r1:=hbox.cell 0
 go_enter Tryz.func59,Tryz.ntmps59
 go_wp2_with fail
 refine (find_any A n c xs x _ (hx.alloc _) ha).mono ?_
 rintro e w' ⟨i,rfl,hp,hb⟩
 go_wp2_with fail
 go_ret
 exact ⟨rfl,((Below.refl _ _).alloc (Nat.le_refl _) _).trans (hb.mono (by simp))⟩
end SoI
end Go.Proofs.YtgbmnlmnhbkdbaaGreat
/- Plain facts on what of two rising lists is chosen, step by step, without any program. No condition beyond that the comparison compares. -/
namespace Go.Proofs.YtgbmnlmnhbkdbaaGreat

section
variable {α:Type} [Inhabited α] {c:α→α→Int}

def want (c:α→α→Int) (l b:Bool) (o:List α) (z:α):Bool:=if isIn c z o then b else l
structure ChosenAt (c:α→α→Int) (l b r:Bool) (s o:List α) (i k:Nat) (out:List α):Prop where
 le1:i≤s.length
 le2:k≤o.length
 c1:∀ t u,t < i→k≤u→u < o.length→c (nth s t) (nth o u) < 0
 c2:∀ t u,i≤t→t < s.length→u < k→c (nth o u) (nth s t) < 0
 asc:Asc c out
 mem:∀ z,z ∈ out ↔ (∃ t,t < i∧nth s t=z∧want c l b o z=true) ∨ (∃ u,u < k∧nth o u=z∧isIn c z s=false∧r=true)
 len:out.length≤i + k

structure Chosen (c:α→α→Int) (l b r:Bool) (s o out:List α):Prop where
 asc:Asc c out
 mem:∀ z,z ∈ out ↔ (z ∈ s∧want c l b o z=true) ∨ (z ∈ o∧isIn c z s=false∧r=true)
 len:out.length≤s.length + o.length

theorem ChosenAt.start (l b r:Bool) (s o:List α):ChosenAt c l b r s o 0 0 []:=
 ⟨Nat.zero_le _,Nat.zero_le _,fun t u h=>by omega,fun t u _ _ h=>by omega,List.Pairwise.nil,fun z=>by simp,by simp⟩
theorem ChosenAt.done {l b r:Bool} {s o out:List α} (h:ChosenAt c l b r s o s.length o.length out):Chosen c l b r s o out:=by
 refine ⟨h.asc,fun z=>?_,h.len⟩
 rw [h.mem]
 constructor
 ·rintro (⟨t,ht,e,hw⟩ | ⟨u,hu,e,hw⟩)
  ·exact .inl ⟨by rw [← e];exact nth_mem ht,hw⟩
  ·exact .inr ⟨by rw [← e];exact nth_mem hu,hw⟩
 ·rintro (⟨hz,hw⟩ | ⟨hz,hw⟩)
  ·obtain ⟨t,ht,e⟩:=mem_nth hz
   exact .inl ⟨t,ht,e,hw⟩
  ·obtain ⟨u,hu,e⟩:=mem_nth hz
   exact .inr ⟨u,hu,e,hw⟩
omit [Inhabited α] in
theorem asc_snoc {out:List α} {x:α} (h:Asc c out) (hx:∀ z,z ∈ out→c z x < 0):Asc c (out ++ [x]):=
 List.pairwise_append.2 ⟨h,List.pairwise_singleton _ _,fun z hz y hy=>by rw [List.mem_singleton.1 hy];exact hx z hz⟩

section
variable {l b r:Bool} {s o out:List α} {i k:Nat}
theorem ChosenAt.before1 (h:ChosenAt c l b r s o i k out) (hs:Asc c s) (hi:i < s.length):∀ z,z ∈ out→c z (nth s i) < 0:=by
 intro z hz
 rcases (h.mem z).1 hz with ⟨t,ht,e,_⟩ | ⟨u,hu,e,_⟩
 ·rw [← e];exact nth_asc hs ht hi
 ·rw [← e];exact h.c2 i u (Nat.le_refl _) hi hu
theorem ChosenAt.before2 (h:ChosenAt c l b r s o i k out) (ho:Asc c o) (hk:k < o.length):∀ z,z ∈ out→c z (nth o k) < 0:=by
 intro z hz
 rcases (h.mem z).1 hz with ⟨t,ht,e,_⟩ | ⟨u,hu,e,_⟩
 ·rw [← e];exact h.c1 t k ht (Nat.le_refl _) hk
 ·rw [← e];exact nth_asc ho hu hk
theorem ChosenAt.left (hc:CmpOk c) (h:ChosenAt c l b r s o i k out) (hs:Asc c s) (ho:Asc c o) (hi:i < s.length) (hlt:k < o.length→c (nth s i) (nth o k) < 0) :
 ChosenAt c l b r s o (i + 1) k (if l then out ++ [nth s i] else out):=by
 have hall:∀ u,k≤u→u < o.length→c (nth s i) (nth o u) < 0:=by
  intro u hu hu2
  have h1:=hlt (by omega)
  by_cases e:u=k
  ·rw [e];exact h1
  ·exact hc.lt_trans h1 (nth_asc ho (by omega) hu2)
 have hnin:isIn c (nth s i) o=false:=by
  rw [← Bool.not_eq_true,isIn_iff]
  rintro ⟨y,hy,h0⟩
  obtain ⟨u,hu,rfl⟩:=mem_nth hy
  by_cases e:u < k
  ·have:=h.c2 i u (Nat.le_refl _) hi e;omega
  ·have h1:=hall u (by omega) hu
   have:=hc.flip (nth o u) (nth s i);omega
 have hw:want c l b o (nth s i)=l:=by unfold want;rw [hnin];rfl
 refine ⟨hi,h.le2,fun t u ht hu hu2=>?_,fun t u ht ht2 hu=>h.c2 t u (by omega) ht2 hu,?_,fun z=>?_,?_⟩
 ·by_cases e:t=i
  ·subst e;exact hall u hu hu2
  ·exact h.c1 t u (by omega) hu hu2
 ·split
  ·exact asc_snoc h.asc (h.before1 hs hi)
  ·exact h.asc
 ·have h0:(∃ t,t < i + 1∧nth s t=z∧want c l b o z=true) ↔ (∃ t,t < i∧nth s t=z∧want c l b o z=true) ∨ (nth s i=z∧l=true):=by
   constructor
   ·rintro ⟨t,ht,e,hz⟩
    by_cases e2:t=i
    ·subst e2;right;refine ⟨e,?_⟩;rw [← e,hw] at hz;exact hz
    ·left;exact ⟨t,by omega,e,hz⟩
   ·rintro (⟨t,ht,e,hz⟩ | ⟨e,hz⟩)
    ·exact ⟨t,by omega,e,hz⟩
    ·exact ⟨i,by omega,e,by rw [← e,hw];exact hz⟩
  rw [h0]
  cases l
  ·simp [h.mem z]
  ·simp only [if_true,List.mem_append,List.mem_singleton,h.mem z,and_true]
   constructor
   ·rintro ((h1 | h1) | h1)
    ·exact .inl (.inl h1)
    ·exact .inr h1
    ·exact .inl (.inr h1.symm)
   ·rintro ((h1 | h1) | h1)
    ·exact .inl (.inl h1)
    ·exact .inr h1.symm
    ·exact .inl (.inr h1)
 ·have:=h.len;split <;> (simp;omega)
theorem ChosenAt.right (hc:CmpOk c) (h:ChosenAt c l b r s o i k out) (hs:Asc c s) (ho:Asc c o) (hk:k < o.length) (hlt:i < s.length→c (nth o k) (nth s i) < 0) :
 ChosenAt c l b r s o i (k + 1) (if r then out ++ [nth o k] else out):=by
 have hall:∀ t,i≤t→t < s.length→c (nth o k) (nth s t) < 0:=by
  intro t ht ht2
  have h1:=hlt (by omega)
  by_cases e:t=i
  ·rw [e];exact h1
  ·exact hc.lt_trans h1 (nth_asc hs (by omega) ht2)
 have hnin:isIn c (nth o k) s=false:=by
  rw [← Bool.not_eq_true,isIn_iff]
  rintro ⟨y,hy,h0⟩
  obtain ⟨t,ht,rfl⟩:=mem_nth hy
  by_cases e:t < i
  ·have:=h.c1 t k e (Nat.le_refl _) hk;omega
  ·have h1:=hall t (by omega) ht
   have:=hc.flip (nth s t) (nth o k);omega
 refine ⟨h.le1,hk,fun t u ht hu hu2=>h.c1 t u ht (by omega) hu2,fun t u ht ht2 hu=>?_,?_,fun z=>?_,?_⟩
 ·by_cases e:u=k
  ·subst e;exact hall t ht ht2
  ·exact h.c2 t u ht ht2 (by omega)
 ·split
  ·exact asc_snoc h.asc (h.before2 ho hk)
  ·exact h.asc
 ·have h0:(∃ u,u < k + 1∧nth o u=z∧isIn c z s=false∧r=true) ↔ (∃ u,u < k∧nth o u=z∧isIn c z s=false∧r=true) ∨ (nth o k=z∧r=true):=by
   constructor
   ·rintro ⟨t,ht,e,hz⟩
    by_cases e2:t=k
    ·subst e2;right;exact ⟨e,hz.2⟩
    ·left;exact ⟨t,by omega,e,hz⟩
   ·rintro (⟨t,ht,e,hz⟩ | ⟨e,hz⟩)
    ·exact ⟨t,by omega,e,hz⟩
    ·exact ⟨k,by omega,e,by rw [← e];exact hnin,hz⟩
  rw [h0]
  cases r
  ·simp [h.mem z]
  ·simp only [if_true,List.mem_append,List.mem_singleton,h.mem z,and_true]
   constructor
   ·rintro ((h1 | h1) | h1)
    ·exact .inl h1
    ·exact .inr (.inl h1)
    ·exact .inr (.inr h1.symm)
   ·rintro (h1 | h1 | h1)
    ·exact .inl (.inl h1)
    ·exact .inl (.inr h1)
    ·exact .inr h1.symm
 ·have:=h.len;split <;> (simp;omega)
theorem ChosenAt.both (hc:CmpOk c) (h:ChosenAt c l b r s o i k out) (hs:Asc c s) (ho:Asc c o) (hi:i < s.length) (hk:k < o.length) (h0:c (nth s i) (nth o k)=0) :
 ChosenAt c l b r s o (i + 1) (k + 1) (if b then out ++ [nth s i] else out):=by
 have h0':=hc.zero_symm h0
 have hin:isIn c (nth s i) o=true:=isIn_iff.2 ⟨_,nth_mem hk,h0'⟩
 have hin2:isIn c (nth o k) s=true:=isIn_iff.2 ⟨_,nth_mem hi,h0⟩
 have hw:want c l b o (nth s i)=b:=by unfold want;rw [hin];rfl
 refine ⟨hi,hk,fun t u ht hu hu2=>?_,fun t u ht ht2 hu=>?_,?_,fun z=>?_,?_⟩
 ·by_cases e:t=i
  ·subst e;exact hc.zero_lt h0 (nth_asc ho (by omega) hu2)
  ·exact h.c1 t u (by omega) (by omega) hu2
 ·by_cases e:u=k
  ·subst e;exact hc.zero_lt h0' (nth_asc hs (by omega) ht2)
  ·exact h.c2 t u (by omega) ht2 (by omega)
 ·split
  ·exact asc_snoc h.asc (h.before1 hs hi)
  ·exact h.asc
 ·have e1:(∃ t,t < i + 1∧nth s t=z∧want c l b o z=true) ↔ (∃ t,t < i∧nth s t=z∧want c l b o z=true) ∨ (nth s i=z∧b=true):=by
   constructor
   ·rintro ⟨t,ht,e,hz⟩
    by_cases e2:t=i
    ·subst e2;right;refine ⟨e,?_⟩;rw [← e,hw] at hz;exact hz
    ·left;exact ⟨t,by omega,e,hz⟩
   ·rintro (⟨t,ht,e,hz⟩ | ⟨e,hz⟩)
    ·exact ⟨t,by omega,e,hz⟩
    ·exact ⟨i,by omega,e,by rw [← e,hw];exact hz⟩
  have e2:(∃ u,u < k + 1∧nth o u=z∧isIn c z s=false∧r=true) ↔ (∃ u,u < k∧nth o u=z∧isIn c z s=false∧r=true):=by
   constructor
   ·rintro ⟨t,ht,e,hz⟩
    by_cases e2:t=k
    ·subst e2;rw [← e,hin2] at hz;exact absurd hz.1 (by simp)
    ·exact ⟨t,by omega,e,hz⟩
   ·rintro ⟨t,ht,e,hz⟩
    exact ⟨t,by omega,e,hz⟩
  rw [e1,e2]
  cases b
  ·simp [h.mem z]
  ·simp only [if_true,List.mem_append,List.mem_singleton,h.mem z,and_true]
   constructor
   ·rintro ((h1 | h1) | h1)
    ·exact .inl (.inl h1)
    ·exact .inr h1
    ·exact .inl (.inr h1.symm)
   ·rintro ((h1 | h1) | h1)
    ·exact .inl (.inl h1)
    ·exact .inr h1.symm
    ·exact .inl (.inr h1)
 ·have:=h.len;split <;> (simp;omega)
end
end
end Go.Proofs.YtgbmnlmnhbkdbaaGreat
