/- Joined by program out of: Heap, Pop, Srt, Queue. What each says stands at its own head. -/
import Derived.Test.YtgbmnlmnhbkdbaaGreatJ5
import Derived.IntWalk
import Derived.BigRegion
import Derived.StillTailTactics
import Derived.ArgAppend
set_option linter.unusedVariables false
set_option linter.unusedSimpArgs false
/- dag.heap's push and pop, walked: what is in it, in whatever order. Conditions: the heap's cell and its row are the call's own. -/
namespace Go.Proofs.YtgbmnlmnhbkdbaaGreat
open Go.RowKit

theorem eiHeap:EI Tryz.prog 109 3 (.int .i64 0) 8:=.mk' Tryz.underlying109 (by kernel_rfl) rfl (by omega)

set_option maxRecDepth 100000 in
set_option maxHeartbeats 1600000 in
theorem push_any (hb:Nat) (A:Option Addr) (m c:Nat) (L:List Nat) (x:Nat) (w:World) (h1:RowC w hb 109 [.slice A m c]) (h2:OwnR eN w (hb + 1) 3 A m c L) (hm:(m + 1) * 8≤140737488355328) :
 Calls Tryz.prog 73 #[.pointer (some ⟨hb,0,none⟩),.int .i64 (x:Int)] w fun e w'=>∃ A' c' L',e=.returned (.tuple #[])∧RowC w' hb 109 [.slice A' (m + 1) c']∧OwnR eN w' (hb + 1) 3 A' (m + 1) c' L'∧L'.Perm (x :: L) ∧
  Turn w w' (fun b=>b=hb ∨ A=some ⟨b,0,none⟩)∧∀ b,A'=some ⟨b,0,none⟩→A=some ⟨b,0,none⟩ ∨ w.heap.size≤b:=by
 obtain ⟨wa,hwa⟩:∃ wa:World,wa=w:=⟨_,rfl⟩
 subst hwa
 have r0:=h1.cell 0
 have hlt:=h1.lt
 have hos:=h2.alloc (.cells #[.int .i64 (x:Int)] 3)
 have HH:=Lib.hid (And.intro h1 h2);clear h1 h2
 go_enter Tryz.func73,Tryz.ntmps73
 go_wp2_with (first
  | (at_builtin;refine wpList_app _ eiHeap eN one_eN rfl _ _ rfl (hb + 1) _ _ _ _ rfl hos _ _ _ _ rfl (Sl.one (enc:=eN) _ _ _) (by omega) (by simp;omega) ?_)
  | fail)
 intro A9 c9 w9 ho9 hg9 _ hd9
 have hne:∀ g,A=some ⟨g,0,none⟩→hb < g:=fun g e=>by
  rcases HH.out.2.at_row with h1 | ⟨g',h1,h2,_⟩
  ·rw [e] at h1;cases h1
  ·rw [e] at h1;injection h1 with h1;injection h1 with h1;omega
 have hob:(Value.slice A m c).ownBlock ≠ some hb:=fun e=>by
  rcases HH.out.2.at_row with h1 | ⟨g',h1,h2,_⟩
  ·rw [h1] at e;cases e
  ·rw [h1] at e;injection e with e;have:=hne g' h1;have e':g'=hb:=e;omega
 have hT:Turn wa w9 (fun b=>b=hb ∨ A=some ⟨b,0,none⟩):=((Turn.refl wa _).alloc (.cells #[.int .i64 (x:Int)] 3)).trans (Turn.of_grown hg9) fun b _ e=>by
  rcases HH.out.2.at_row with h1 | ⟨g',h1,h2,_⟩
  ·rw [h1] at e;cases e
  ·rw [h1] at e;injection e with e;right;have e':g'=b:=e;rw [h1,e']
 have hC:RowC w9 hb 109 [.slice A m c]:=(HH.out.1.alloc _).grown hg9 fun e=>hob e.symm
 have r9:=hC.cell 0
 have f9:=hC.frozen 0
 have hC2:=hC.put 0 (.slice A9 (m + 1) c9)
 have hT2:=hT.setCell ⟨hb,0,none⟩ (fun _=>.inl rfl) (.slice A9 (m + 1) c9)
 obtain ⟨g,rest,hA9,hbg,hr9,hcr⟩:=ho9.row (by omega)
 have hr10:RowAt eN (w9.setCell ⟨hb,0,none⟩ (.slice A9 (m + 1) c9)) g 3 (L ++ [x]) rest:=hr9.far (by simp;omega) _
 have hA:∀ b,A9=some ⟨b,0,none⟩→A=some ⟨b,0,none⟩ ∨ wa.heap.size≤b:=fun b e=>by
  have h2:(Value.slice A9 (m + 1) c9).ownBlock=some b:=by rw [e];rfl
  rcases hd9 with hd | hd
  ·rw [h2] at hd
   rcases HH.out.2.at_row with h1 | ⟨g',h1,_⟩
   ·rw [h1] at hd;cases hd
   ·rw [h1] at hd;injection hd with hd;left;have e':g'=b:=hd.symm;rw [h1,e']
  ·rw [h2] at hd;injection hd with hd;right;rw [hd];simp
 have hl9:=ho9.length
 have hcap:=ho9.capmax
 have H9:=Lib.hid (And.intro hC2 (And.intro hT2 (And.intro hr10 (And.intro hA (And.intro hcr (And.intro hcap hl9))))));clear hC hT hC2 hT2 hr9 hr10 hA hcr hcap hl9 hg9 hd9 ho9 hob hne
 subst hA9
 go_wp2_with fail
 generalize w9.setCell ⟨hb,0,none⟩ (.slice (some ⟨g,0,none⟩) (m + 1) c9)=wx at *
 clear r9 f9 r0
 go_loopw [4] (fun i wr=>∃ (k:Nat) (L':List Nat),i=.int .i64 (k:Nat)∧k≤m∧L'.length=m + 1∧L'.Perm (L ++ [x])∧RowC wr hb 109 [.slice (some ⟨g,0,none⟩) (m + 1) c9]∧RowAt eN wr g 3 L' rest∧Turn wa wr (fun b=>b=hb ∨ A=some ⟨b,0,none⟩)) (fun i _=>(intOf i).toNat)
 case atStart=>exact ⟨m,L ++ [x],by go_num,Nat.le_refl _,H9.out.2.2.2.2.2.2,List.Perm.refl _,H9.out.1,H9.out.2.2.1,H9.out.2.1⟩
 case round =>
  obtain ⟨k,L',rfl,hk,hlen,hperm,hrc,hra,hturn⟩:=hrel
  obtain ⟨wb,hwb⟩:∃ wb:World,wb=wr:=⟨_,rfl⟩
  subst hwb
  have r0:=hrc.cell 0
  have HL:=Lib.hid (And.intro hlen (And.intro hperm (And.intro hrc (And.intro hra hturn))));clear hlen hperm hrc hturn
  by_cases hk0:k=0
  ·subst hk0
   have q5:decide ((0:Int) < ((0:Nat):Int))=false:=by decide
   have q6:decide (0 < (0:Nat))=false:=by decide
   clear hra
   go_wp2_with fail
   go_quiet (fail)
   go_wp2_with fail
   go_end0
   obtain ⟨hr1,hr2,hr3,hr4,hr5⟩:=HL.out
   refine ⟨_,_,L',rfl,hr3,OwnR.of_row' hr4 hbg (by rw [hr1];exact H9.out.2.2.2.2.1) H9.out.2.2.2.2.2.1 hr1,hr2.trans List.perm_append_comm,hr5.drewN _,H9.out.2.2.2.1⟩
  ·have q1:(0:Int)≤(k:Nat):=by omega
   have q2:((k:Nat):Int) < ((m:Nat):Int) + 1:=by omega
   have q3:(0:Int)≤((k:Nat):Int) - 1:=by omega
   have q4:(0:Int)≤(((k:Nat):Int) - 1) / 2:=by omega
   have q5:(((k:Nat):Int) - 1) / 2 < ((m:Nat):Int) + 1:=by omega
   have q6:((((k:Nat):Int) - 1) / 2).toNat=(k - 1) / 2:=by omega
   have q7:decide ((0:Int) < ((k:Nat):Int))=true:=by simp;omega
   have q8:decide (0 < k)=true:=by simp;omega
   have g1:=hra.cell (j:=k) (by rw [HL.out.1];omega)
   have g2:=hra.cell (j:=(k - 1) / 2) (by rw [HL.out.1];omega)
   have f1:=hra.frozen k
   have f2:=hra.frozen ((k - 1) / 2)
   clear hra
   generalize hs:nth L' k=s at *
   generalize ht:nth L' ((k - 1) / 2)=t at *
   have HE:=Lib.hid (And.intro hs ht);clear hs ht
   by_cases hst:s < t
   ·have hst':decide ((s:Int) < (t:Int))=true:=by simp;omega
    go_wp2_with fail
    go_quiet (fail)
    go_wp2_with fail
    generalize hwq:wb.drewN _=wq
    have r0':wq.cell? ⟨hb,0,none⟩=some (.slice (some ⟨g,0,none⟩) (m + 1) c9):=by rw [← hwq];exact r0
    have g1':wq.cell? ⟨g,k,none⟩=some (.int .i64 (s:Int)):=by rw [← hwq];exact g1
    have g2':wq.cell? ⟨g,(k - 1) / 2,none⟩=some (.int .i64 (t:Int)):=by rw [← hwq];exact g2
    have f1':wq.frozen? ⟨g,k,none⟩=false:=by rw [← hwq];exact f1
    have f2':wq.frozen? ⟨g,(k - 1) / 2,none⟩=false:=by rw [← hwq];exact f2
    have HW:=Lib.hid hwq;clear hwq r0 g1 g2 f1 f2
    go_region
    go_wp2_with fail
    obtain ⟨hr1,hr2,hr3,hr4,hr5⟩:=HL.out
    have hr4':RowAt eN wq g 3 L' rest:=by rw [← HW.out];exact hr4
    have hr3':RowC wq hb 109 [.slice (some ⟨g,0,none⟩) (m + 1) c9]:=by rw [← HW.out];exact hr3
    have hr5':Turn wa wq (fun b=>b=hb ∨ A=some ⟨b,0,none⟩):=by rw [← HW.out];exact hr5.drewN _
    have hSg:g < wa.heap.size→(g=hb ∨ A=some ⟨g,0,none⟩):=fun hlt=>by
     rcases H9.out.2.2.2.1 g rfl with h1 | h1
     ·exact .inr h1
     ·omega
    have hw1:=(hr4'.set (j:=k) (by rw [hr1];omega) t).set (j:=(k - 1) / 2) (by simp;omega) s
    refine ⟨⟨(k - 1) / 2,swapL L' k ((k - 1) / 2),by congr 1;omega,by omega,by rw [swapL_length];exact hr1,(swapL_perm (by omega) (by omega)).trans hr2,?_,?_,?_⟩,by simp [intOf];omega⟩
    ·exact (hr3'.far (by simp;omega) _).far (by simp;omega) _
    ·unfold swapL;rw [HE.out.1,HE.out.2];exact hw1
    ·exact (hr5'.setCell _ hSg _).setCell _ hSg _ |>.drew
   ·have hst':decide ((s:Int) < (t:Int))=false:=by simp;omega
    go_wp2_with fail
    go_quiet (fail)
    go_wp2_with fail
    go_end0
    obtain ⟨hr1,hr2,hr3,hr4,hr5⟩:=HL.out
    refine ⟨_,_,L',rfl,hr3,OwnR.of_row' hr4 hbg (by rw [hr1];exact H9.out.2.2.2.2.1) H9.out.2.2.2.2.2.1 hr1,hr2.trans List.perm_append_comm,hr5.drewN _,H9.out.2.2.2.1⟩
end Go.Proofs.YtgbmnlmnhbkdbaaGreat
/- dag.heap's pop, walked. Conditions: the heap's cell and its row are the call's own; there is something in it. -/
namespace Go.Proofs.YtgbmnlmnhbkdbaaGreat
open Go.RowKit

theorem pop_perm {L:List Nat} {m:Nat} (h:L.length=m + 1):L.Perm (nth L 0 :: (L.set 0 (nth L m)).take m):=by
 cases L with
 | nil=>simp at h
 | cons x T =>
   have hT:T.length=m:=by simpa using h
   have e0:nth (x :: T) 0=x:=rfl
   rw [e0,List.set_cons_zero]
   cases m with
   | zero=>obtain rfl:=List.eq_nil_of_length_eq_zero hT;simp
   | succ k =>
     have e1:nth (x :: T) (k + 1)=nth T k:=rfl
     rw [e1,List.take_succ_cons]
     refine List.Perm.cons _ ?_
     have h2:=take_snoc (xs:=T) (k:=k) (by omega)
     rw [List.take_of_length_le (by omega)] at h2
     exact (List.Perm.of_eq h2).trans List.perm_append_comm
theorem index_arr0 (a b:Int) (w:World):(Instr.index 120 (.agg #[.int .i64 a,.int .i64 b]) (.int .i64 0)).run Tryz.prog w=.ok (.int .i64 a) w:=by kernel_rfl
theorem index_arr1 (a b:Int) (w:World):(Instr.index 120 (.agg #[.int .i64 a,.int .i64 b]) (.int .i64 1)).run Tryz.prog w=.ok (.int .i64 b) w:=by kernel_rfl
theorem take_swap_perm {M:List Nat} {i j m:Nat} (hi:i < m) (hj:j < m) (hm:m≤M.length):((swapL M i j).take m).Perm (M.take m):=by
 have h1:(swapL M i j).take m=swapL (M.take m) i j:=by
  unfold swapL
  rw [List.take_set,List.take_set,nth_take hj,nth_take hi]
 rw [h1]
 exact swapL_perm (by rw [List.length_take];omega) (by rw [List.length_take];omega)
theorem RowAt.shorter {w:World} {g:Nat} {e:TypeId} {M:List Nat} {rest:List Value} (h:RowAt eN w g e M rest) (m:Nat):RowAt eN w g e (M.take m) ((M.drop m).map eN ++ rest):=by
 unfold RowAt at h ⊢
 rw [h,← List.append_assoc,← List.map_append,List.take_append_drop]

set_option maxRecDepth 100000 in
set_option maxHeartbeats 4000000 in
theorem pop_any (hb:Nat) (A:Option Addr) (m c:Nat) (L:List Nat) (w:World) (h1:RowC w hb 109 [.slice A (m + 1) c]) (h2:OwnR eN w (hb + 1) 3 A (m + 1) c L) (hm:(m + 1) * 8≤140737488355328) :
 Calls Tryz.prog 74 #[.pointer (some ⟨hb,0,none⟩)] w fun e w'=>∃ (x:Nat) (L':List Nat),e=.returned (.int .i64 (x:Int))∧RowC w' hb 109 [.slice A m c]∧OwnR eN w' (hb + 1) 3 A m c L'∧L.Perm (x :: L') ∧
  Turn w w' (fun b=>b=hb ∨ A=some ⟨b,0,none⟩):=by
 obtain ⟨wa,hwa⟩:∃ wa:World,wa=w:=⟨_,rfl⟩
 subst hwa
 have r0:=h1.cell 0
 have f0:=h1.frozen 0
 have hl:=h2.length
 have hcm:=h2.capmax
 obtain ⟨g,rest,rfl,hbg,hr,hcr⟩:=h2.row (by omega)
 have g0:=hr.cell (j:=0) (by omega)
 have gm:=hr.cell (j:=m) (by omega)
 have fg:=hr.frozen 0
 have hr2:=(hr.set (j:=0) (by omega) (nth L m)).far (p:=⟨hb,0,none⟩) (by simp;omega) (.slice (some ⟨g,0,none⟩) m c)
 have hC2:=(h1.far (p:=⟨g,0,none⟩) (by simp;omega) (eN (nth L m))).put 0 (.slice (some ⟨g,0,none⟩) m c)
 have hT2:Turn wa ((wa.setCell ⟨g,0,none⟩ (eN (nth L m))).setCell ⟨hb,0,none⟩ (.slice (some ⟨g,0,none⟩) m c)) (fun b=>b=hb ∨ (some ⟨g,0,none⟩:Option Addr)=some ⟨b,0,none⟩):=
  ((Turn.refl _ _).setCell _ (fun _=>.inr rfl) _).setCell _ (fun _=>.inl rfl) _
 have hcap:m≤c:=by omega
 have HH:=Lib.hid (And.intro hl (And.intro hr2 (And.intro hC2 (And.intro hT2 (And.intro hcr hcm)))));clear hl hr2 hC2 hT2 hr h1 h2 hcr hcm
 generalize hx0:nth L 0=x0 at *
 generalize hxm:nth L m=xm at *
 have HX:=Lib.hid (And.intro hx0 hxm);clear hx0 hxm
 have hgb:¬ hb=g:=by omega
 have hgb':¬ g=hb:=by omega
 have hi0:=index_arr0
 have hi1:=index_arr1
 go_enter Tryz.func74,Tryz.ntmps74
 go_wp2_with fail
 generalize (wa.setCell ⟨g,0,none⟩ (.int .i64 (xm:Int))).setCell ⟨hb,0,none⟩ (.slice (some ⟨g,0,none⟩) m c)=wx at *
 clear r0 f0 g0 gm fg
 go_loopw [6] (fun i wr=>∃ (k:Nat) (M:List Nat),i=.int .i64 (k:Nat)∧k≤m∧M.length=m + 1∧(M.take m).Perm ((L.set 0 xm).take m)∧RowC wr hb 109 [.slice (some ⟨g,0,none⟩) m c]∧RowAt eN wr g 3 M rest∧Turn wa wr (fun b=>b=hb ∨ (some ⟨g,0,none⟩:Option Addr)=some ⟨b,0,none⟩)) (fun i _=>m - (intOf i).toNat)
 case atStart=>exact ⟨0,L.set 0 xm,rfl,Nat.zero_le _,by simpa using HH.out.1,List.Perm.refl _,HH.out.2.2.1,HH.out.2.1,HH.out.2.2.2.1⟩
 case round =>
  obtain ⟨k,M,rfl,hk,hlen,hperm,hrc,hra,hturn⟩:=hrel
  obtain ⟨wb,hwb⟩:∃ wb:World,wb=wr:=⟨_,rfl⟩
  subst hwb
  have HL:=Lib.hid (And.intro hlen (And.intro hperm (And.intro hrc (And.intro hra hturn))));clear hlen hperm hrc hturn hra
  go_wp2_with fail
  go_loopw [7,38] (fun l j wr=>∃ (q s d:Nat),j=.int .i64 (q:Nat)∧l=.int .i64 (s:Nat)∧q≤2∧(s=k ∨ (k < s∧s < m))∧wr=wb.drewN d) (fun _ j _=>2 - (intOf j).toNat)
  case atStart=>exact ⟨0,k,0,rfl,rfl,by omega,.inl rfl,rfl⟩
  case round =>
   obtain ⟨q,s,d,rfl,rfl,hq,hs,hwr⟩:=hrel
   have hra:RowAt eN wr g 3 M rest:=by rw [hwr];exact HL.out.2.2.2.1.drewN d
   have HW:=Lib.hid hwr;clear hwr
   rcases (show q=0 ∨ q=1 ∨ q=2 from by omega) with rfl | rfl | rfl
   ·-- the child at 2 * k + 1
    by_cases hkm:2 * k + 1 < m
    ·have q1:(2 * (k:Nat) + 1:Int) < ((m:Nat):Int):=by omega
     have q2:decide ((2 * (k:Nat) + 1:Int) < ((m:Nat):Int))=true:=by simpa using q1
     have q3:(0:Int)≤(2 * (k:Nat) + 1:Int):=by omega
     have q4:(2 * (k:Nat) + 1:Int).toNat=2 * k + 1:=by omega
     have q5:((s:Nat):Int) < ((m:Nat):Int):=by omega
     have q6:(0:Int)≤((s:Nat):Int):=by omega
     have g1:=hra.cell (j:=2 * k + 1) (by rw [HL.out.1];omega)
     have g2:=hra.cell (j:=s) (by rw [HL.out.1];omega)
     clear hra
     generalize ht:nth M (2 * k + 1)=t at *
     generalize hu:nth M s=u at *
     by_cases htu:t < u
     ·have htu':decide ((t:Int) < (u:Int))=true:=by simp;omega
      go_wp2_with fail
      go_quiet (fail)
      go_wp2_with fail
      exact ⟨⟨0+1,2 * k + 1,d + nq,rfl,by go_num,by omega,.inr (by omega),by rw [HW.out,World.drewN_drewN]⟩,by simp [intOf]⟩
     ·have htu':decide ((t:Int) < (u:Int))=false:=by simp;omega
      go_wp2_with fail
      go_quiet (fail)
      go_wp2_with fail
      exact ⟨⟨0+1,s,d + nq,rfl,rfl,by omega,hs,by rw [HW.out,World.drewN_drewN]⟩,by simp [intOf]⟩
    ·have q2:decide ((2 * (k:Nat) + 1:Int) < ((m:Nat):Int))=false:=by simp;omega
     clear hra
     go_wp2_with fail
     go_quiet (fail)
     go_wp2_with fail
     exact ⟨⟨0+1,s,d + nq,rfl,rfl,by omega,hs,by rw [HW.out,World.drewN_drewN]⟩,by simp [intOf]⟩
   ·-- the child at 2 * k + 2
    by_cases hkm:2 * k + 2 < m
    ·have q1:(2 * (k:Nat) + 2:Int) < ((m:Nat):Int):=by omega
     have q2:decide ((2 * (k:Nat) + 2:Int) < ((m:Nat):Int))=true:=by simpa using q1
     have q3:(0:Int)≤(2 * (k:Nat) + 2:Int):=by omega
     have q4:(2 * (k:Nat) + 2:Int).toNat=2 * k + 2:=by omega
     have q5:((s:Nat):Int) < ((m:Nat):Int):=by omega
     have q6:(0:Int)≤((s:Nat):Int):=by omega
     have g1:=hra.cell (j:=2 * k + 2) (by rw [HL.out.1];omega)
     have g2:=hra.cell (j:=s) (by rw [HL.out.1];omega)
     clear hra
     generalize ht:nth M (2 * k + 2)=t at *
     generalize hu:nth M s=u at *
     by_cases htu:t < u
     ·have htu':decide ((t:Int) < (u:Int))=true:=by simp;omega
      go_wp2_with fail
      go_quiet (fail)
      go_wp2_with fail
      exact ⟨⟨1+1,2 * k + 2,d + nq,rfl,by go_num,by omega,.inr (by omega),by rw [HW.out,World.drewN_drewN]⟩,by simp [intOf]⟩
     ·have htu':decide ((t:Int) < (u:Int))=false:=by simp;omega
      go_wp2_with fail
      go_quiet (fail)
      go_wp2_with fail
      exact ⟨⟨1+1,s,d + nq,rfl,rfl,by omega,hs,by rw [HW.out,World.drewN_drewN]⟩,by simp [intOf]⟩
    ·have q2:decide ((2 * (k:Nat) + 2:Int) < ((m:Nat):Int))=false:=by simp;omega
     clear hra
     go_wp2_with fail
     go_quiet (fail)
     go_wp2_with fail
     exact ⟨⟨1+1,s,d + nq,rfl,rfl,by omega,hs,by rw [HW.out,World.drewN_drewN]⟩,by simp [intOf]⟩
   ·-- both looked at
    have hrc:RowC wr hb 109 [.slice (some ⟨g,0,none⟩) m c]:=by rw [HW.out];exact HL.out.2.2.1.drewN d
    have hturn:Turn wa wr (fun b=>b=hb ∨ (some ⟨g,0,none⟩:Option Addr)=some ⟨b,0,none⟩):=by rw [HW.out];exact HL.out.2.2.2.2.drewN d
    by_cases hsk:s=k
    ·subst hsk
     have HF:=Lib.hid (And.intro hrc (And.intro hturn hra));clear hrc hturn hra
     go_wp2_with fail
     go_ret
     have hlen:=HL.out.1
     have hcr:=HH.out.2.2.2.2.1
     refine ⟨x0,rfl,HF.out.1,M.take m,OwnR.of_row' (HF.out.2.2.shorter m) hbg (by simp;omega) HH.out.2.2.2.2.2 (by simp;omega),?_,by simpa using HF.out.2.1⟩
     have hp:=pop_perm HH.out.1
     rw [HX.out.1,HX.out.2] at hp
     exact hp.trans (List.Perm.cons _ HL.out.2.1.symm)
    ·have hks:k < s∧s < m:=by omega
     have hsk':¬ ((s:Nat):Int)=((k:Nat):Int):=by omega
     have q5:((s:Nat):Int) < ((m:Nat):Int):=by omega
     have q7:((k:Nat):Int) < ((m:Nat):Int):=by omega
     have hlen:=HL.out.1
     have g1:=hra.cell (j:=k) (by omega)
     have g2:=hra.cell (j:=s) (by omega)
     have f1:=hra.frozen k
     have f2:=hra.frozen s
     have HF:=Lib.hid (And.intro hrc (And.intro hturn (And.intro hra hlen)));clear hrc hturn hra hlen
     generalize ht:nth M k=t at *
     generalize hu:nth M s=u at *
     have HE:=Lib.hid (And.intro ht hu);clear ht hu
     go_wp2_with fail
     go_region
     go_wp2_with fail
     obtain ⟨h1,h2,h3,h4⟩:=HF.out
     have hw1:=(h3.set (j:=k) (by omega) u).set (j:=s) (by simp;omega) t
     refine ⟨⟨s,swapL M k s,rfl,by omega,by rw [swapL_length];exact h4,(take_swap_perm (by omega) (by omega) (by omega)).trans HL.out.2.1,?_,?_,?_⟩,by simp [intOf];omega⟩
     ·exact (h1.far (by simp;omega) _).far (by simp;omega) _
     ·unfold swapL;rw [HE.out.1,HE.out.2];exact hw1
     ·exact (h2.setCell _ (fun _=>.inr rfl) _).setCell _ (fun _=>.inr rfl) _ |>.drew
end Go.Proofs.YtgbmnlmnhbkdbaaGreat
/- dag.sorted, walked: the points one by one, each behind its parents, as far as it goes. Conditions: the parents and the children read; parents are points, none twice. -/
namespace Go.Proofs.YtgbmnlmnhbkdbaaGreat
open Go.RowKit

structure KSrt (wa wr:World) (gl hb n:Nat) (lf:List Nat) (A:Option Addr) (m c:Nat) (H:List Nat) (Ao:Option Addr) (ko co:Nat) (L:List Nat):Prop where
 lrow:RowAt eN wr gl 3 lf []
 llen:lf.length=n
 hc:RowC wr hb 109 [.slice A m c]
 ho:OwnR eN wr (hb + 1) 3 A m c H
 oo:OwnR eN wr (hb + 1) 3 Ao ko co L
 far:∀ b,A=some ⟨b,0,none⟩→Ao ≠ some ⟨b,0,none⟩
 bel:Below gl wa wr
 lt:gl < hb
section
variable {wa wr w':World} {gl hb n m c ko co:Nat} {lf H L:List Nat} {A Ao:Option Addr}
theorem KSrt.hrow (h:KSrt wa wr gl hb n lf A m c H Ao ko co L) {b:Nat} (e:A=some ⟨b,0,none⟩):hb < b∧b < wr.heap.size:=by
 rcases h.ho.at_row with h1 | ⟨g',h1,h2,h3⟩
 ·rw [e] at h1;cases h1
 ·rw [e] at h1;injection h1 with h1;injection h1 with h1;omega
theorem KSrt.orow (h:KSrt wa wr gl hb n lf A m c H Ao ko co L) {b:Nat} (e:Ao=some ⟨b,0,none⟩):hb < b∧b < wr.heap.size:=by
 rcases h.oo.at_row with h1 | ⟨g',h1,h2,h3⟩
 ·rw [e] at h1;cases h1
 ·rw [e] at h1;injection h1 with h1;injection h1 with h1;omega
theorem KSrt.heaped (h:KSrt wa wr gl hb n lf A m c H Ao ko co L) {A':Option Addr} {m' c':Nat} {H':List Nat} (h1:RowC w' hb 109 [.slice A' m' c']) (h2:OwnR eN w' (hb + 1) 3 A' m' c' H') (ht:Turn wr w' (fun b=>b=hb ∨ A=some ⟨b,0,none⟩))
 (hA:∀ b,A'=some ⟨b,0,none⟩→A=some ⟨b,0,none⟩ ∨ wr.heap.size≤b):KSrt wa w' gl hb n lf A' m' c' H' Ao ko co L:=by
 have hlt:=h.lt
 have hnS:¬ (gl=hb ∨ A=some ⟨gl,0,none⟩):=by
  rintro (e | e)
  ·omega
  ·have:=(h.hrow e).1;omega
 refine ⟨h.lrow.turn ht hnS,h.llen,h1,h2,h.oo.turn ht ?_,fun b e1 e2=>?_,h.bel.trans (ht.below (Nat.le_of_lt h.lrow.lt) fun x hx=>?_),hlt⟩
 ·rintro g e (e2 | e2)
  ·have:=(h.orow e).1;omega
  ·exact h.far g e2 e
 ·rcases hA b e1 with e | e
  ·exact h.far b e e2
  ·have:=(h.orow e2).2;omega
 ·rintro (e | e)
  ·omega
  ·have:=(h.hrow e).1;omega
theorem KSrt.put (h:KSrt wa wr gl hb n lf A m c H Ao ko co L) {j:Nat} (hj:j < n) (v:Nat):KSrt wa (wr.setCell ⟨gl,j,none⟩ (.int .i64 (v:Int))) gl hb n (lf.set j v) A m c H Ao ko co L:=by
 have hlt:=h.lt
 exact ⟨h.lrow.set (by rw [h.llen];exact hj) v,by simpa using h.llen,h.hc.far (by simp;omega) _,h.ho.setFar (fun b e=>by have:=(h.hrow e).1;simp;omega) _,h.oo.setFar (fun b e=>by have:=(h.orow e).1;simp;omega) _,h.far,h.bel.setCell (p:=⟨gl,j,none⟩) (Nat.le_refl _) _,hlt⟩
theorem KSrt.out (h:KSrt wa wr gl hb n lf A m c H Ao ko co L) {A':Option Addr} {k' c':Nat} {L':List Nat} (o:Obj) (h2:OwnR eN w' (hb + 1) 3 A' k' c' L') (hg:(wr.alloc o).grownBy w' (Value.slice Ao ko co).ownBlock)
 (hd:(Value.slice A' k' c').ownBlock=(Value.slice Ao ko co).ownBlock ∨ ∃ b,(Value.slice A' k' c').ownBlock=some b∧wr.heap.size≤b):KSrt wa w' gl hb n lf A m c H A' k' c' L':=by
 have hlt:=h.lt
 have hob:∀ b,(Value.slice Ao ko co).ownBlock=some b→Ao=some ⟨b,0,none⟩:=fun b e=>by
  rcases h.oo.at_row with h1 | ⟨g',h1,_⟩
  ·rw [h1] at e;cases e
  ·rw [h1] at e ⊢;injection e with e;rw [← e]
 have hne:∀ b,b≤hb→some b ≠ (Value.slice Ao ko co).ownBlock:=fun b hb e=>by
  have:=(h.orow (hob b e.symm)).1;omega
 refine ⟨(h.lrow.alloc o).grown hg (hne gl (by omega)),h.llen,(h.hc.alloc o).grown hg (hne hb (Nat.le_refl _)),(h.ho.alloc o).grown hg ?_,h2,fun b e1 e2=>?_,(h.bel.alloc (Nat.le_of_lt h.lrow.lt) o).grown hg (by have:=h.lrow.lt;simp;omega) ?_,hlt⟩
 ·intro g e e2
  exact h.far g e (hob g e2)
 ·have h3:(Value.slice A' k' c').ownBlock=some b:=by rw [e2];rfl
  rcases hd with hd | hd
  ·rw [h3] at hd;exact h.far b e1 (hob b hd.symm)
  ·obtain ⟨b',hd,hle⟩:=hd
   rw [h3] at hd;injection hd with hd;have:=(h.hrow e1).2;omega
 ·intro k e
  have:=(h.orow (hob k e)).1;omega
end
def slLen:Value→Nat
 | .slice _ k _=>k
 | _=>0

def SrtPost (wa:World) (_:Nat) (G:List (List Nat)) (e:Ending) (w':World):Prop:=
 ∃ C k d L,e=.returned (.slice C k d)∧Sl eN w' C k L∧Kahn G L∧(∀ i,i < G.length→i ∉ L→∃ p,p ∈ nth G i∧p ∉ L)∧Below wa.heap.size wa w'
def rootsTo (G:List (List Nat)) (k:Nat):List Nat:=(List.range k).filter fun j=>(nth G j).length == 0
theorem rootsTo_succ (G:List (List Nat)) (k:Nat):rootsTo G (k + 1)=rootsTo G k ++ if (nth G k).length=0 then [k] else []:=by
 unfold rootsTo;rw [List.range_succ,List.filter_append];congr 1
 by_cases h:(nth G k).length=0 <;> simp [h]
theorem rootsTo_length (G:List (List Nat)) (k:Nat):(rootsTo G k).length≤k:=by
 unfold rootsTo;have:=List.length_filter_le (fun j=>(nth G j).length == 0) (List.range k);simpa using this
def lenTo (G:List (List Nat)) (n k:Nat):List Nat:=(List.range n).map fun j=>if j < k then (nth G j).length else 0
theorem lenTo_zero (G:List (List Nat)) (n:Nat):lenTo G n 0=List.replicate n 0:=by
 unfold lenTo
 apply List.ext_getElem
 ·simp
 ·intro i h1 h2;simp
theorem lenTo_succ (G:List (List Nat)) (n k:Nat):(lenTo G n k).set k (nth G k).length=lenTo G n (k + 1):=by
 unfold lenTo
 apply List.ext_getElem
 ·simp
 ·intro i h1 h2
  rw [List.getElem_set]
  simp only [List.getElem_map,List.getElem_range]
  by_cases h:k=i
  ·subst h;simp
  ·rw [if_neg h]
   by_cases h3:i < k
   ·rw [if_pos h3,if_pos (by omega)]
   ·rw [if_neg h3,if_neg (by omega)]
theorem nth_lenTo {G:List (List Nat)} {n k j:Nat} (h:j < n):nth (lenTo G n k) j=if j < k then (nth G j).length else 0:=by
 unfold lenTo;rw [nth_map _ (by simpa using h),nth_eq (by simpa using h)];simp

set_option maxRecDepth 100000 in
set_option maxHeartbeats 4000000 in
theorem sorted_any (A B:Option Addr) (n c d:Nat) (G:List (List Nat)) (w:World) (h:Rows eN w A n G) (hk:Rows eN w B n (kids G)) (hg:GoodG G) (hd:∀ i,i < n→(nth G i).Nodup) (hn:n * 24≤140737488351232) :
 Calls Tryz.prog 51 #[.slice A n c,.slice B n d] w (SrtPost w n G):=by
 have HI:=Lib.hid (And.intro h.len (And.intro hg hd));clear hg hd
 obtain ⟨wa,hwa⟩:∃ wa:World,wa=w:=⟨_,rfl⟩
 subst hwa
 go_enter Tryz.func51,Tryz.ntmps51
 go_wp2_with (first
  | (with_reducible refine wpList_mk _ eiInt eN 0 rfl rfl _ _ rfl n rfl rfl (by omega) ?_)
  | fail)
 intro w1 hrow1 hb1
 have hlt1:=hrow1.lt
 have hS:KSrt wa (w1.alloc (.cells #[.slice none 0 0] 109)) wa.heap.size w1.heap.size n (lenTo G n 0) none 0 0 (rootsTo G 0) none 0 0 []:=
  ⟨by rw [lenTo_zero];exact hrow1.alloc _,by simp [lenTo],RowC.new _ _ _,OwnR.nil _ _ _ _,OwnR.nil _ _ _ _,fun b e=>(by cases e),hb1.alloc (Nat.le_of_lt hlt1) _,hlt1⟩
 have HS:=Lib.hid hS;clear hS hrow1 hb1 hlt1
 go_wp2_with fail
 generalize w1.alloc (.cells #[.slice none 0 0] 109)=wx at *
 generalize hgl:wa.heap.size=gl at *
 generalize w1.heap.size=hb at *
 go_loopw [18] (fun i wr=>∃ (k m c:Nat) (A:Option Addr) (H:List Nat),i=.int .i64 (k:Nat)∧k≤n∧KSrt wa wr gl hb n (lenTo G n k) A m c H none 0 0 []∧H.Perm (rootsTo G k)) (fun i _=>n - (intOf i).toNat)
 case atStart=>exact ⟨0,0,0,none,[],rfl,Nat.zero_le _,HS.out,List.Perm.refl _⟩
 case round =>
  obtain ⟨k,m,c1,A1,H,rfl,hk1,hsrt,hperm⟩:=hrel
  obtain ⟨wb,hwb⟩:∃ wb:World,wb=wr:=⟨_,rfl⟩
  subst hwb
  by_cases hlt:k < n
  ·obtain ⟨b,off,B2,m2,d2,rfl,hbs,g0,hrow⟩:=h.row hlt
   have g1:=((keeps hsrt.bel).1 b (off + k) (by omega)).trans g0
   have hbm:=hrow.big
   have f1:=hsrt.lrow.frozen k
   have c1':=hsrt.lrow.cell (j:=k) (by rw [hsrt.llen];exact hlt)
   have hput:=hsrt.put hlt m2
   have e2:m2=(nth G k).length:=hrow.len.symm
   have hp2:KSrt wa (wb.setCell ⟨gl,k,none⟩ (.int .i64 (m2:Int))) gl hb n (lenTo G n (k + 1)) A1 m c1 H none 0 0 []:=by
    rw [← lenTo_succ,← e2];exact hput
   have hml:m≤k:=by have h1:=hp2.ho.length;have h2:=hperm.length_eq;have h3:=rootsTo_length G k;omega
   have hrt:=rootsTo_succ G k
   have HP:=Lib.hid (And.intro hp2 (And.intro hperm (And.intro hrt e2)));clear hp2 hput hperm hrt hsrt hrow g0 e2
   by_cases hz:m2=0
   ·subst hz
    go_wp2_with fail
    refine (push_any hb A1 m c1 H k _ HP.out.1.hc HP.out.1.ho (by omega)).mono ?_
    rintro e w3 ⟨A',c',H',rfl,p1,p2,p3,p4,p5⟩
    have hs3:=HP.out.1.heaped p1 p2 p4 p5
    have hpm:H'.Perm (rootsTo G (k + 1)):=by
     rw [HP.out.2.2.1,if_pos HP.out.2.2.2.symm]
     exact p3.trans ((List.Perm.cons _ HP.out.2.1).trans (List.perm_append_comm (l₁:=[k])))
    have H3:=Lib.hid (And.intro hs3 hpm);clear hs3 hpm p1 p2 p3 p4 p5 c1' f1
    go_wp2_with fail
    exact ⟨⟨k + 1,m + 1,c',A',H',by go_num,by omega,H3.out.1,H3.out.2⟩,by simp [intOf];omega⟩
   ·have hz':¬ ((m2:Nat):Int)=0:=by omega
    have hpm:H.Perm (rootsTo G (k + 1)):=by
     rw [HP.out.2.2.1,if_neg (by rw [← HP.out.2.2.2];exact hz),List.append_nil]
     exact HP.out.2.1
    have H3:=Lib.hid hpm;clear hpm
    go_wp2_with fail
    exact ⟨⟨k + 1,m,c1,A1,H,by go_num,by omega,HP.out.1,H3.out⟩,by simp [intOf];omega⟩
  ·obtain rfl:k=n:=by omega
   have hR0:Ready G [] H (cntOut G []):=Ready.start (hperm.nodup_iff.2 (by unfold rootsTo;exact List.nodup_range.filter _)) (fun x=>by rw [hperm.mem_iff];unfold rootsTo;rw [List.mem_filter,List.mem_range,HI.out.1];simp)
   have hL0:∀ x,x < k→nth (lenTo G k k) x=cntOut G [] x:=fun x hx=>by rw [nth_lenTo hx,if_pos hx,cntOut_nil]
   have H0:=Lib.hid (And.intro hsrt (And.intro hR0 hL0));clear hsrt hperm hR0 hL0
   go_wp2_with fail
   go_loopw [9] (fun o wr=>∃ (m c ko co:Nat) (A Ao:Option Addr) (H L lf:List Nat),o=.slice Ao ko co∧KSrt wa wr gl hb k lf A m c H Ao ko co L∧Kahn G L∧Ready G L H (cntOut G L)∧∀ x,x < k→nth lf x=cntOut G L x) (fun o _=>k - slLen o)
   case atStart=>exact ⟨m,c1,0,0,A1,none,H,[],lenTo G k k,rfl,H0.out.1,Kahn.nil G,H0.out.2.1,H0.out.2.2⟩
   case round =>
    obtain ⟨m1,c2,ko,co,A2,Ao,H1,L,lf,rfl,hsrt,hkahn,hready,hlf⟩:=hrel
    obtain ⟨wc,hwc⟩:∃ wc:World,wc=wr:=⟨_,rfl⟩
    subst hwc
    have r0:=hsrt.hc.cell 0
    have hkol:=hsrt.oo.length
    have hLle:=hkahn.length_le
    have hH1:=hsrt.ho.length
    have hHle:H1.length≤G.length:=nodup_lt_length hready.nodup fun x hx=>((hready.mem x).1 hx).1
    rw [HI.out.1] at hLle hHle
    have hm1:m1≤k:=by omega
    have hko1:ko≤k:=by omega
    by_cases hm0:m1=0
    ·subst hm0
     obtain rfl:H1=[]:=List.eq_nil_of_length_eq_zero hH1
     have hfin:SrtPost wa k G (.returned (.slice Ao ko co)) wc:=⟨Ao,ko,co,L,rfl,hsrt.oo.sl (by omega),hkahn,fun i hi hn=>hready.stuck hi hn,by rw [hgl];exact hsrt.bel⟩
     have HF:=Lib.hid hfin;clear hfin hsrt hkahn hready hlf
     go_wp2_with fail
     go_ret
     exact HF.out
    ·obtain ⟨m,rfl⟩:∃ m,m1=m + 1:=⟨m1 - 1,by omega⟩
     have HA:=Lib.hid (And.intro hsrt (And.intro hkahn (And.intro hready (And.intro hlf (And.intro hkol hH1)))));clear hsrt hkahn hready hlf hkol hH1 hLle hHle
     go_wp2_with fail
     refine (pop_any hb A2 m c2 H1 _ HA.out.1.hc HA.out.1.ho (by omega)).mono ?_
     rintro e w3 ⟨p,H2,rfl,p1,p2,p3,p4⟩
     have hs3:=HA.out.1.heaped p1 p2 p4 (fun b e=>.inl e)
     obtain ⟨q1,q2,q3,q4,q5,q6⟩:=HA.out.2.2.1.pop HA.out.2.1 (fun i hi=>HI.out.2.2 i (by rw [← HI.out.1];exact hi)) p3
     have hpk:p < k:=by rw [← HI.out.1];exact q1
     have hos:=hs3.oo.alloc (.cells #[.int .i64 (p:Int)] 3)
     have hsz:=hs3.lrow.lt
     have hsz2:=hs3.hc.lt
     obtain ⟨b3,off3,B3,m3,d3,rfl,hbs3,g03,hrow3⟩:=hk.row hpk
     have hbm3:=hrow3.big
     have hD:(nth (kids G) p).length=m3:=hrow3.len
     have HB:=Lib.hid (And.intro hs3 (And.intro q2 (And.intro q4 (And.intro q5 (And.intro q6 (And.intro hrow3 (And.intro hD (And.intro q1 g03))))))));clear hs3 p1 p2 p3 p4 q1 q2 q3 q4 q5 q6 hrow3 g03 r0 hD
     go_wp2_with (first
      | (at_builtin;refine wpList_app _ eiInt eN one_eN rfl _ _ rfl (hb + 1) _ _ _ _ rfl hos _ _ _ _ rfl (Sl.one (enc:=eN) _ _ _) (by omega) (by simp;omega) ?_)
      | fail)
     intro A9 c9 w9 ho9 hg9 _ hd9
     have hs9:=HB.out.1.out _ ho9 hg9 (hd9.imp id fun e=>⟨_,e,by simp⟩)
     have g13:=((keeps hs9.bel).1 b3 (off3 + p) (by omega)).trans HB.out.2.2.2.2.2.2.2.2
     have hlf9:∀ x,x < k→nth lf x=lfAt G (L ++ [p]) (nth (kids G) p) 0 x:=fun x hx=>by
      rw [HA.out.2.2.2.1 x hx,lfAt_zero HB.out.2.2.2.2.2.2.2.1 (fun i hi=>HI.out.2.2 i (by rw [← HI.out.1];exact hi)) HB.out.2.1 (by rw [HI.out.1];exact hx)]
     have HC:=Lib.hid (And.intro hs9 hlf9);clear hs9 hlf9 ho9 hg9 hd9 hos
     go_wp2_with fail
     go_loopw [47] (fun i wr=>∃ (q m c:Nat) (A:Option Addr) (H lf:List Nat),i=.int .i64 (q:Nat)∧q≤m3∧KSrt wa wr gl hb k lf A m c H A9 (ko + 1) c9 (L ++ [p])∧Ready G (L ++ [p]) H (lfAt G (L ++ [p]) (nth (kids G) p) q)∧∀ x,x < k→nth lf x=lfAt G (L ++ [p]) (nth (kids G) p) q x) (fun i _=>m3 - (intOf i).toNat)
     case atStart=>exact ⟨0,m,c2,A2,H2,lf,rfl,Nat.zero_le _,HC.out.1,HB.out.2.2.2.1,HC.out.2⟩
     case round =>
      obtain ⟨q,m4,c4,A4,H4,lf4,rfl,hq,hsrt,hready,hlf⟩:=hrel
      obtain ⟨wd,hwd⟩:∃ wd:World,wd=wr:=⟨_,rfl⟩
      subst hwd
      by_cases hqm:q < m3
      ·obtain ⟨b5,off5,rfl,hb5,hc5⟩:=(HB.out.2.2.2.2.2.1.below (Nat.le_of_eq hgl) hsrt.bel).at' (by omega)
       have g5:=hc5 q hqm
       have hql:q < (nth (kids G) p).length:=by rw [HB.out.2.2.2.2.2.2.1];exact hqm
       have hnd:=kids_nodup HB.out.2.2.2.2.2.2.2.1
       have hchild:=HB.out.2.2.2.2.1 _ (nth_mem hql)
       have hself:=lfAt_self (G:=G) (L:=L ++ [p]) hql hnd
       have hoth:∀ x,x < k→nth (lf4.set (nth (nth (kids G) p) q) (lfAt G (L ++ [p]) (nth (kids G) p) (q + 1) (nth (nth (kids G) p) q))) x=lfAt G (L ++ [p]) (nth (kids G) p) (q + 1) x:=fun x hx=>by
        by_cases hxc:x=nth (nth (kids G) p) q
        ·rw [← hxc,nth_set_same (by rw [hsrt.llen];exact hx)]
        ·rw [nth_set_other (fun e=>hxc e.symm),hlf x hx,lfAt_other hql hxc]
       have hcv:=hlf (nth (nth (kids G) p) q) (by rw [← HI.out.1];exact hchild.1)
       have hbd:lfAt G (L ++ [p]) (nth (kids G) p) (q + 1) (nth (nth (kids G) p) q)≤140737488351232 + 1:=by
        have h1:=cntOut_le G (L ++ [p]) (nth (nth (kids G) p) q)
        have h2:=h.row (i:=nth (nth (kids G) p) q) (by rw [← HI.out.1];exact hchild.1)
        obtain ⟨_,_,_,m6,_,_,_,_,h3⟩:=h2
        have h4:=h3.len;have h5:=h3.big
        unfold lfAt
        split <;> omega
       have hpushR:=fun H' h0 hp=>hready.push (H':=H') hql hnd hchild.1 hchild.2 h0 hp
       have hpassR:=fun h0=>hready.pass hql hnd h0
       have hm4:m4≤k:=by
        have h1:=hsrt.ho.length
        have h2:H4.length≤G.length:=nodup_lt_length hready.nodup fun x hx=>((hready.mem x).1 hx).1
        rw [HI.out.1] at h2;omega
       rw [hself] at hcv
       have hck:nth (nth (kids G) p) q < k:=by rw [← HI.out.1];exact hchild.1
       have HD:=Lib.hid (And.intro hpushR (And.intro hpassR hoth));clear hpushR hpassR hoth hself hchild hnd hready hlf hc5 hql
       generalize nth (nth (kids G) p) q=s at *
       generalize hv:lfAt G (L ++ [p]) (nth (kids G) p) (q + 1) s=v at *
       have c6:=hsrt.lrow.cell (j:=s) (by rw [hsrt.llen];exact hck)
       rw [hcv] at c6
       have c6:wd.cell? ⟨gl,s,none⟩=some (.int .i64 ((v:Int) + 1)):=by rw [c6];rfl
       have f6:=hsrt.lrow.frozen s
       have hput:=hsrt.put hck v
       have HE:=Lib.hid (And.intro hput hv);clear hput hv hcv hsrt
       by_cases hv0:v=0
       ·subst hv0
        go_wp2_with fail
        refine (push_any hb A4 m4 c4 H4 s _ HE.out.1.hc HE.out.1.ho (by omega)).mono ?_
        rintro e w6 ⟨A',c',H',rfl,p1,p2,p3,p4,p5⟩
        have hs6:=HE.out.1.heaped p1 p2 p4 p5
        have hr6:=HD.out.1 H' (by simp) p3
        have hl6:=HD.out.2.2
        have H6:=Lib.hid (And.intro hs6 (And.intro hr6 hl6));clear hs6 hr6 hl6 p1 p2 p3 p4 p5 c6 f6
        go_wp2_with fail
        exact ⟨⟨q + 1,m4 + 1,c',A',H',_,by go_num,by omega,H6.out.1,H6.out.2.1,H6.out.2.2⟩,by simp [intOf];omega⟩
       ·have hv0':¬ ((v:Nat):Int)=0:=by omega
        have hr6:=HD.out.2.1 (by simpa using hv0)
        have hl6:=HD.out.2.2
        have H6:=Lib.hid (And.intro HE.out.1 (And.intro hr6 hl6));clear hr6 hl6
        go_wp2_with fail
        exact ⟨⟨q + 1,m4,c4,A4,H4,_,by go_num,by omega,H6.out.1,H6.out.2.1,H6.out.2.2⟩,by simp [intOf];omega⟩
      ·obtain rfl:q=m3:=by omega
       have hR1:Ready G (L ++ [p]) H4 (cntOut G (L ++ [p])):=by
        have:=hready
        rw [funext (lfAt_full (G:=G) (L:=L ++ [p]) (Nat.le_of_eq HB.out.2.2.2.2.2.2.1))] at this
        exact this
       have hL1:∀ x,x < k→nth lf4 x=cntOut G (L ++ [p]) x:=fun x hx=>by
        rw [hlf x hx,lfAt_full (Nat.le_of_eq HB.out.2.2.2.2.2.2.1)]
       have HD:=Lib.hid (And.intro hsrt (And.intro hR1 hL1));clear hsrt hready hlf hR1 hL1
       go_wp2_with fail
       exact ⟨⟨m4,c4,ko + 1,c9,A4,A9,H4,L ++ [p],lf4,rfl,HD.out.1,HB.out.2.2.1,HD.out.2.1,HD.out.2.2⟩,by have h1:=HB.out.2.2.1.length_le;have h2:=HA.out.2.2.2.2.1;rw [HI.out.1] at h1;simp [slLen] at h1 ⊢;omega⟩
end Go.Proofs.YtgbmnlmnhbkdbaaGreat
/- A queue of the call's own: a slice whose elements take some cells, that moves off its row's head. Conditions: lengths within Go's bound. -/
namespace Go.Proofs.YtgbmnlmnhbkdbaaGreat
open Go.RowKit

def setAll {α:Type}:List α→Nat→List α→List α
 | cs,_,[]=>cs
 | cs,o,v :: r=>setAll (cs.set o v) (o + 1) r
theorem setAll_length {α:Type}:∀ (vs cs:List α) (o:Nat),(setAll cs o vs).length=cs.length
 | [],_,_=>rfl
 | v :: r,cs,o=>by rw [setAll,setAll_length r];simp
theorem setAll_getElem? {α:Type}:∀ (vs cs:List α) (o j:Nat),o + vs.length≤cs.length→(setAll cs o vs)[j]?=if j < o then cs[j]? else if j < o + vs.length then vs[j - o]? else cs[j]?
 | [],cs,o,j,h=>by
   simp only [setAll,List.length_nil,Nat.add_zero]
   by_cases h1:j < o
   ·rw [if_pos h1]
   ·rw [if_neg h1,if_neg h1]
 | v :: r,cs,o,j,h=>by
   simp only [List.length_cons] at h
   rw [setAll,setAll_getElem? r (cs.set o v) (o + 1) j (by simp;omega),List.length_cons]
   by_cases h1:j < o
   ·rw [if_pos (by omega),if_pos h1,List.getElem?_set];rw [if_neg (by omega)]
   ·rw [if_neg h1]
    by_cases h2:j=o
    ·subst h2;rw [if_pos (by omega),if_pos (by omega),List.getElem?_set,if_pos rfl];simp;omega
    ·rw [if_neg (by omega)]
     by_cases h3:j < o + 1 + r.length
     ·rw [if_pos h3,if_pos (by omega),show j - o=(j - (o + 1)) + 1 from by omega,List.getElem?_cons_succ]
     ·rw [if_neg h3,if_neg (by omega),List.getElem?_set,if_neg (by omega)]
theorem RowC.setAll {g:Nat} {e:TypeId}:∀ (vs:List Value) {w:World} {cs:List Value} (o:Nat),RowC w g e cs→RowC (w.setCells g o vs) g e (setAll cs o vs)
 | [],_,_,_,h=>h
 | v :: r,_,_,o,h=>RowC.setAll r (o + 1) (h.put o v)
theorem Turn.setCells {a:World} {S:Nat→Prop} {g:Nat} (hg:g < a.heap.size→S g):∀ (vs:List Value) {b:World} (o:Nat),Turn a b S→Turn a (b.setCells g o vs) S
 | [],_,_,h=>h
 | v :: r,_,o,h=>Turn.setCells hg r (o + 1) (h.setCell ⟨g,o,none⟩ hg v)

structure OwnQ (w:World) (base:Nat) (e:TypeId) (s:Nat) (A:Option Addr) (n c:Nat) (cs:List Value):Prop where
 len:cs.length=n * s
 ex:(A=none∧n=0∧c=0) ∨ ∃ g off cur,A=some ⟨g,off,none⟩∧base≤g∧RowC w g e cur∧n≤c∧c≤maxLen∧off + c * s≤cur.length∧(cur.drop off).take (n * s)=cs
section
variable {w w':World} {base:Nat} {e:TypeId} {s:Nat} {A:Option Addr} {n c:Nat} {cs:List Value}
theorem OwnQ.nil (w:World) (base:Nat) (e:TypeId) (s:Nat):OwnQ w base e s none 0 0 []:=⟨by simp,.inl ⟨rfl,rfl,rfl⟩⟩
theorem OwnQ.at_row (h:OwnQ w base e s A n c cs):A=none ∨ ∃ g off,A=some ⟨g,off,none⟩∧base≤g∧g < w.heap.size:=by
 rcases h.ex with ⟨h1,_⟩ | ⟨g,off,cur,h1,h2,h3,_⟩
 ·exact .inl h1
 ·exact .inr ⟨g,off,h1,h2,h3.lt⟩
theorem OwnQ.turn {S:Nat→Prop} (h:OwnQ w base e s A n c cs) (ht:Turn w w' S) (hS:∀ g off,A=some ⟨g,off,none⟩→¬ S g):OwnQ w' base e s A n c cs:=by
 refine ⟨h.len,?_⟩
 rcases h.ex with h1 | ⟨g,off,cur,h1,h2,h3,h4⟩
 ·exact .inl h1
 ·exact .inr ⟨g,off,cur,h1,h2,h3.turn ht (hS g off h1),h4⟩
theorem OwnQ.below (h:OwnQ w base e s A n c cs) (hb:Below w.heap.size w w'):OwnQ w' base e s A n c cs:=h.turn (Turn.of_below hb fun _=>False) fun _ _ _ f=>f
theorem OwnQ.alloc (h:OwnQ w base e s A n c cs) (o:Obj):OwnQ (w.alloc o) base e s A n c cs:=h.below ((Below.refl _ _).alloc (Nat.le_refl _) o)
theorem OwnQ.setFar (h:OwnQ w base e s A n c cs) {p:Addr} (hp:∀ g off,A=some ⟨g,off,none⟩→g ≠ p.block) (v:Value):OwnQ (w.setCell p v) base e s A n c cs:=
 h.turn (S:=fun b=>b=p.block) (Turn.setCell (S:=fun b=>b=p.block) (Turn.refl w _) p (fun _=>rfl) v) hp
theorem OwnQ.mono (h:OwnQ w base e s A n c cs) {base':Nat} (hb:base'≤base):OwnQ w base' e s A n c cs:=by
 refine ⟨h.len,?_⟩
 rcases h.ex with h1 | ⟨g,off,cur,h1,h2,h4⟩
 ·exact .inl h1
 ·exact .inr ⟨g,off,cur,h1,Nat.le_trans hb h2,h4⟩
instance:Stable (fun w=>OwnQ w base e s A n c cs):=⟨fun hb h=>h.below hb⟩
theorem OwnQ.cells (h:OwnQ w base e s A n c cs) (hn:0 < n * s):∃ g off,A=some ⟨g,off,none⟩∧base≤g∧g < w.heap.size∧n≤c∧(∀ j,j < n * s→w.cell? ⟨g,off + j,none⟩=cs[j]?)∧∀ j,w.frozen? ⟨g,j,none⟩=false:=by
 rcases h.ex with ⟨_,h1,_⟩ | ⟨g,off,cur,h1,h2,h3,h4,h5,h6,h7⟩
 ·subst h1;simp at hn
 ·refine ⟨g,off,h1,h2,h3.lt,h4,fun j hj=>?_,fun j=>h3.frozen j⟩
  rw [h3.cell,← h7,List.getElem?_take,if_pos hj,List.getElem?_drop]
theorem OwnQ.pop (h:OwnQ w base e s A n c cs) (hn:1≤n):OwnQ w base e s (if c=1 then A else A.map (·.add s)) (n - 1) (c - 1) (cs.drop s):=by
 have hs:n * s=(n - 1) * s + s:=by rw [Nat.sub_mul,Nat.one_mul];have:1 * s≤n * s:=Nat.mul_le_mul_right _ hn;omega
 refine ⟨by rw [List.length_drop,h.len];omega,?_⟩
 rcases h.ex with ⟨_,h1,_⟩ | ⟨g,off,cur,h1,h2,h3,h4,h5,h6,h7⟩
 ·omega
 ·right
  by_cases hc:c=1
  ·rw [if_pos hc]
   refine ⟨g,off,cur,h1,h2,h3,by omega,by omega,by subst hc;simp at h6 ⊢;omega,?_⟩
   have:n=1:=by omega
   subst this
   have e0:cs.drop s=[]:=List.drop_of_length_le (by rw [h.len];omega)
   rw [e0];simp
  ·rw [if_neg hc,h1]
   have hcs:c * s=(c - 1) * s + s:=by rw [Nat.sub_mul,Nat.one_mul];have:1 * s≤c * s:=Nat.mul_le_mul_right _ (by omega);omega
   refine ⟨g,off + s,cur,by simp [Addr.add_lit],h2,h3,by omega,by omega,by omega,?_⟩
   rw [← h7,List.drop_take,List.drop_drop]
   congr 1
   omega
theorem OwnQ.of_owns {v:Value} (h:w.ownsRow base e s v n cs):∃ A c,v=.slice A n c∧OwnQ w base e s A n c cs∧(∀ g off,A=some ⟨g,off,none⟩→base≤g):=by
 obtain ⟨h1,h2⟩:=h
 rcases h2 with ⟨rfl,rfl⟩ | ⟨g,cap,cur,rfl,h3,h4,h5,h6,h7,h8⟩
 ·exact ⟨none,0,rfl,⟨h1,.inl ⟨rfl,rfl,rfl⟩⟩,fun _ _ e=>by cases e⟩
 ·exact ⟨_,cap,rfl,⟨h1,.inr ⟨g,0,cur.toList,rfl,h3,by unfold RowC;rw [h4],h5,h6,by rw [Array.length_toList,h7];omega,by rw [List.drop_zero];exact h8⟩⟩,fun _ _ e=>by injection e with e;injection e with e;omega⟩
end
theorem wpList_app_q {P:Program} (w:World) {ops:Array Oper} {rest:List Oper} {o:Oper} {a:Act} {Q:Exit→Act→World→Prop}
 (hg:o.guard=none) (sl x:Operand) (t:TypeId) (hop:o.op=Op.call { callee:=Callee.builtin Builtin.append,args:=#[sl,x],argTypes:=#[t,t] })
 (e:TypeId) (i:TypeInfo) (z:Value) (s bytes:Nat) (h1:P.underlying t=some (.slice e)) (h2:P.info? e=some i) (h3:i.zero=some z) (h4:i.size=s) (h5:i.bytes=bytes) (h6:z.cells.size=s) (h7:0 < s)
 (base:Nat) (A:Option Addr) (n c:Nat) (cs:List Value) (hs:a.eval sl=.slice A n c) (hown:OwnQ w base e s A n c cs) (hbase:base≤w.heap.size)
 (ad:Addr) (m d:Nat) (news:List Value) (hx:a.eval x=.slice (some ad) m d) (hn:news.length=m * s) (hc:∀ j u,news[j]?=some u→w.cell? (ad.add j)=some u) (h1c:∀ u ∈ news,u.oneCell'=true)
 (hbytes:(n + m) * bytes≤140737488355328) (hb1:1≤bytes)
 (hK:∀ A' c' w',OwnQ w' base e s A' (n + m) c' (cs ++ news)→Turn w w' (fun b=>∃ off,A=some ⟨b,off,none⟩)→(∀ g off,A'=some ⟨g,off,none⟩→(∃ off',A=some ⟨g,off',none⟩) ∨ w.heap.size≤g) →
   wpList P ops Q rest (a.put o.dst (.slice A' (n + m) c')) w'):wpList P ops Q (o :: rest) a w:=by
 have hmax:n + m≤maxLen:=by
  have:(n + m) * 1≤(n + m) * bytes:=Nat.mul_le_mul_left _ hb1
  unfold maxLen;omega
 have grow:∀ v' w',w'.ownsRow w.heap.size e s v' (n + m) (cs ++ news)→w.grownBy w' none→wpList P ops Q rest (a.put o.dst v') w':=fun v' w' ho hgr=>by
  obtain ⟨A',c',rfl,hq,hfr⟩:=OwnQ.of_owns ho
  exact hK A' c' w' (hq.mono hbase) ((Turn.of_grown hgr).mono fun _ _ e=>by cases e) fun g off e=>.inr (hfr g off e)
 rcases hown.ex with ⟨rfl,rfl,rfl⟩ | ⟨g,off,cur,rfl,hb,hr,hle,hcm,hoff,htk⟩
 ·have hcs0:cs=[]:=List.eq_nil_of_length_eq_zero (by simpa using hown.len)
  subst hcs0
  rcases Nat.eq_zero_or_pos m with rfl | hm
  ·have hn0:news=[]:=List.eq_nil_of_length_eq_zero (by simpa using hn)
   subst hn0
   refine wpList_plain hg fun K' hK'=>?_
   obtain ⟨v',w',hrun,r1,r2,_⟩:=run_append_own (P:=P) w w.heap.size t o.type e i z s bytes h1 h2 h3 h4 h5 h6 h7 (.slice none 0 0) 0 [] (World.ownsRow_nil w _ e s) ad 0 d [] (by simp) (fun j u hj=>by simp at hj) (fun u hu=>by simp at hu) (by omega) (by omega) (Nat.le_refl _)
   unfold Oper.wp
   simp [execOp,hop,resolve,invoke,builtin,hs,hx,hrun,Result.andThen]
   exact hK' _ _ (grow v' w' r1 r2)
  ·exact wpList_append_grows w hg sl x t hop e i z s bytes h1 h2 h3 h4 h5 h6 h7 none 0 0 [] hs (fun _=>⟨rfl,rfl⟩) (by simp) (fun b e=>by cases e) ad m d news hx hn hc h1c (by omega) hmax hbytes grow
 ·have hcells:∀ j u,cs[j]?=some u→w.cell? ⟨g,off + j,none⟩=some u:=fun j u hj=>by
   rw [hr.cell,← hj,← htk,List.getElem?_take]
   have hlt:j < n * s:=by
    have:=(List.getElem?_eq_some_iff.1 hj).1
    rw [hown.len] at this;exact this
   rw [if_pos hlt,List.getElem?_drop]
  refine wpList_append_arg w hg sl x t hop e i z s bytes h1 h2 h3 h4 h5 h6 h7 g off n c cs hs hown.len hcells ad m d news hx hn hc h1c (fun hroom j hj=>⟨?_,hr.frozen _⟩) hmax hbytes (fun hroom=>?_) fun _=>grow
  ·have h9:(n + m) * s≤c * s:=Nat.mul_le_mul_right _ hroom
   rw [Nat.add_mul] at h9
   rw [hr.cell,List.getElem?_eq_getElem (by omega)]
   rfl
  ·have h9:(n + m) * s≤c * s:=Nat.mul_le_mul_right _ hroom
   rw [Nat.add_mul] at h9
   refine hK _ _ _ ⟨by rw [List.length_append,hown.len,hn,Nat.add_mul],.inr ⟨g,off,_,rfl,hb,RowC.setAll news (off + n * s) hr,hroom,hcm,by rw [setAll_length];exact hoff,?_⟩⟩ (Turn.setCells (S:=fun b=>∃ o,(some ⟨g,off,none⟩:Option Addr)=some ⟨b,o,none⟩) (fun _=>⟨off,rfl⟩) news (off + n * s) (Turn.refl w _)) fun g' off' e=>.inl ⟨off',by rw [← e]⟩
   apply List.ext_getElem?
   intro j
   rw [List.getElem?_take,List.getElem?_append,hown.len]
   by_cases hj:j < (n + m) * s
   ·rw [if_pos hj,List.getElem?_drop,setAll_getElem? _ _ _ _ (by omega)]
    rw [Nat.add_mul] at hj
    by_cases h8:j < n * s
    ·rw [if_pos (by omega),if_pos h8,← htk,List.getElem?_take,if_pos h8,List.getElem?_drop]
    ·rw [if_neg (by omega),if_neg h8,if_pos (by omega)]
     congr 1
     omega
   ·rw [if_neg hj]
    rw [Nat.add_mul] at hj
    rw [if_neg (by omega)]
    exact (List.getElem?_eq_none (by omega)).symm
end Go.Proofs.YtgbmnlmnhbkdbaaGreat
