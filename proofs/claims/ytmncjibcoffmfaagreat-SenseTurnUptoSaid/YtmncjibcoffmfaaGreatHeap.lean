/- dag.heap's push and pop, walked: what is in it, in whatever order. Conditions: the heap's cell and its row are the call's own. -/
import Derived.Test.YtmncjibcoffmfaaGreatJ3
import Derived.IntWalk
import Derived.BigRegion
import Derived.StillTailTactics
set_option linter.unusedVariables false
set_option linter.unusedSimpArgs false
namespace Go.Proofs.YtmncjibcoffmfaaGreat
open Go.RowKit

theorem eiHeap:EI Tryz.prog 135 3 (.int .i64 0) 8:=.mk' Tryz.underlying135 (by kernel_rfl) rfl (by omega)

set_option maxRecDepth 100000 in
set_option maxHeartbeats 1600000 in
theorem push_any (hb:Nat) (A:Option Addr) (m c:Nat) (L:List Nat) (x:Nat) (w:World) (h1:RowC w hb 135 [.slice A m c]) (h2:OwnR eN w (hb + 1) 3 A m c L) (hm:(m + 1) * 8≤140737488355328) :
 Calls Tryz.prog 134 #[.pointer (some ⟨hb,0,none⟩),.int .i64 (x:Int)] w fun e w'=>∃ A' c' L',e=.returned (.tuple #[])∧RowC w' hb 135 [.slice A' (m + 1) c']∧OwnR eN w' (hb + 1) 3 A' (m + 1) c' L'∧L'.Perm (x :: L) ∧
  Turn w w' (fun b=>b=hb ∨ A=some ⟨b,0,none⟩)∧∀ b,A'=some ⟨b,0,none⟩→A=some ⟨b,0,none⟩ ∨ w.heap.size≤b:=by
 obtain ⟨wa,hwa⟩:∃ wa:World,wa=w:=⟨_,rfl⟩
 subst hwa
 have r0:=h1.cell 0
 have hlt:=h1.lt
 have hos:=h2.alloc (.cells #[.int .i64 (x:Int)] 3)
 have HH:=Lib.hid (And.intro h1 h2);clear h1 h2
 go_enter Tryz.func134,Tryz.ntmps134
 go_wp2_with (first
  | (at_builtin;refine wpList_app _ eiHeap eN one_eN rfl _ _ rfl (hb + 1) _ _ _ _ rfl hos _ _ _ _ rfl (Sl.one (enc:=eN) _ _ _) (by omega) (by simp;omega) ?_)
  | fail)
 intro A9 c9 w9 ho9 hg9 _ hd9
 have hne:∀ g,A=some ⟨g,0,none⟩→hb < g:=fun g e=>by
  rcases HH.out.2.at_row with h1 | ⟨g',h1,h2,_⟩
  ·rw [e] at h1;cases h1
  ·rw [e] at h1;injection h1 with h1;injection h1 with h1;omega
 have hob:(Value.slice A m c).ownBlock ≠ some hb:=fun e=>by
  rcases HH.out.2.at_row with h1 | ⟨g',h1,h2,_⟩
  ·rw [h1] at e;cases e
  ·rw [h1] at e;injection e with e;have:=hne g' h1;have e':g'=hb:=e;omega
 have hT:Turn wa w9 (fun b=>b=hb ∨ A=some ⟨b,0,none⟩):=((Turn.refl wa _).alloc (.cells #[.int .i64 (x:Int)] 3)).trans (Turn.of_grown hg9) fun b _ e=>by
  rcases HH.out.2.at_row with h1 | ⟨g',h1,h2,_⟩
  ·rw [h1] at e;cases e
  ·rw [h1] at e;injection e with e;right;have e':g'=b:=e;rw [h1,e']
 have hC:RowC w9 hb 135 [.slice A m c]:=(HH.out.1.alloc _).grown hg9 fun e=>hob e.symm
 have r9:=hC.cell 0
 have f9:=hC.frozen 0
 have hC2:=hC.put 0 (.slice A9 (m + 1) c9)
 have hT2:=hT.setCell ⟨hb,0,none⟩ (fun _=>.inl rfl) (.slice A9 (m + 1) c9)
 obtain ⟨g,rest,hA9,hbg,hr9,hcr⟩:=ho9.row (by omega)
 have hr10:RowAt eN (w9.setCell ⟨hb,0,none⟩ (.slice A9 (m + 1) c9)) g 3 (L ++ [x]) rest:=hr9.far (by simp;omega) _
 have hA:∀ b,A9=some ⟨b,0,none⟩→A=some ⟨b,0,none⟩ ∨ wa.heap.size≤b:=fun b e=>by
  have h2:(Value.slice A9 (m + 1) c9).ownBlock=some b:=by rw [e];rfl
  rcases hd9 with hd | hd
  ·rw [h2] at hd
   rcases HH.out.2.at_row with h1 | ⟨g',h1,_⟩
   ·rw [h1] at hd;cases hd
   ·rw [h1] at hd;injection hd with hd;left;have e':g'=b:=hd.symm;rw [h1,e']
  ·rw [h2] at hd;injection hd with hd;right;rw [hd];simp
 have hl9:=ho9.length
 have hcap:=ho9.capmax
 have H9:=Lib.hid (And.intro hC2 (And.intro hT2 (And.intro hr10 (And.intro hA (And.intro hcr (And.intro hcap hl9))))));clear hC hT hC2 hT2 hr9 hr10 hA hcr hcap hl9 hg9 hd9 ho9 hob hne
 subst hA9
 go_wp2_with fail
 generalize w9.setCell ⟨hb,0,none⟩ (.slice (some ⟨g,0,none⟩) (m + 1) c9)=wx at *
 clear r9 f9 r0
 go_loopw [4] (fun i wr=>∃ (k:Nat) (L':List Nat),i=.int .i64 (k:Nat)∧k≤m∧L'.length=m + 1∧L'.Perm (L ++ [x])∧RowC wr hb 135 [.slice (some ⟨g,0,none⟩) (m + 1) c9]∧RowAt eN wr g 3 L' rest∧Turn wa wr (fun b=>b=hb ∨ A=some ⟨b,0,none⟩)) (fun i _=>(intOf i).toNat)
 case atStart=>exact ⟨m,L ++ [x],by go_num,Nat.le_refl _,H9.out.2.2.2.2.2.2,List.Perm.refl _,H9.out.1,H9.out.2.2.1,H9.out.2.1⟩
 case round =>
  obtain ⟨k,L',rfl,hk,hlen,hperm,hrc,hra,hturn⟩:=hrel
  obtain ⟨wb,hwb⟩:∃ wb:World,wb=wr:=⟨_,rfl⟩
  subst hwb
  have r0:=hrc.cell 0
  have HL:=Lib.hid (And.intro hlen (And.intro hperm (And.intro hrc (And.intro hra hturn))));clear hlen hperm hrc hturn
  by_cases hk0:k=0
  ·subst hk0
   have q5:decide ((0:Int) < ((0:Nat):Int))=false:=by decide
   have q6:decide (0 < (0:Nat))=false:=by decide
   clear hra
   go_wp2_with fail
   go_quiet (fail)
   go_wp2_with fail
   go_end0
   obtain ⟨hr1,hr2,hr3,hr4,hr5⟩:=HL.out
   refine ⟨_,_,L',rfl,hr3,OwnR.of_row' hr4 hbg (by rw [hr1];exact H9.out.2.2.2.2.1) H9.out.2.2.2.2.2.1 hr1,hr2.trans List.perm_append_comm,hr5.drewN _,H9.out.2.2.2.1⟩
  ·have q1:(0:Int)≤(k:Nat):=by omega
   have q2:((k:Nat):Int) < ((m:Nat):Int) + 1:=by omega
   have q3:(0:Int)≤((k:Nat):Int) - 1:=by omega
   have q4:(0:Int)≤(((k:Nat):Int) - 1) / 2:=by omega
   have q5:(((k:Nat):Int) - 1) / 2 < ((m:Nat):Int) + 1:=by omega
   have q6:((((k:Nat):Int) - 1) / 2).toNat=(k - 1) / 2:=by omega
   have q7:decide ((0:Int) < ((k:Nat):Int))=true:=by simp;omega
   have q8:decide (0 < k)=true:=by simp;omega
   have g1:=hra.cell (j:=k) (by rw [HL.out.1];omega)
   have g2:=hra.cell (j:=(k - 1) / 2) (by rw [HL.out.1];omega)
   have f1:=hra.frozen k
   have f2:=hra.frozen ((k - 1) / 2)
   clear hra
   generalize hs:nth L' k=s at *
   generalize ht:nth L' ((k - 1) / 2)=t at *
   have HE:=Lib.hid (And.intro hs ht);clear hs ht
   by_cases hst:s < t
   ·have hst':decide ((s:Int) < (t:Int))=true:=by simp;omega
    go_wp2_with fail
    go_quiet (fail)
    go_wp2_with fail
    generalize hwq:wb.drewN _=wq
    have r0':wq.cell? ⟨hb,0,none⟩=some (.slice (some ⟨g,0,none⟩) (m + 1) c9):=by rw [← hwq];exact r0
    have g1':wq.cell? ⟨g,k,none⟩=some (.int .i64 (s:Int)):=by rw [← hwq];exact g1
    have g2':wq.cell? ⟨g,(k - 1) / 2,none⟩=some (.int .i64 (t:Int)):=by rw [← hwq];exact g2
    have f1':wq.frozen? ⟨g,k,none⟩=false:=by rw [← hwq];exact f1
    have f2':wq.frozen? ⟨g,(k - 1) / 2,none⟩=false:=by rw [← hwq];exact f2
    have HW:=Lib.hid hwq;clear hwq r0 g1 g2 f1 f2
    go_region
    go_wp2_with fail
    obtain ⟨hr1,hr2,hr3,hr4,hr5⟩:=HL.out
    have hr4':RowAt eN wq g 3 L' rest:=by rw [← HW.out];exact hr4
    have hr3':RowC wq hb 135 [.slice (some ⟨g,0,none⟩) (m + 1) c9]:=by rw [← HW.out];exact hr3
    have hr5':Turn wa wq (fun b=>b=hb ∨ A=some ⟨b,0,none⟩):=by rw [← HW.out];exact hr5.drewN _
    have hSg:g < wa.heap.size→(g=hb ∨ A=some ⟨g,0,none⟩):=fun hlt=>by
     rcases H9.out.2.2.2.1 g rfl with h1 | h1
     ·exact .inr h1
     ·omega
    have hw1:=(hr4'.set (j:=k) (by rw [hr1];omega) t).set (j:=(k - 1) / 2) (by simp;omega) s
    refine ⟨⟨(k - 1) / 2,swapL L' k ((k - 1) / 2),by congr 1;omega,by omega,by rw [swapL_length];exact hr1,(swapL_perm (by omega) (by omega)).trans hr2,?_,?_,?_⟩,by simp [intOf];omega⟩
    ·exact (hr3'.far (by simp;omega) _).far (by simp;omega) _
    ·unfold swapL;rw [HE.out.1,HE.out.2];exact hw1
    ·exact (hr5'.setCell _ hSg _).setCell _ hSg _ |>.drew
   ·have hst':decide ((s:Int) < (t:Int))=false:=by simp;omega
    go_wp2_with fail
    go_quiet (fail)
    go_wp2_with fail
    go_end0
    obtain ⟨hr1,hr2,hr3,hr4,hr5⟩:=HL.out
    refine ⟨_,_,L',rfl,hr3,OwnR.of_row' hr4 hbg (by rw [hr1];exact H9.out.2.2.2.2.1) H9.out.2.2.2.2.2.1 hr1,hr2.trans List.perm_append_comm,hr5.drewN _,H9.out.2.2.2.1⟩
end Go.Proofs.YtmncjibcoffmfaaGreat
