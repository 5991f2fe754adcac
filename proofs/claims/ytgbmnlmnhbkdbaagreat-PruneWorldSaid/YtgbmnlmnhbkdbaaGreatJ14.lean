/- Joined by program out of: Set4I, Set5I. What each says stands at its own head. -/
import Derived.Test.YtgbmnlmnhbkdbaaGreatJ10
import Derived.Test.YtgbmnlmnhbkdbaaGreatJ13
import Derived.Deep.RegionHeld3
import Derived.Outline
set_option linter.unusedVariables false
set_option linter.unusedSimpArgs false
/- choose at int, walked. Conditions: both lists rise; their lengths together are within Go's bound. -/
namespace Go.Proofs.YtgbmnlmnhbkdbaaGreat
open Go.RowKit
namespace SoI

theorem cmp_qq (a b:Int) (w:World):Calls Tryz.prog 63 #[Value.int .i64 a,Value.int .i64 b] w fun e w'=>e=.returned (.int .i64 (cmpI a b))∧w'=w:=
 (cmp_i a b w).mono fun _ _ h=>⟨h.1,h.2.symm⟩

structure ChooseAt (A A':Option Addr) (n m c c':Nat) (s o:List Int) (B:Nat) (w0:World) (l b r:Bool) (i k:Nat) (Ao:Option Addr) (no co:Nat) (out:List Int) (wr:World):Prop where
 ch:ChosenAt cmpI l b r s o i k out
 own:OwnR (Value.int .i64) wr (B + 3) 3 Ao no co out
 bel:Below (B + 3) w0 wr
 b1:RowC wr B 66 [.slice A n c]
 b2:RowC wr (B + 1) 66 [.slice A' m c']
 b3:RowC wr (B + 2) 66 [.slice none 0 0]
 s1:Sl (Value.int .i64) wr A n s
 s2:Sl (Value.int .i64) wr A' m o
 sz:B + 3≤wr.heap.size
theorem ChooseAt.drewN {A A':Option Addr} {n m c c':Nat} {s o:List Int} {B:Nat} {w0:World} {l b r:Bool} {i k:Nat} {Ao:Option Addr} {no co:Nat} {out:List Int} {wr:World}
 (h:ChooseAt A A' n m c c' s o B w0 l b r i k Ao no co out wr) (q:Nat):ChooseAt A A' n m c c' s o B w0 l b r i k Ao no co out (wr.drewN q):=
 ⟨h.ch,h.own.drewN q,below_drewN h.bel q,h.b1.drewN q,h.b2.drewN q,h.b3.drewN q,h.s1.drewN q,h.s2.drewN q,h.sz⟩
theorem ChooseAt.skip {A A':Option Addr} {n m c c':Nat} {s o:List Int} {B:Nat} {w0:World} {l b r:Bool} {i k i' k':Nat} {Ao:Option Addr} {no co:Nat} {out:List Int} {wr:World}
 (h:ChooseAt A A' n m c c' s o B w0 l b r i k Ao no co out wr) (h':ChosenAt cmpI l b r s o i' k' out):ChooseAt A A' n m c c' s o B w0 l b r i' k' Ao no co out wr:=
 ⟨h',h.own,h.bel,h.b1,h.b2,h.b3,h.s1,h.s2,h.sz⟩
theorem ChooseAt.put {A A':Option Addr} {n m c c':Nat} {s o:List Int} {B:Nat} {w0:World} {l b r:Bool} {i k i' k':Nat} {Ao Ao':Option Addr} {no co co':Nat} {out:List Int} {x:Int} {wr w1:World}
 (h:ChooseAt A A' n m c c' s o B w0 l b r i k Ao no co out wr) (h':ChosenAt cmpI l b r s o i' k' (out ++ [x])) (how:OwnR (Value.int .i64) w1 (B + 3) 3 Ao' (no + 1) co' (out ++ [x]))
 (hb:Below (B + 3) (wr.alloc (.cells #[Value.int .i64 x] 3)) w1) (hs1:Sl (Value.int .i64) w0 A n s) (hs2:Sl (Value.int .i64) w0 A' m o) (h0:w0.heap.size≤B + 3):ChooseAt A A' n m c c' s o B w0 l b r i' k' Ao' (no + 1) co' (out ++ [x]) w1:=by
 have hb':Below (B + 3) wr w1:=((Below.refl _ _).alloc h.sz _).trans hb
 have hb0:=h.bel.trans hb'
 exact ⟨h',how,hb0,h.b1.below hb' (by omega),h.b2.below hb' (by omega),h.b3.below hb' (by omega),hs1.below h0 hb0,hs2.below h0 hb0,Nat.le_trans h.sz hb'.size⟩

set_option maxRecDepth 100000 in
set_option maxHeartbeats 1600000 in
theorem choose_any (A A':Option Addr) (n m c c':Nat) (s o:List Int) (l b r:Bool) (w:World) (hs:Sl (Value.int .i64) w A n s) (ho:Sl (Value.int .i64) w A' m o) (hsa:Asc cmpI s) (hoa:Asc cmpI o) (hb:(n + m) * 8≤140737488355328) :
 Calls Tryz.prog 66 #[.agg #[.slice A n c],.agg #[.slice A' m c'],.bool l,.bool b,.bool r] w fun e w'=>∃ Ao k co out,e=.returned (.agg #[.slice Ao k co])∧Chosen cmpI l b r s o out ∧
  OwnR (Value.int .i64) w' (w.heap.size + 3) 3 Ao k co out∧Below w.heap.size w w':=by
 obtain ⟨i0,hi0,hz0,hz1,hz2⟩:=info_parts info
 have hn:=hs.len
 have hm:=ho.len
 obtain ⟨w0,hw0⟩:∃ w0:World,w0=((w.alloc (.cells #[.slice A n c] 66)).alloc (.cells #[.slice A' m c'] 66)).alloc (.cells #[.slice none 0 0] 66):=⟨_,rfl⟩
 have hsz:w0.heap.size=w.heap.size + 3:=by rw [hw0];simp
 have hs0:Sl (Value.int .i64) w0 A n s:=by rw [hw0];exact ((hs.alloc _).alloc _).alloc _
 have ho0:Sl (Value.int .i64) w0 A' m o:=by rw [hw0];exact ((ho.alloc _).alloc _).alloc _
 have hbw:Below w.heap.size w w0:=by rw [hw0];exact (((Below.refl _ _).alloc (Nat.le_refl _) _).alloc (by simp) _).alloc (by simp;omega) _
 have q1:RowC w0 w.heap.size 66 [.slice A n c]:=by rw [hw0];exact ((RowC.new w 66 [.slice A n c]).alloc _).alloc _
 have q2:RowC w0 (w.heap.size + 1) 66 [.slice A' m c']:=by
  have h:=(RowC.new (w.alloc (.cells #[.slice A n c] 66)) 66 [.slice A' m c']).alloc (.cells #[.slice none 0 0] 66)
  rw [hw0];simpa using h
 have q3:RowC w0 (w.heap.size + 2) 66 [.slice none 0 0]:=by
  have h:=RowC.new ((w.alloc (.cells #[.slice A n c] 66)).alloc (.cells #[.slice A' m c'] 66)) 66 [.slice none 0 0]
  rw [hw0];simpa using h
 have hst:ChooseAt A A' n m c c' s o w.heap.size w0 l b r 0 0 none 0 0 [] w0:=
  ⟨ChosenAt.start _ _ _ _ _,OwnR.nil _ _ _ _,Below.refl _ _,q1,q2,q3,hs0,ho0,by omega⟩
 have HS:=Lib.hid (And.intro hn (And.intro hm (And.intro hsz (And.intro hs0 (And.intro ho0 (And.intro hbw (And.intro hst hi0)))))));clear hn hm hsz hs0 ho0 hbw hst q1 q2 q3 hs ho hi0
 have hB:w.heap.size + 3≤w0.heap.size:=by rw [HS.out.2.2.1];exact Nat.le_refl _
 have hbn:n + m≤140737488351232:=by omega
 go_enter Tryz.func66,Tryz.ntmps66
 go_wp2_with fail
 rw [← hw0]
 rw [show w.heap.size + 1 + 1=w.heap.size + 2 from rfl]
 clear hw0
 generalize hBB:w.heap.size=B at *
 go_loopw [11,12,13,14] (fun ov i k _ wr=>∃ (ii kk no co:Nat) (Ao:Option Addr) (out:List Int),ov=.slice Ao no co∧i=.int .i64 (ii:Nat)∧k=.int .i64 (kk:Nat) ∧
  ChooseAt A A' n m c c' s o B w0 l b r ii kk Ao no co out wr) (fun _ i k _ _=>n + m - ((intOf i).toNat + (intOf k).toNat))
 case atStart=>exact ⟨0,0,0,0,none,[],rfl,rfl,rfl,HS.out.2.2.2.2.2.2.1⟩
 case round =>
  obtain ⟨ii,kk,no,co,Ao,out,rfl,rfl,rfl,hrel⟩:=hrel
  have hi1:ii≤n:=by have:=hrel.ch.le1;have:=HS.out.1;omega
  have hk1:kk≤m:=by have:=hrel.ch.le2;have:=HS.out.2.1;omega
  have hno:no≤ii + kk:=by have h1:=hrel.ch.len;have h2:=hrel.own.length;omega
  have r1:=hrel.b1.cell 0
  have r2:=hrel.b2.cell 0
  have hcap1:no + 1≤maxLen:=by unfold maxLen;omega
  by_cases hi:ii < n
  ·by_cases hk:kk < m
   ·obtain ⟨bs,offs,rfl,hbs,hcs⟩:=hrel.s1.at' (by omega)
    obtain ⟨bo,offo,rfl,hbo,hco⟩:=hrel.s2.at' (by omega)
    have g1:=hcs ii hi
    have g2:=hco kk hk
    clear hcs hco
    have g1':∀ W:World,Sl (Value.int .i64) W (some ⟨bs,offs,none⟩) n s→W.cell? ⟨bs,offs + ii,none⟩=some (Value.int .i64 (nth s ii)):=fun W h=>by
     obtain ⟨b1,o1,e,_,hc⟩:=h.at' (by omega)
     injection e with e;injection e with e1 e2;subst e1 e2
     exact hc ii hi
    have g2':∀ W:World,Sl (Value.int .i64) W (some ⟨bo,offo,none⟩) m o→W.cell? ⟨bo,offo + kk,none⟩=some (Value.int .i64 (nth o kk)):=fun W h=>by
     obtain ⟨b1,o1,e,_,hc⟩:=h.at' (by omega)
     injection e with e;injection e with e1 e2;subst e1 e2
     exact hc kk hk
    have G:=Lib.hid (And.intro g1' g2');clear g1' g2'
    have hlt:ii < s.length:=by rw [HS.out.1];exact hi
    have hlt2:kk < o.length:=by rw [HS.out.2.1];exact hk
    have e1:((kk:Int) == (m:Int))=false:=beq_eq_false_iff_ne.2 (by omega)
    have e2:((ii:Int) == (n:Int))=false:=beq_eq_false_iff_ne.2 (by omega)
    have hcap2:(no + 1) * 8≤140737488355328:=by omega
    generalize hc0:cmpI (nth s ii) (nth o kk)=c0
    have HC0:=Lib.hid hc0;clear hc0
    rcases Int.lt_trichotomy c0 0 with h0 | h0 | h0
    ·have hch:=hrel.ch.left cmpokI hsa hoa hlt (fun _=>by rw [HC0.out];exact h0)
     have HC:=Lib.hid hch;clear hch
     rcases l
     ·go_wp2_with fail
      go_quiet ((go_at_call 63;exact Calls.quiet_of_same (cmp_qq _ _ _)))
      rw [HC0.out]
      have hq:=hrel.drewN nq
      have g1q:=G.out.1 _ hq.s1
      have g2q:=G.out.2 _ hq.s2
      have r1q:=hq.b1.cell 0
      have r2q:=hq.b2.cell 0
      clear g1 g2 r1 r2
      generalize wr.drewN nq=wq at *
      go_wp2_with fail
      exact ⟨⟨ii + 1,kk,no,co,Ao,out,rfl,by go_num,by go_num,hq.skip (by simpa using HC.out)⟩,by simp [intOf];omega⟩
     ·go_wp2_with fail
      go_quiet ((go_at_call 63;exact Calls.quiet_of_same (cmp_qq _ _ _)))
      rw [HC0.out]
      have hq:=hrel.drewN nq
      have g1q:=G.out.1 _ hq.s1
      have g2q:=G.out.2 _ hq.s2
      have r1q:=hq.b1.cell 0
      have r2q:=hq.b2.cell 0
      clear g1 g2 r1 r2
      generalize wr.drewN nq=wq at *
      have how:=hq.own.alloc (.cells #[Value.int .i64 (nth s ii)] 3)
      have hx:=Sl.one (enc:=Value.int .i64) wq 3 (nth s ii)
      have hbase:B + 3≤(wq.alloc (.cells #[Value.int .i64 (nth s ii)] 3)).heap.size:=by have:=hq.sz;simp;omega
      go_wp2_with (first
       | (at_builtin;refine wpList_append_sl _ (Value.int .i64) one rfl _ _ 23 rfl (B + 3) 3 i0 (.int .i64 0) 8 Tryz.underlying23 HS.out.2.2.2.2.2.2.2 hz0 hz1 hz2 rfl _ _ _ _ rfl how _ _ _ _ rfl hx hcap1 hcap2 hbase ?_)
       | fail)
      intro Ao' co' w1 how' _ hb' _
      go_wp2_with fail
      exact ⟨⟨ii + 1,kk,no + 1,co',Ao',out ++ [nth s ii],rfl,by go_num,by go_num,hq.put (by simpa using HC.out) how' hb' HS.out.2.2.2.1 HS.out.2.2.2.2.1 (by rw [HS.out.2.2.1];exact Nat.le_refl _)⟩,by simp [intOf];omega⟩
    ·subst h0
     have hch:=hrel.ch.both cmpokI hsa hoa hlt hlt2 HC0.out
     have HC:=Lib.hid hch;clear hch
     rcases b
     ·go_wp2_with fail
      go_quiet ((go_at_call 63;exact Calls.quiet_of_same (cmp_qq _ _ _)))
      rw [HC0.out]
      have hq:=hrel.drewN nq
      have g1q:=G.out.1 _ hq.s1
      have g2q:=G.out.2 _ hq.s2
      have r1q:=hq.b1.cell 0
      have r2q:=hq.b2.cell 0
      clear g1 g2 r1 r2
      generalize wr.drewN nq=wq at *
      go_wp2_with fail
      exact ⟨⟨ii + 1,kk + 1,no,co,Ao,out,rfl,by go_num,by go_num,hq.skip (by simpa using HC.out)⟩,by simp [intOf];omega⟩
     ·go_wp2_with fail
      go_quiet ((go_at_call 63;exact Calls.quiet_of_same (cmp_qq _ _ _)))
      rw [HC0.out]
      have hq:=hrel.drewN nq
      have g1q:=G.out.1 _ hq.s1
      have g2q:=G.out.2 _ hq.s2
      have r1q:=hq.b1.cell 0
      have r2q:=hq.b2.cell 0
      clear g1 g2 r1 r2
      generalize wr.drewN nq=wq at *
      have how:=hq.own.alloc (.cells #[Value.int .i64 (nth s ii)] 3)
      have hx:=Sl.one (enc:=Value.int .i64) wq 3 (nth s ii)
      have hbase:B + 3≤(wq.alloc (.cells #[Value.int .i64 (nth s ii)] 3)).heap.size:=by have:=hq.sz;simp;omega
      go_wp2_with (first
       | (at_builtin;refine wpList_append_sl _ (Value.int .i64) one rfl _ _ 23 rfl (B + 3) 3 i0 (.int .i64 0) 8 Tryz.underlying23 HS.out.2.2.2.2.2.2.2 hz0 hz1 hz2 rfl _ _ _ _ rfl how _ _ _ _ rfl hx hcap1 hcap2 hbase ?_)
       | fail)
      intro Ao' co' w1 how' _ hb' _
      go_wp2_with fail
      exact ⟨⟨ii + 1,kk + 1,no + 1,co',Ao',out ++ [nth s ii],rfl,by go_num,by go_num,hq.put (by simpa using HC.out) how' hb' HS.out.2.2.2.1 HS.out.2.2.2.2.1 (by rw [HS.out.2.2.1];exact Nat.le_refl _)⟩,by simp [intOf];omega⟩
    ·have hch:=hrel.ch.right cmpokI hsa hoa hlt2 (fun _=>by have h1:=cmpokI.flip (nth s ii) (nth o kk);rw [HC0.out] at h1;exact h1.1 h0)
     have HC:=Lib.hid hch;clear hch
     rcases r
     ·go_wp2_with fail
      go_quiet ((go_at_call 63;exact Calls.quiet_of_same (cmp_qq _ _ _)))
      rw [HC0.out]
      have hq:=hrel.drewN nq
      have g1q:=G.out.1 _ hq.s1
      have g2q:=G.out.2 _ hq.s2
      have r1q:=hq.b1.cell 0
      have r2q:=hq.b2.cell 0
      clear g1 g2 r1 r2
      generalize wr.drewN nq=wq at *
      go_wp2_with fail
      exact ⟨⟨ii,kk + 1,no,co,Ao,out,rfl,by go_num,by go_num,hq.skip (by simpa using HC.out)⟩,by simp [intOf];omega⟩
     ·go_wp2_with fail
      go_quiet ((go_at_call 63;exact Calls.quiet_of_same (cmp_qq _ _ _)))
      rw [HC0.out]
      have hq:=hrel.drewN nq
      have g1q:=G.out.1 _ hq.s1
      have g2q:=G.out.2 _ hq.s2
      have r1q:=hq.b1.cell 0
      have r2q:=hq.b2.cell 0
      clear g1 g2 r1 r2
      generalize wr.drewN nq=wq at *
      have how:=hq.own.alloc (.cells #[Value.int .i64 (nth o kk)] 3)
      have hx:=Sl.one (enc:=Value.int .i64) wq 3 (nth o kk)
      have hbase:B + 3≤(wq.alloc (.cells #[Value.int .i64 (nth o kk)] 3)).heap.size:=by have:=hq.sz;simp;omega
      go_wp2_with (first
       | (at_builtin;refine wpList_append_sl _ (Value.int .i64) one rfl _ _ 23 rfl (B + 3) 3 i0 (.int .i64 0) 8 Tryz.underlying23 HS.out.2.2.2.2.2.2.2 hz0 hz1 hz2 rfl _ _ _ _ rfl how _ _ _ _ rfl hx hcap1 hcap2 hbase ?_)
       | fail)
      intro Ao' co' w1 how' _ hb' _
      go_wp2_with fail
      exact ⟨⟨ii,kk + 1,no + 1,co',Ao',out ++ [nth o kk],rfl,by go_num,by go_num,hq.put (by simpa using HC.out) how' hb' HS.out.2.2.2.1 HS.out.2.2.2.2.1 (by rw [HS.out.2.2.1];exact Nat.le_refl _)⟩,by simp [intOf];omega⟩
   ·-- o is at its end
    obtain rfl:kk=m:=by omega
    obtain ⟨bs,offs,rfl,hbs,hcs⟩:=hrel.s1.at' (by omega)
    have g1:=hcs ii hi
    clear hcs
    have hlt:ii < s.length:=by rw [HS.out.1];exact hi
    have hch:=hrel.ch.left cmpokI hsa hoa hlt (by intro h;have:=HS.out.2.1;omega)
    have HC:=Lib.hid hch;clear hch
    have hcap2:(no + 1) * 8≤140737488355328:=by omega
    have hbeq:((kk:Int) == (kk:Int))=true:=by simp
    rcases l
    ·go_wp2_with fail
     exact ⟨⟨ii + 1,kk,no,co,Ao,out,rfl,by go_num,by go_num,hrel.skip (by simpa using HC.out)⟩,by simp [intOf];omega⟩
    ·have how:=hrel.own.alloc (.cells #[Value.int .i64 (nth s ii)] 3)
     have hx:=Sl.one (enc:=Value.int .i64) wr 3 (nth s ii)
     have hbase:B + 3≤(wr.alloc (.cells #[Value.int .i64 (nth s ii)] 3)).heap.size:=by have:=hrel.sz;simp;omega
     go_wp2_with (first
      | (at_builtin;refine wpList_append_sl _ (Value.int .i64) one rfl _ _ 23 rfl (B + 3) 3 i0 (.int .i64 0) 8 Tryz.underlying23 HS.out.2.2.2.2.2.2.2 hz0 hz1 hz2 rfl _ _ _ _ rfl how _ _ _ _ rfl hx hcap1 hcap2 hbase ?_)
      | fail)
     intro Ao' co' w1 how' _ hb' _
     go_wp2_with fail
     exact ⟨⟨ii + 1,kk,no + 1,co',Ao',out ++ [nth s ii],rfl,by go_num,by go_num,hrel.put (by simpa using HC.out) how' hb' HS.out.2.2.2.1 HS.out.2.2.2.2.1 (by rw [HS.out.2.2.1];exact Nat.le_refl _)⟩,by simp [intOf];omega⟩
  ·by_cases hk:kk < m
   ·-- s is at its end
    obtain rfl:ii=n:=by omega
    obtain ⟨bo,offo,rfl,hbo,hco⟩:=hrel.s2.at' (by omega)
    have g1:=hco kk hk
    clear hco
    have hlt:kk < o.length:=by rw [HS.out.2.1];exact hk
    have hch:=hrel.ch.right cmpokI hsa hoa hlt (by intro h;have:=HS.out.1;omega)
    have HC:=Lib.hid hch;clear hch
    have hcap2:(no + 1) * 8≤140737488355328:=by omega
    have hbeq:((ii:Int) == (ii:Int))=true:=by simp
    have e1:((kk:Int) == (m:Int))=false:=beq_eq_false_iff_ne.2 (by omega)
    rcases r
    ·go_wp2_with fail
     exact ⟨⟨ii,kk + 1,no,co,Ao,out,rfl,by go_num,by go_num,hrel.skip (by simpa using HC.out)⟩,by simp [intOf];omega⟩
    ·have how:=hrel.own.alloc (.cells #[Value.int .i64 (nth o kk)] 3)
     have hx:=Sl.one (enc:=Value.int .i64) wr 3 (nth o kk)
     have hbase:B + 3≤(wr.alloc (.cells #[Value.int .i64 (nth o kk)] 3)).heap.size:=by have:=hrel.sz;simp;omega
     go_wp2_with (first
      | (at_builtin;refine wpList_append_sl _ (Value.int .i64) one rfl _ _ 23 rfl (B + 3) 3 i0 (.int .i64 0) 8 Tryz.underlying23 HS.out.2.2.2.2.2.2.2 hz0 hz1 hz2 rfl _ _ _ _ rfl how _ _ _ _ rfl hx hcap1 hcap2 hbase ?_)
      | fail)
     intro Ao' co' w1 how' _ hb' _
     go_wp2_with fail
     exact ⟨⟨ii,kk + 1,no + 1,co',Ao',out ++ [nth o kk],rfl,by go_num,by go_num,hrel.put (by simpa using HC.out) how' hb' HS.out.2.2.2.1 HS.out.2.2.2.2.1 (by rw [HS.out.2.2.1];exact Nat.le_refl _)⟩,by simp [intOf];omega⟩
   ·obtain rfl:ii=n:=by omega
    obtain rfl:kk=m:=by omega
    have r3:=hrel.b3.cell 0
    have r4:=hrel.b3.frozen 0
    have r5:(wr.setCell ⟨B + 2,0,none⟩ (.slice Ao no co)).cell? ⟨B + 2,0,none⟩=some (.slice Ao no co):=(hrel.b3.put 0 _).cell 0
    have hch:Chosen cmpI l b r s o out:=by
     have h:=hrel.ch
     rw [← HS.out.1,← HS.out.2.1] at h
     exact h.done
    have HC:=Lib.hid hch;clear hch
    go_wp2_with fail
    have hfin:Below B w (wr.setCell ⟨B + 2,0,none⟩ (.slice Ao no co)):=(HS.out.2.2.2.2.2.1.trans (hrel.bel.mono (by omega))).setCell (show B≤B + 2 by omega) _
    exact bodyPost_ret (v:=.agg #[.slice Ao no co]) (by simp [results,Tryz.results66,go_sem,r5]) rfl ⟨Ao,no,co,out,rfl,HC.out,by rw [hBB];exact ownsRow_setCell_below hrel.own (show B + 2 < B + 3 by omega) _,by rw [hBB];exact hfin⟩
end SoI
end Go.Proofs.YtgbmnlmnhbkdbaaGreat
/- Join, Meet, Minus, Within, Same at int, walked. Conditions: both lists rise; their lengths together are within Go's bound. -/
namespace Go.Proofs.YtgbmnlmnhbkdbaaGreat
open Go.RowKit
namespace SoI

theorem boxes (A A':Option Addr) (n m c c':Nat) (s o:List Int) (w w0:World) (hw0:w0=((w.alloc (.cells #[.slice A n c] 66)).alloc (.cells #[.slice A' m c'] 66)).alloc (.cells #[.slice none 0 0] 66))
 (hs:Sl (Value.int .i64) w A n s) (ho:Sl (Value.int .i64) w A' m o):w0.heap.size=w.heap.size + 3∧Sl (Value.int .i64) w0 A n s∧Sl (Value.int .i64) w0 A' m o∧Below w.heap.size w w0∧RowC w0 w.heap.size 66 [.slice A n c] ∧
   RowC w0 (w.heap.size + 1) 66 [.slice A' m c']∧RowC w0 (w.heap.size + 2) 66 [.slice none 0 0]:=by
 subst hw0
 refine ⟨by simp,((hs.alloc _).alloc _).alloc _,((ho.alloc _).alloc _).alloc _,(((Below.refl _ _).alloc (Nat.le_refl _) _).alloc (by simp) _).alloc (by simp;omega) _,((RowC.new w 66 [.slice A n c]).alloc _).alloc _,?_,?_⟩
 ·have h:=(RowC.new (w.alloc (.cells #[.slice A n c] 66)) 66 [.slice A' m c']).alloc (.cells #[.slice none 0 0] 66)
  simpa using h
 ·have h:=RowC.new ((w.alloc (.cells #[.slice A n c] 66)).alloc (.cells #[.slice A' m c'] 66)) 66 [.slice none 0 0]
  simpa using h


set_option maxHeartbeats 800000 in
theorem meet_any (A A':Option Addr) (n m c c':Nat) (s o:List Int) (w:World) (hs:Sl (Value.int .i64) w A n s) (ho:Sl (Value.int .i64) w A' m o) (hsa:Asc cmpI s) (hoa:Asc cmpI o) (hb:(n + m) * 8≤140737488355328) :
 Calls Tryz.prog 37 #[.agg #[.slice A n c],.agg #[.slice A' m c']] w fun e w'=>∃ Ao k co out,e=.returned (.agg #[.slice Ao k co])∧Chosen cmpI false true false s o out ∧
  Sl (Value.int .i64) w' Ao k out∧Below w.heap.size w w':=by
 obtain ⟨w0,hw0⟩:∃ w0:World,w0=((w.alloc (.cells #[.slice A n c] 66)).alloc (.cells #[.slice A' m c'] 66)).alloc (.cells #[.slice none 0 0] 66):=⟨_,rfl⟩
 obtain ⟨hsz,hs0,ho0,hbw,q1,q2,q3⟩:=boxes A A' n m c c' s o w w0 hw0 hs ho
 have r1:=q1.cell 0
 have r2:=q2.cell 0
 have HB:=Lib.hid hbw;clear hbw
 go_enter Tryz.func37,Tryz.ntmps37
 go_wp2_with fail
 rw [← hw0]
 rw [show w.heap.size + 1 + 1=w.heap.size + 2 from rfl]
 refine (choose_any A A' n m c c' s o false true false w0 hs0 ho0 hsa hoa hb).mono ?_
 rintro e w1 ⟨Ao,k,co,out,rfl,hch,how,hbel⟩
 have HC:=Lib.hid hch
 have p3:=q3.below' hbel
 have r3:=p3.cell 0
 have r4:=p3.frozen 0
 have r5:(w1.setCell ⟨w.heap.size + 2,0,none⟩ (.slice Ao k co)).cell? ⟨w.heap.size + 2,0,none⟩=some (.slice Ao k co):=(p3.put 0 _).cell 0
 have hk:k≤n + m:=by have h1:=hch.len;have h2:=how.length;have h3:=hs.len;have h4:=ho.len;omega
 clear hch
 go_wp2_with fail
 have hfin:Below w.heap.size w (w1.setCell ⟨w.heap.size + 2,0,none⟩ (.slice Ao k co)):=(HB.out.trans (hbel.mono (by omega))).setCell (show w.heap.size≤w.heap.size + 2 by omega) _
 exact bodyPost_ret (v:=.agg #[.slice Ao k co]) (by simp [results,Tryz.results37,go_sem,r5]) rfl ⟨Ao,k,co,out,rfl,HC.out,OwnR.sl (ownsRow_setCell_below how (show w.heap.size + 2 < w0.heap.size + 3 by omega) _) (by omega),hfin⟩

end SoI
end Go.Proofs.YtgbmnlmnhbkdbaaGreat
