/- credenceref20.Lend, walked: a network in memory of its own, with two marks behind each of its lists. Conditions: the network reads, within Go's bound. Printed by wip/gen/slend.py. -/
import Derived.Test.YtmncjibcoffmfaaGreatLendM
import Derived.Test.YtmncjibcoffmfaaGreatJ22
set_option linter.unusedVariables false
set_option linter.unusedSimpArgs false
namespace Go.Proofs.YtmncjibcoffmfaaGreat
open Go.RowKit

theorem eiSS:EI Tryz.prog 23 22 (.slice none 0 0) 24:=.mk' Tryz.underlying23 (by kernel_rfl) rfl (by omega)
theorem eiII:EI Tryz.prog 24 53 (.slice none 0 0) 24:=.mk' Tryz.underlying24 (by kernel_rfl) rfl (by omega)
theorem eiRR:EI Tryz.prog 25 45 (.slice none 0 0) 24:=.mk' Tryz.underlying25 (by kernel_rfl) rfl (by omega)
structure LentN (w:World) (lo:Nat) (N:NetV) (A1 A2 A3 A4:Option Addr) (c1 c2 c3 c4:Nat):Prop where
 names:LentX Value.string w lo 9 (A1,N.names.length,c1) N.names ⟨#[35,49]⟩ ⟨#[35,50]⟩
 vals:∃ hs,LentH w lo 22 A2 N.values.length c2 hs fun w i x=>LentX Value.string w lo 9 x (nth N.values i) ⟨#[35,51]⟩ ⟨#[35,52]⟩
 pars:∃ hs,LentH w lo 53 A3 N.parents.length c3 hs fun w i x=>LentX (Value.int .i64) w lo 3 x (nth N.parents i) (-95) (-96)
 tabs:∃ hs,LentH w lo 45 A4 N.tables.length c4 hs fun w i x=>LentT w lo x (nth N.tables i)
theorem LentN.below {w w':World} {lo:Nat} {N:NetV} {A1 A2 A3 A4:Option Addr} {c1 c2 c3 c4:Nat} (h:LentN w lo N A1 A2 A3 A4 c1 c2 c3 c4) (hb:Below w.heap.size w w'):LentN w' lo N A1 A2 A3 A4 c1 c2 c3 c4:=by
 obtain ⟨h1,⟨hs2,h2⟩,⟨hs3,h3⟩,⟨hs4,h4⟩⟩:=h
 exact ⟨h1.below hb,⟨hs2,h2.below hb fun i x r=>r.below hb⟩,⟨hs3,h3.below hb fun i x r=>r.below hb⟩,⟨hs4,h4.below hb fun i x r=>r.below hb⟩⟩
theorem LentN.net {w:World} {lo:Nat} {N:NetV} {A1 A2 A3 A4:Option Addr} {c1 c2 c3 c4:Nat} (h:LentN w lo N A1 A2 A3 A4 c1 c2 c3 c4) (hB:NetB N):NetAt w N A1 A2 A3 A4 c1 c2 c3 c4:=by
 obtain ⟨h1,⟨hs2,h2⟩,⟨hs3,h3⟩,⟨hs4,h4⟩⟩:=h
 have b1:=hB.names
 have b2:=hB.vals
 have b3:=hB.pars
 have b4:=hB.tabs
 have n1:=h1.sl (by omega)
 refine ⟨n1.1,⟨⟨hs2,h2.out.sl (by omega),fun i hi=>?_⟩,rfl⟩,⟨⟨hs3,h3.out.sl (by omega),fun i hi=>?_⟩,rfl⟩,⟨⟨hs4,h4.out.sl (by omega),fun i hi=>?_⟩,rfl⟩,n1.2,h2.out.cap,h3.out.cap,h4.out.cap⟩
 ·have r:=h2.row i hi
  have s:=r.sl (by have:=(hB.val _ (nth_mem hi)).1;omega)
  have e:=r.n
  rw [e];exact s
 ·have r:=h3.row i hi
  have s:=r.sl (by have:=hB.par _ (nth_mem hi);omega)
  have e:=r.n
  rw [e];exact s
 ·have r:=h4.row i hi
  have s:=r.raw (by have:=(hB.tab _ (nth_mem hi)).1;omega)
  have e:=r.n
  rw [e];exact s
theorem OwnR.some {α:Type} {enc:α→Value} {w:World} {base:Nat} {e:TypeId} {A:Option Addr} {n c:Nat} {xs:List α} (h:OwnR enc w base e A n c xs) (hn:0 < n):∃ g,A=some ⟨g,0,none⟩∧base≤g∧g < w.heap.size:=by
 rcases h.at_row with h1 | ⟨g,h1,h2,h3⟩
 ·subst h1
  rcases h.2 with ⟨_,h0⟩ | ⟨g,cap,cur,e1,_⟩
  ·omega
  ·injection e1 with e1;cases e1
 ·exact ⟨g,h1,h2,h3⟩
set_option maxRecDepth 100000 in
set_option maxHeartbeats 8000000 in
theorem lend_any (N:NetV) (A1 A2 A3 A4:Option Addr) (c1 c2 c3 c4:Nat) (w:World) (h:NetAt w N A1 A2 A3 A4 c1 c2 c3 c4) (hB:NetB N) :
 Calls Tryz.prog 6 #[.agg (netC N A1 A2 A3 A4 c1 c2 c3 c4).toArray] w fun e w'=>∃ B1 B2 B3 B4 d1 d2 d3 d4,e=.returned (.agg (netC N B1 B2 B3 B4 d1 d2 d3 d4).toArray)∧LentN w' w.heap.size N B1 B2 B3 B4 d1 d2 d3 d4∧Below w.heap.size w w':=by
 have H1:=(Held.init w).new 27 (netC N A1 A2 A3 A4 c1 c2 c3 c4)
 have H2:=H1.new 27 [.string ⟨#[]⟩,.slice none 0 0,.slice none 0 0,.slice none 0 0,.slice none 0 0]
 rw [show (w.alloc (.cells (netC N A1 A2 A3 A4 c1 c2 c3 c4).toArray 27)).heap.size=w.heap.size + 1 from by simp] at H2
 have H3:=H2.new 27 [.string N.name,.slice none 0 0,.slice none 0 0,.slice none 0 0,.slice none 0 0]
 rw [show ((w.alloc (.cells (netC N A1 A2 A3 A4 c1 c2 c3 c4).toArray 27)).alloc (.cells [.string ⟨#[]⟩,.slice none 0 0,.slice none 0 0,.slice none 0 0,.slice none 0 0].toArray 27)).heap.size=w.heap.size + 1 + 1 from by simp] at H3
 unfold netC at H2 H3 ⊢
 obtain ⟨wp,hwp⟩:∃ wp:World,wp=(w.alloc (.cells #[.string N.name,.slice A1 N.names.length c1,.slice A2 N.values.length c2,.slice A3 N.parents.length c3,.slice A4 N.tables.length c4] 27)).alloc (.cells #[.string ⟨#[]⟩,.slice none 0 0,.slice none 0 0,.slice none 0 0,.slice none 0 0] 27):=⟨_,rfl⟩
 rw [← hwp] at H2 H3
 obtain ⟨wq,hwq⟩:∃ wq:World,wq=wp.alloc (.cells #[.string N.name,.slice none 0 0,.slice none 0 0,.slice none 0 0,.slice none 0 0] 27):=⟨_,rfl⟩
 rw [← hwq] at H3
 have HIN:=Lib.hid (And.intro h hB)
 have rn0:RowC wp w.heap.size 27 [.string N.name,.slice A1 N.names.length c1,.slice A2 N.values.length c2,.slice A3 N.parents.length c3,.slice A4 N.tables.length c4]:=by
  have HG:=H2;exact (bg HG)
 have p0:=rn0.cell 0
 go_enter Tryz.func6,Tryz.ntmps6
 go_upto_region 1 with fail
 rw [← hwp]
 have hwps:wp.heap.size=w.heap.size + 1 + 1:=by rw [hwp];simp
 clear hwp
 go_upto_region 2 with fail
 rw [← hwq]
 have hb:=HIN.out.2
 have hnn:=hb.names
 have hvv:=hb.vals
 have hpp:=hb.pars
 have htt:=hb.tabs
 have hN:=h.below (Nat.le_refl _) H3.bel
 have hwqs:wq.heap.size=w.heap.size + 1 + 1 + 1:=by rw [hwq];simp [hwps]
 have hwl:w.heap.size + 1 + 1 < wq.heap.size:=by omega
 have hsN:=hN.n1
 have rn:RowC wq w.heap.size 27 [.string N.name,.slice A1 N.names.length c1,.slice A2 N.values.length c2,.slice A3 N.parents.length c3,.slice A4 N.tables.length c4]:=by
  have HG:=H3;exact (bg HG)
 have rb:RowC wq (w.heap.size + 1 + 1) 27 [.string N.name,.slice none 0 0,.slice none 0 0,.slice none 0 0,.slice none 0 0]:=H3.has.1
 have rg:RowC wq (w.heap.size + 1) 27 [.string ⟨#[]⟩,.slice none 0 0,.slice none 0 0,.slice none 0 0,.slice none 0 0]:=by
  have HG:=H3;exact (bg HG)
 have hbel:=H3.bel
 clear hwq hwps hwqs H1 H2 H3 rn0 p0 hb
 have q1:=rn.cell 1
 have t1:=rb.cell 1
 have ho0:OwnR Value.string wq wq.heap.size 9 none 0 0 []:=OwnR.nil _ _ _ _
 have q8:(0 + N.names.length) * 16≤140737488355328:=by omega
 have HQ:=Lib.hid (And.intro rn (And.intro rb (And.intro rg hbel)))
 clear rn rb rg hbel hN
 go_wp2_with (first
  | (at_builtin;refine wpList_app _ eiTxt Value.string (fun _=>rfl) rfl _ _ rfl wq.heap.size _ _ _ _ rfl ho0 _ _ _ _ rfl hsN q8 (Nat.le_refl _) ?_)
  | fail)
 intro C1 k1 w1 ho1 _ hb1 _
 have ho1:OwnR Value.string w1 wq.heap.size 9 C1 N.names.length k1 N.names:=by simpa using ho1
 try rw [Nat.zero_add]
 have rb1:=HQ.out.2.1.below' hb1
 have rn1:=HQ.out.1.below' hb1
 have t1:=rb1.cell 1
 have f1:=rb1.frozen 1
 have hs1:=hb1.size
 clear ho0 q1 q8 hsN
 go_upto_region 3 with fail
 obtain ⟨y1,hy1⟩:∃ y:World,y=w1.setCell ⟨w.heap.size + 1 + 1,1,none⟩ (.slice C1 N.names.length k1):=⟨_,rfl⟩
 rw [← hy1]
 have rb2:=rb1.put 1 (.slice C1 N.names.length k1)
 rw [← hy1] at rb2
 have t1:y1.cell? ⟨w.heap.size + 1 + 1,1,none⟩=some (.slice C1 N.names.length k1):=rb2.cell 1
 have hT1:Turn wq y1 (fun b=>b=w.heap.size + 1 + 1):=by rw [hy1];exact ((Turn.refl wq (fun b=>b=w.heap.size + 1 + 1)).step hb1 (Nat.le_refl _)).setCell ⟨w.heap.size + 1 + 1,1,none⟩ (fun _=>rfl) _
 have ho2:OwnR Value.string y1 wq.heap.size 9 C1 N.names.length k1 N.names:=by rw [hy1];exact ho1.turnGe ((Turn.refl w1 (fun b=>b=w.heap.size + 1 + 1)).setCell ⟨w.heap.size + 1 + 1,1,none⟩ (fun _=>rfl) _) (fun k hk e=>by omega)
 have hs2:=hT1.size
 have ho2':=ho2.alloc (.cells #[.string ⟨#[35,49]⟩,.string ⟨#[35,50]⟩] 9)
 have hsl2:Sl Value.string (y1.alloc (.cells #[.string ⟨#[35,49]⟩,.string ⟨#[35,50]⟩] 9)) (some ⟨y1.heap.size,0,none⟩) 2 [⟨#[35,49]⟩,⟨#[35,50]⟩]:=Sl.litM Value.string y1 9 [⟨#[35,49]⟩,⟨#[35,50]⟩] (by simp)
 have q8:(N.names.length + 2) * 16≤140737488355328:=by omega
 have hb2:Below y1.heap.size y1 (y1.alloc (.cells #[.string ⟨#[35,49]⟩,.string ⟨#[35,50]⟩] 9)):=(Below.refl _ _).alloc (Nat.le_refl _) _
 have hq2:wq.heap.size≤(y1.alloc (.cells #[.string ⟨#[35,49]⟩,.string ⟨#[35,50]⟩] 9)).heap.size:=by have:=hb2.size;omega
 have H2':=Lib.hid (And.intro hT1 (And.intro rb2 hb2))
 clear hy1 ho1 rb1 rn1 f1 hb1 ho2 hT1 hb2 rb2
 go_wp2_with (first
  | (at_builtin;refine wpList_app _ eiTxt Value.string (fun _=>rfl) rfl _ _ rfl wq.heap.size _ _ _ _ rfl ho2' _ _ _ _ rfl hsl2 q8 hq2 ?_)
  | fail)
 intro C2 k2 w2 ho3 _ hb3 _
 have hT2:=(H2'.out.1.step H2'.out.2.2 hs2).step hb3 (Nat.le_refl _)
 have rb3:RowC w2 (w.heap.size + 1 + 1) 27 _:=(hb3.block _ hwl).trans (H2'.out.2.1.below' H2'.out.2.2)
 obtain ⟨g1,rfl,hg1,_⟩:=ho3.some (by omega)
 have hcap:=ho3.cap
 have t1:w2.cell? ⟨w.heap.size + 1 + 1,1,none⟩=some (.slice C1 N.names.length k1):=rb3.cell 1
 have f1:=rb3.frozen 1
 clear ho2' hsl2 q8 hq2
 go_upto_region 4 with fail
 obtain ⟨y2,hy2⟩:∃ y:World,y=w2.setCell ⟨w.heap.size + 1 + 1,1,none⟩ (.slice (some ⟨g1,0,none⟩) (N.names.length + 2) k2):=⟨_,rfl⟩
 rw [← hy2]
 have rb4:RowC y2 (w.heap.size + 1 + 1) 27 [.string N.name,.slice (some ⟨g1,0,none⟩) (N.names.length + 2) k2,.slice none 0 0,.slice none 0 0,.slice none 0 0]:=by rw [hy2];exact rb3.put 1 _
 have hT3:Turn wq y2 (fun b=>b=w.heap.size + 1 + 1):=by rw [hy2];exact hT2.setCell ⟨w.heap.size + 1 + 1,1,none⟩ (fun _=>rfl) _
 have ho4:OwnR Value.string y2 wq.heap.size 9 (some ⟨g1,0,none⟩) (N.names.length + 2) k2 (N.names ++ [⟨#[35,49]⟩,⟨#[35,50]⟩]):=by rw [hy2];exact ho3.turnGe ((Turn.refl w2 (fun b=>b=w.heap.size + 1 + 1)).setCell ⟨w.heap.size + 1 + 1,1,none⟩ (fun _=>rfl) _) (fun k hk e=>by omega)
 have t1:=rb4.cell 1
 have f1:=rb4.frozen 1
 have q1:=(HQ.out.1.turn hT3 (by omega)).cell 1
 clear hy2 hT2 rb3 ho3 hb3 H2'
 go_upto_region 5 with fail
 obtain ⟨y3,hy3⟩:∃ y:World,y=y2.setCell ⟨w.heap.size + 1 + 1,1,none⟩ (.slice (some ⟨g1,0,none⟩) N.names.length k2):=⟨_,rfl⟩
 rw [← hy3]
 have rb5:RowC y3 (w.heap.size + 1 + 1) 27 [.string N.name,.slice (some ⟨g1,0,none⟩) N.names.length k2,.slice none 0 0,.slice none 0 0,.slice none 0 0]:=by rw [hy3];exact rb4.put 1 _
 have hT4:Turn wq y3 (fun b=>b=w.heap.size + 1 + 1):=by rw [hy3];exact hT3.setCell ⟨w.heap.size + 1 + 1,1,none⟩ (fun _=>rfl) _
 have ho5:LentX Value.string y3 wq.heap.size 9 (some ⟨g1,0,none⟩,N.names.length,k2) N.names ⟨#[35,49]⟩ ⟨#[35,50]⟩:=⟨rfl,by rw [hy3];exact ho4.turnGe ((Turn.refl y2 (fun b=>b=w.heap.size + 1 + 1)).setCell ⟨w.heap.size + 1 + 1,1,none⟩ (fun _=>rfl) _) (fun k hk e=>by omega)⟩
 have hs3:=hT4.size
 have HZ1:=Lib.hid (And.intro hT4 ho5)
 clear hy3 hT3 rb4 ho4 t1 f1 hs2 hs1 hcap
 have r2:y3.cell? ⟨w.heap.size,2,none⟩=some (.slice A2 N.values.length c2):=(HQ.out.1.turn HZ1.out.1 (by omega)).cell 2
 have RZ:=Lib.hid rb5
 go_wp2_with fail
 go_loopw [4] (fun i wr=>∃ (j:Nat) (A':Option Addr) (c':Nat) (hs:List (Option Addr × Nat × Nat)),j≤N.values.length∧i=.int .i64 (j:Nat)∧Turn y3 wr (fun b=>b=w.heap.size + 1 + 1)∧RowC wr (w.heap.size + 1 + 1) 27 [.string N.name,.slice (some ⟨g1,0,none⟩) N.names.length k2,.slice A' j c',.slice none 0 0,.slice none 0 0]∧LentH wr y3.heap.size 22 A' j c' hs (fun w i x=>LentX Value.string w y3.heap.size 9 x (nth N.values i) ⟨#[35,51]⟩ ⟨#[35,52]⟩)) (fun i _=>N.values.length - (intOf i).toNat)
 case atStart=>exact ⟨0,none,0,[],by omega,rfl,Turn.refl _ _,RZ.out,⟨OwnR.nil _ _ _ _,fun i hi=>absurd hi (Nat.not_lt_zero _)⟩⟩
 case round =>
  clear r2
  obtain ⟨j,Ao,co,hs,hj,rfl,hTz,rb,hLH⟩:=hrel
  have hTw:Turn wq wr (fun b=>b=w.heap.size + 1 + 1):=HZ1.out.1.trans hTz (fun _ _ e=>e)
  have hbw:Below w.heap.size w wr:=HQ.out.2.2.2.trans (hTw.below (by omega) (fun k hk e=>by omega))
  have rn:=HQ.out.1.turn hTw (by omega)
  have q2:wr.cell? ⟨w.heap.size,2,none⟩=some (.slice A2 N.values.length c2):=rn.cell 2
  have hzw:=hTz.size
  by_cases hjn:j < N.values.length
  case pos=>as_aux_lemma =>
   have hdj:decide ((j:Int) < (N.values.length:Int))=true:=decide_eq_true (by omega)
   have hjI:(j:Int) < (N.values.length:Int):=by omega
   obtain ⟨b2,off2,B2,m2,d2,rfl,hb2,q1,hsl,_⟩:=h.n2.rowC hjn
   have hm2:m2≤1048576:=by have h1:=(HIN.out.2.val _ (nth_mem hjn)).1;have h2:=hsl.len;omega
   have hml:(nth N.values j).length=m2:=hsl.len
   have q1:=bc hbw q1 hb2
   have hsl:=hsl.below (Nat.le_refl _) hbw
   have hb2r:b2 < wr.heap.size:=Nat.lt_of_lt_of_le hb2 hbw.size
   have ho0:OwnR Value.string wr wr.heap.size 9 none 0 0 []:=OwnR.nil _ _ _ _
   have q8:(0 + m2) * 16≤140737488355328:=by omega
   have HR:=Lib.hid (And.intro hTz (And.intro rb (And.intro hLH (And.intro rn hml))))
   clear hTz rb hLH hTw hbw rn hml
   go_wp2_with (first
    | (at_builtin;refine wpList_app _ eiTxt Value.string (fun _=>rfl) rfl _ _ rfl wr.heap.size _ _ _ _ rfl ho0 _ _ _ _ rfl hsl q8 (Nat.le_refl _) ?_)
    | fail)
   intro C1 k1 w1 ho1 _ hb1 _
   have ho1:OwnR Value.string w1 wr.heap.size 9 C1 m2 k1 (nth N.values j):=by simpa using ho1
   try rw [Nat.zero_add]
   have hs1:=hb1.size
   have ho2':=ho1.alloc (.cells #[.string ⟨#[35,51]⟩,.string ⟨#[35,52]⟩] 9)
   have hsl2:Sl Value.string (w1.alloc (.cells #[.string ⟨#[35,51]⟩,.string ⟨#[35,52]⟩] 9)) (some ⟨w1.heap.size,0,none⟩) 2 [⟨#[35,51]⟩,⟨#[35,52]⟩]:=Sl.litM Value.string w1 9 [⟨#[35,51]⟩,⟨#[35,52]⟩] (by simp)
   have q8':(m2 + 2) * 16≤140737488355328:=by omega
   have hb2':Below w1.heap.size w1 (w1.alloc (.cells #[.string ⟨#[35,51]⟩,.string ⟨#[35,52]⟩] 9)):=(Below.refl _ _).alloc (Nat.le_refl _) _
   have hq2:wr.heap.size≤(w1.alloc (.cells #[.string ⟨#[35,51]⟩,.string ⟨#[35,52]⟩] 9)).heap.size:=by have:=hb2'.size;omega
   have HB1:=Lib.hid (hb1.trans (hb2'.mono hs1))
   clear ho1 hb1 hb2' hsl ho0 q8
   go_wp2_with (first
    | (at_builtin;refine wpList_app _ eiTxt Value.string (fun _=>rfl) rfl _ _ rfl wr.heap.size _ _ _ _ rfl ho2' _ _ _ _ rfl hsl2 q8' hq2 ?_)
    | fail)
   intro C2 kI w2 ho3 _ hb3 _
   have hbW:Below wr.heap.size wr w2:=HB1.out.trans hb3
   obtain ⟨gI,rfl,hgI,_⟩:=ho3.some (by omega)
   have hcapI:=ho3.cap
   have hmk:m2≤kI:=by omega
   have hsW:=hbW.size
   clear ho2' hsl2 q8' hq2 hb3
   go_upto_region 11 with fail
   have q2:=bc hbW q2 HR.out.2.2.2.1.lt
   have q1:=bc hbW q1 hb2r
   have rb2:=HR.out.2.1.below' hbW
   have x2:w2.cell? ⟨w.heap.size + 1 + 1,2,none⟩=some (.slice Ao j co):=rb2.cell 2
   have hwW:=Nat.lt_of_lt_of_le HR.out.2.2.2.1.lt hsW
   have hb2W:=Nat.lt_of_lt_of_le hb2r hsW
   have hlen:=HR.out.2.2.1.len
   refine wp_region_lastL (S:=fun w'=>w'.cell? ⟨w.heap.size + 1 + 1,2,none⟩=some (.slice Ao j co)∧w'.cell? ⟨w.heap.size,2,none⟩=some (.slice (some ⟨b2,off2,none⟩) N.values.length c2)∧w'.cell? ⟨b2,off2 + j,none⟩=some (.slice B2 m2 d2)) 13 13 (by kernel_rfl) rfl rfl rfl (by kernel_rfl) ?hS15 (fun hHeld=>?rest15)
   case hS15=>(first | exact ⟨x2,q2,q1⟩ | assumption | go_keep)
   refine tk 0 rfl ?_
   try simp only [Act.put,sp]
   refine tk 1 rfl ?_
   try simp only [Act.put,sp]
   refine tk 2 rfl ?_
   try simp only [Act.put,sp]
   refine tk 3 rfl ?_
   try simp only [Act.put,sp]
   refine tk 4 rfl ?_
   try simp only [Act.put,sp]
   refine tk 5 rfl ?_
   try simp only [Act.put,sp]
   refine tk 6 rfl ?_
   try simp only [Act.put,sp]
   refine tk 7 rfl ?_
   try simp only [Act.put,sp]
   refine tk 8 rfl ?_
   try simp only [Act.put,sp]
   refine tk 9 rfl ?_
   try simp only [Act.put,sp]
   refine wpAnyH_ready (rs:=[10]) (by kernel_rfl) (by simp) (consL rfl (fun K hK=>?step26))
   (go_simp;(obtain ⟨ya,hya⟩:∃ y,y=(w2.alloc (.cells #[.slice (some ⟨gI,0,none⟩) m2 kI] 22)).drew:=⟨_,rfl⟩);(obtain ⟨gA,hgA⟩:∃ g,g=w2.heap.size:=⟨_,rfl⟩);(have hbs:Below w2.heap.size w2 ya:=by rw [hya];exact ((Below.refl _ _).alloc (Nat.le_refl _) _).trans (below_refl_drewN _ _ 1));(have hone:Sl eS ya (some ⟨gA,0,none⟩) 1 [(some ⟨gI,0,none⟩,m2,kI)]:=by rw [hya,hgA];exact (Sl.litM eS w2 22 [(some ⟨gI,0,none⟩,m2,kI)] (by simp)).drewN 1);(rw [← hya,← hgA]);(have hsY:=hbs.size);(clear hya);(have q2:=bc hbs q2 hwW);(have q1:=bc hbs q1 hb2W);(have rb3:=rb2.below' hbs);(have x2:ya.cell? ⟨w.heap.size + 1 + 1,2,none⟩=some (.slice Ao j co):=rb3.cell 2);(have hbY:Below wr.heap.size wr ya:=hbW.trans (hbs.mono hsW));(have hoY:=HR.out.2.2.1.out.below (Nat.le_refl _) hbY))
   refine hK.out _ _ ?hS26 (fun hHeld=>?rest26)
   case hS26=>(first | exact ⟨x2,q2,q1⟩ | assumption | go_keep)
   clear hK K
   try simp only [Act.put,sp]
   refine wpAnyH_ready (rs:=[11]) (by kernel_rfl) (by simp) (consL rfl (fun K hK=>?step27))
   (refine step_appR _ eiSS eS one_eS (by rfl) (.tmp 50) (.tmp 59) (by rfl) y3.heap.size Ao j co hs (by rfl) hoY (some ⟨gA,0,none⟩) 1 1 [(some ⟨gI,0,none⟩,m2,kI)] (by rfl) hone (by omega) (by omega) ?_;(intro A5 c5 w5 ho5 hg5 hb5 _);(have q2:=bc hb5 q2 (show w.heap.size < y3.heap.size by omega));(have q1:=bc hb5 q1 (show b2 < y3.heap.size by omega));(have rb4:RowC w5 (w.heap.size + 1 + 1) 27 _:=(hb5.block _ (by omega)).trans rb3);(have x2:w5.cell? ⟨w.heap.size + 1 + 1,2,none⟩=some (.slice Ao j co):=rb4.cell 2);(have f2:=rb4.frozen 2))
   refine hK.out _ _ ?hS27 (fun hHeld=>?rest27)
   case hS27=>(first | exact ⟨x2,q2,q1⟩ | assumption | go_keep)
   clear hK K
   try simp only [Act.put,sp]
   refine tk 12 rfl ?_
   try simp only [Act.put,sp]
   refine wpAnyH_done (by kernel_rfl) ?_ _
   unfold AheadOf
   go_simp
   obtain ⟨w6,hw6⟩:∃ y:World,y=w5.setCell ⟨w.heap.size + 1 + 1,2,none⟩ (.slice A5 (j + 1) c5):=⟨_,rfl⟩
   rw [← hw6]
   have hTs:Turn w5 w6 (fun b=>b=w.heap.size + 1 + 1):=by rw [hw6];exact (Turn.refl w5 (fun b=>b=w.heap.size + 1 + 1)).setCell ⟨w.heap.size + 1 + 1,2,none⟩ (fun _=>rfl) _
   have hT6:Turn y3 w6 (fun b=>b=w.heap.size + 1 + 1):=((HR.out.1.step hbY hzw).step hb5 (Nat.le_refl _)).trans hTs (fun _ _ e=>e)
   have rb6:RowC w6 (w.heap.size + 1 + 1) 27 [.string N.name,.slice (some ⟨g1,0,none⟩) N.names.length k2,.slice A5 (j + 1) c5,.slice none 0 0,.slice none 0 0]:=by rw [hw6];exact rb4.put 2 (.slice A5 (j + 1) c5)
   have hnI:LentX Value.string w5 y3.heap.size 9 (some ⟨gI,0,none⟩,m2,kI) (nth N.values j) ⟨#[35,51]⟩ ⟨#[35,52]⟩:=⟨HR.out.2.2.2.2.symm,by rw [HR.out.2.2.2.2];exact ((ho3.mono hzw).below (Nat.le_refl _) hbs).parted hoY (by decide) hg5⟩
   have hL5:=HR.out.2.2.1.snoc (R:=fun w i x=>LentX Value.string w y3.heap.size 9 x (nth N.values i) ⟨#[35,51]⟩ ⟨#[35,52]⟩) ho5 (fun i x _ r=>(r.below hbY).parted hoY (by decide) hg5) hnI
   have hL6:=hL5.turn hTs (fun k hk e=>by omega) (fun i x r=>r.turn hTs (fun k hk e=>by omega))
   have HX:=Lib.hid (And.intro hT6 (And.intro rb6 hL6))
   clear hw6 hTs hT6 rb6 hnI hL5 hL6 ho5 hg5 hb5 rb4 x2 f2 q1 q2 hHeld
   (try go_wp2_with fail)
   exact ⟨⟨j + 1,A5,c5,_,by omega,by go_num,HX.out.1,HX.out.2.1,HX.out.2.2⟩,by simp [intOf];omega⟩
  case neg =>
   obtain rfl:N.values.length=j:=by omega
   have hd0:decide ((N.values.length:Int) < (N.values.length:Int))=false:=decide_eq_false (by omega)
   obtain ⟨y4,rfl⟩:∃ y,y=wr:=⟨_,rfl⟩
   obtain ⟨AV,rfl⟩:∃ y,y=Ao:=⟨_,rfl⟩
   obtain ⟨cV,rfl⟩:∃ y,y=co:=⟨_,rfl⟩
   obtain ⟨hsV,rfl⟩:∃ y,y=hs:=⟨_,rfl⟩
   have HZ2:=Lib.hid (And.intro hTw (And.intro hLH (And.intro hTz hzw)))
   have hs4:=hTw.size
   clear hTz hTw hLH hbw rn hT4 ho5 hd0 q1
   have r3:y4.cell? ⟨w.heap.size,3,none⟩=some (.slice A3 N.parents.length c3):=(HQ.out.1.turn HZ2.out.1 (by omega)).cell 3
   have RZ:=Lib.hid rb
   go_wp2_with fail
   go_loopw [6] (fun i wr=>∃ (j:Nat) (A':Option Addr) (c':Nat) (hs:List (Option Addr × Nat × Nat)),j≤N.parents.length∧i=.int .i64 (j:Nat)∧Turn y4 wr (fun b=>b=w.heap.size + 1 + 1)∧RowC wr (w.heap.size + 1 + 1) 27 [.string N.name,.slice (some ⟨g1,0,none⟩) N.names.length k2,.slice AV N.values.length cV,.slice A' j c',.slice none 0 0]∧LentH wr y4.heap.size 53 A' j c' hs (fun w i x=>LentX (Value.int .i64) w y4.heap.size 3 x (nth N.parents i) (-95) (-96))) (fun i _=>N.parents.length - (intOf i).toNat)
   case atStart=>exact ⟨0,none,0,[],by omega,rfl,Turn.refl _ _,RZ.out,⟨OwnR.nil _ _ _ _,fun i hi=>absurd hi (Nat.not_lt_zero _)⟩⟩
   case round =>
    clear r3
    obtain ⟨j,Ao,co,hs,hj,rfl,hTz,rb,hLH⟩:=hrel
    have hTw:Turn wq wr (fun b=>b=w.heap.size + 1 + 1):=HZ2.out.1.trans hTz (fun _ _ e=>e)
    have hbw:Below w.heap.size w wr:=HQ.out.2.2.2.trans (hTw.below (by omega) (fun k hk e=>by omega))
    have rn:=HQ.out.1.turn hTw (by omega)
    have q2:wr.cell? ⟨w.heap.size,3,none⟩=some (.slice A3 N.parents.length c3):=rn.cell 3
    have hzw:=hTz.size
    by_cases hjn:j < N.parents.length
    case pos=>as_aux_lemma =>
     have hdj:decide ((j:Int) < (N.parents.length:Int))=true:=decide_eq_true (by omega)
     have hjI:(j:Int) < (N.parents.length:Int):=by omega
     obtain ⟨b2,off2,B2,m2,d2,rfl,hb2,q1,hsl,_⟩:=h.n3.rowC hjn
     have hm2:m2≤1048576:=by have h1:=HIN.out.2.par _ (nth_mem hjn);have h2:=hsl.len;omega
     have hml:(nth N.parents j).length=m2:=hsl.len
     have q1:=bc hbw q1 hb2
     have hsl:=hsl.below (Nat.le_refl _) hbw
     have hb2r:b2 < wr.heap.size:=Nat.lt_of_lt_of_le hb2 hbw.size
     have ho0:OwnR (Value.int .i64) wr wr.heap.size 3 none 0 0 []:=OwnR.nil _ _ _ _
     have q8:(0 + m2) * 8≤140737488355328:=by omega
     have HR:=Lib.hid (And.intro hTz (And.intro rb (And.intro hLH (And.intro rn hml))))
     clear hTz rb hLH hTw hbw rn hml
     go_wp2_with (first
      | (at_builtin;refine wpList_app _ eiNum (Value.int .i64) (fun _=>rfl) rfl _ _ rfl wr.heap.size _ _ _ _ rfl ho0 _ _ _ _ rfl hsl q8 (Nat.le_refl _) ?_)
      | fail)
     intro C1 k1 w1 ho1 _ hb1 _
     have ho1:OwnR (Value.int .i64) w1 wr.heap.size 3 C1 m2 k1 (nth N.parents j):=by simpa using ho1
     try rw [Nat.zero_add]
     have hs1:=hb1.size
     have ho2':=ho1.alloc (.cells #[.int .i64 (-95),.int .i64 (-96)] 3)
     have hsl2:Sl (Value.int .i64) (w1.alloc (.cells #[.int .i64 (-95),.int .i64 (-96)] 3)) (some ⟨w1.heap.size,0,none⟩) 2 [(-95),(-96)]:=Sl.litM (Value.int .i64) w1 3 [(-95),(-96)] (by simp)
     have q8':(m2 + 2) * 8≤140737488355328:=by omega
     have hb2':Below w1.heap.size w1 (w1.alloc (.cells #[.int .i64 (-95),.int .i64 (-96)] 3)):=(Below.refl _ _).alloc (Nat.le_refl _) _
     have hq2:wr.heap.size≤(w1.alloc (.cells #[.int .i64 (-95),.int .i64 (-96)] 3)).heap.size:=by have:=hb2'.size;omega
     have HB1:=Lib.hid (hb1.trans (hb2'.mono hs1))
     clear ho1 hb1 hb2' hsl ho0 q8
     go_wp2_with (first
      | (at_builtin;refine wpList_app _ eiNum (Value.int .i64) (fun _=>rfl) rfl _ _ rfl wr.heap.size _ _ _ _ rfl ho2' _ _ _ _ rfl hsl2 q8' hq2 ?_)
      | fail)
     intro C2 kI w2 ho3 _ hb3 _
     have hbW:Below wr.heap.size wr w2:=HB1.out.trans hb3
     obtain ⟨gI,rfl,hgI,_⟩:=ho3.some (by omega)
     have hcapI:=ho3.cap
     have hmk:m2≤kI:=by omega
     have hsW:=hbW.size
     clear ho2' hsl2 q8' hq2 hb3
     go_upto_region 18 with fail
     have q2:=bc hbW q2 HR.out.2.2.2.1.lt
     have q1:=bc hbW q1 hb2r
     have rb2:=HR.out.2.1.below' hbW
     have x2:w2.cell? ⟨w.heap.size + 1 + 1,3,none⟩=some (.slice Ao j co):=rb2.cell 3
     have hwW:=Nat.lt_of_lt_of_le HR.out.2.2.2.1.lt hsW
     have hb2W:=Nat.lt_of_lt_of_le hb2r hsW
     have hlen:=HR.out.2.2.1.len
     refine wp_region_lastL (S:=fun w'=>w'.cell? ⟨w.heap.size + 1 + 1,3,none⟩=some (.slice Ao j co)∧w'.cell? ⟨w.heap.size,3,none⟩=some (.slice (some ⟨b2,off2,none⟩) N.parents.length c3)∧w'.cell? ⟨b2,off2 + j,none⟩=some (.slice B2 m2 d2)) 13 13 (by kernel_rfl) rfl rfl rfl (by kernel_rfl) ?hS29 (fun hHeld=>?rest29)
     case hS29=>(first | exact ⟨x2,q2,q1⟩ | assumption | go_keep)
     refine tk 0 rfl ?_
     try simp only [Act.put,sp]
     refine tk 1 rfl ?_
     try simp only [Act.put,sp]
     refine tk 2 rfl ?_
     try simp only [Act.put,sp]
     refine tk 3 rfl ?_
     try simp only [Act.put,sp]
     refine tk 4 rfl ?_
     try simp only [Act.put,sp]
     refine tk 5 rfl ?_
     try simp only [Act.put,sp]
     refine tk 6 rfl ?_
     try simp only [Act.put,sp]
     refine tk 7 rfl ?_
     try simp only [Act.put,sp]
     refine tk 8 rfl ?_
     try simp only [Act.put,sp]
     refine tk 9 rfl ?_
     try simp only [Act.put,sp]
     refine wpAnyH_ready (rs:=[10]) (by kernel_rfl) (by simp) (consL rfl (fun K hK=>?step40))
     (go_simp;(obtain ⟨ya,hya⟩:∃ y,y=(w2.alloc (.cells #[.slice (some ⟨gI,0,none⟩) m2 kI] 53)).drew:=⟨_,rfl⟩);(obtain ⟨gA,hgA⟩:∃ g,g=w2.heap.size:=⟨_,rfl⟩);(have hbs:Below w2.heap.size w2 ya:=by rw [hya];exact ((Below.refl _ _).alloc (Nat.le_refl _) _).trans (below_refl_drewN _ _ 1));(have hone:Sl eS ya (some ⟨gA,0,none⟩) 1 [(some ⟨gI,0,none⟩,m2,kI)]:=by rw [hya,hgA];exact (Sl.litM eS w2 53 [(some ⟨gI,0,none⟩,m2,kI)] (by simp)).drewN 1);(rw [← hya,← hgA]);(have hsY:=hbs.size);(clear hya);(have q2:=bc hbs q2 hwW);(have q1:=bc hbs q1 hb2W);(have rb3:=rb2.below' hbs);(have x2:ya.cell? ⟨w.heap.size + 1 + 1,3,none⟩=some (.slice Ao j co):=rb3.cell 3);(have hbY:Below wr.heap.size wr ya:=hbW.trans (hbs.mono hsW));(have hoY:=HR.out.2.2.1.out.below (Nat.le_refl _) hbY))
     refine hK.out _ _ ?hS40 (fun hHeld=>?rest40)
     case hS40=>(first | exact ⟨x2,q2,q1⟩ | assumption | go_keep)
     clear hK K
     try simp only [Act.put,sp]
     refine wpAnyH_ready (rs:=[11]) (by kernel_rfl) (by simp) (consL rfl (fun K hK=>?step41))
     (refine step_appR _ eiII eS one_eS (by rfl) (.tmp 80) (.tmp 89) (by rfl) y4.heap.size Ao j co hs (by rfl) hoY (some ⟨gA,0,none⟩) 1 1 [(some ⟨gI,0,none⟩,m2,kI)] (by rfl) hone (by omega) (by omega) ?_;(intro A5 c5 w5 ho5 hg5 hb5 _);(have q2:=bc hb5 q2 (show w.heap.size < y4.heap.size by omega));(have q1:=bc hb5 q1 (show b2 < y4.heap.size by omega));(have rb4:RowC w5 (w.heap.size + 1 + 1) 27 _:=(hb5.block _ (by omega)).trans rb3);(have x2:w5.cell? ⟨w.heap.size + 1 + 1,3,none⟩=some (.slice Ao j co):=rb4.cell 3);(have f2:=rb4.frozen 3))
     refine hK.out _ _ ?hS41 (fun hHeld=>?rest41)
     case hS41=>(first | exact ⟨x2,q2,q1⟩ | assumption | go_keep)
     clear hK K
     try simp only [Act.put,sp]
     refine tk 12 rfl ?_
     try simp only [Act.put,sp]
     refine wpAnyH_done (by kernel_rfl) ?_ _
     unfold AheadOf
     go_simp
     obtain ⟨w6,hw6⟩:∃ y:World,y=w5.setCell ⟨w.heap.size + 1 + 1,3,none⟩ (.slice A5 (j + 1) c5):=⟨_,rfl⟩
     rw [← hw6]
     have hTs:Turn w5 w6 (fun b=>b=w.heap.size + 1 + 1):=by rw [hw6];exact (Turn.refl w5 (fun b=>b=w.heap.size + 1 + 1)).setCell ⟨w.heap.size + 1 + 1,3,none⟩ (fun _=>rfl) _
     have hT6:Turn y4 w6 (fun b=>b=w.heap.size + 1 + 1):=((HR.out.1.step hbY hzw).step hb5 (Nat.le_refl _)).trans hTs (fun _ _ e=>e)
     have rb6:RowC w6 (w.heap.size + 1 + 1) 27 [.string N.name,.slice (some ⟨g1,0,none⟩) N.names.length k2,.slice AV N.values.length cV,.slice A5 (j + 1) c5,.slice none 0 0]:=by rw [hw6];exact rb4.put 3 (.slice A5 (j + 1) c5)
     have hnI:LentX (Value.int .i64) w5 y4.heap.size 3 (some ⟨gI,0,none⟩,m2,kI) (nth N.parents j) (-95) (-96):=⟨HR.out.2.2.2.2.symm,by rw [HR.out.2.2.2.2];exact ((ho3.mono hzw).below (Nat.le_refl _) hbs).parted hoY (by decide) hg5⟩
     have hL5:=HR.out.2.2.1.snoc (R:=fun w i x=>LentX (Value.int .i64) w y4.heap.size 3 x (nth N.parents i) (-95) (-96)) ho5 (fun i x _ r=>(r.below hbY).parted hoY (by decide) hg5) hnI
     have hL6:=hL5.turn hTs (fun k hk e=>by omega) (fun i x r=>r.turn hTs (fun k hk e=>by omega))
     have HX:=Lib.hid (And.intro hT6 (And.intro rb6 hL6))
     clear hw6 hTs hT6 rb6 hnI hL5 hL6 ho5 hg5 hb5 rb4 x2 f2 q1 q2 hHeld
     (try go_wp2_with fail)
     exact ⟨⟨j + 1,A5,c5,_,by omega,by go_num,HX.out.1,HX.out.2.1,HX.out.2.2⟩,by simp [intOf];omega⟩
    case neg =>
     obtain rfl:N.parents.length=j:=by omega
     obtain ⟨y5,rfl⟩:∃ y,y=wr:=⟨_,rfl⟩
     obtain ⟨AP,rfl⟩:∃ y,y=Ao:=⟨_,rfl⟩
     obtain ⟨cP,rfl⟩:∃ y,y=co:=⟨_,rfl⟩
     obtain ⟨hsP,rfl⟩:∃ y,y=hs:=⟨_,rfl⟩
     have HZ3:=Lib.hid (And.intro hTw (And.intro hLH (And.intro hTz hzw)))
     have hs5:=hTw.size
     clear hTz hTw hLH hbw rn
     have r4:y5.cell? ⟨w.heap.size,4,none⟩=some (.slice A4 N.tables.length c4):=(HQ.out.1.turn HZ3.out.1 (by omega)).cell 4
     have RZ:=Lib.hid rb
     go_wp2_with fail
     go_loopw [8] (fun i wr=>∃ (j:Nat) (A':Option Addr) (c':Nat) (hs:List (Option Addr × Nat × Nat)),j≤N.tables.length∧i=.int .i64 (j:Nat)∧Turn y5 wr (fun b=>b=w.heap.size + 1 + 1)∧RowC wr (w.heap.size + 1 + 1) 27 [.string N.name,.slice (some ⟨g1,0,none⟩) N.names.length k2,.slice AV N.values.length cV,.slice AP N.parents.length cP,.slice A' j c']∧LentH wr y5.heap.size 45 A' j c' hs (fun w i x=>LentT w y5.heap.size x (nth N.tables i))) (fun i _=>N.tables.length - (intOf i).toNat)
     case atStart=>exact ⟨0,none,0,[],by omega,rfl,Turn.refl _ _,RZ.out,⟨OwnR.nil _ _ _ _,fun i hi=>absurd hi (Nat.not_lt_zero _)⟩⟩
     case round =>
      clear r4
      obtain ⟨j,Ao,co,hs,hj,rfl,hTz,rb,hLH⟩:=hrel
      have hTw:Turn wq wr (fun b=>b=w.heap.size + 1 + 1):=HZ3.out.1.trans hTz (fun _ _ e=>e)
      have hbw:Below w.heap.size w wr:=HQ.out.2.2.2.trans (hTw.below (by omega) (fun k hk e=>by omega))
      have rn:=HQ.out.1.turn hTw (by omega)
      have q2:wr.cell? ⟨w.heap.size,4,none⟩=some (.slice A4 N.tables.length c4):=rn.cell 4
      have hzw:=hTz.size
      by_cases hjn:j < N.tables.length
      case pos =>
       have hdj:decide ((j:Int) < (N.tables.length:Int))=true:=decide_eq_true (by omega)
       have hjI:(j:Int) < (N.tables.length:Int):=by omega
       obtain ⟨b2,off2,B2,m2,d2,rfl,hb2,q1,hrow,_⟩:=h.n4.row hjn
       have htb:=HIN.out.2.tab _ (nth_mem hjn)
       have hml:(nth N.tables j).length=m2:=hrow.len
       have hm2:m2≤1048576:=by omega
       have q1:=bc hbw q1 hb2
       have hrw:=hrow.below (Nat.le_refl _) hbw
       have hb2r:b2 < wr.heap.size:=Nat.lt_of_lt_of_le hb2 hbw.size
       obtain ⟨zr,rfl⟩:∃ y,y=wr:=⟨_,rfl⟩
       have HR:=Lib.hid (And.intro hTz (And.intro rb (And.intro hLH (And.intro rn hml))))
       have HW:=Lib.hid (And.intro hrw (And.intro htb (And.intro q2 q1)))
       have hnl:=rn.lt
       clear hTz rb hLH hTw hbw rn hml hrow htb hrw
       go_wp2_with fail
       go_loopw [9,10] (fun s i wr=>∃ (q:Nat) (Ai:Option Addr) (ci:Nat) (hsi:List RH),q≤m2∧i=.int .i64 (q:Nat)∧s=.slice Ai q ci∧Below zr.heap.size zr wr∧LentP wr zr.heap.size Ai q ci (nth N.tables j) hsi) (fun _ i _=>m2 - (intOf i).toNat)
       case atStart=>exact ⟨0,none,0,[],by omega,rfl,rfl,Below.refl _ _,⟨OwnM.nil _ _ _ _,fun i hi=>absurd hi (Nat.not_lt_zero _)⟩⟩
       case round =>
        clear q2 q1
        obtain ⟨q,Ai,ci,hsi,hq,rfl,rfl,hbr,hP⟩:=hrel
        have q2:=bc hbr HW.out.2.2.1 hnl
        have q1:=bc hbr HW.out.2.2.2 hb2r
        have hsr:=hbr.size
        by_cases hqn:q < m2
        case pos=>as_aux_lemma =>
         have hdq:decide ((q:Int) < (m2:Int))=true:=decide_eq_true (by omega)
         have hqI:(q:Int) < (m2:Int):=by omega
         obtain ⟨b5,off5,hd5,rfl,hb5,g0,g1',g2',hraw⟩:=(HW.out.1.below (Nat.le_refl _) hbr).at hqn
         have hsz5:(nth (nth N.tables j) q).sz≤8388608:=by have h1:=HW.out.2.1.2;have h2:=totTo_at (nth N.tables j) (i:=q) (j:=(nth N.tables j).length) (by have:=HR.out.2.2.2.2;omega);omega
         have hcp:=copy_any hd5 _ wr hraw (by omega)
         unfold RH.val at hcp
         have HB:=Lib.hid (And.intro hbr hP)
         clear hbr hP hraw hb5
         go_wp2_with fail
         refine hcp.mono ?_
         rintro e1 y2 ⟨h',rfl,hlr,hb2'⟩
         have hsz2:=hb2'.size
         have hnew:∀ j u,(ratE.cells h')[j]?=some u→(y2.alloc (.cells #[.bool h'.neg,.slice h'.A h'.n h'.c,.slice h'.D h'.k h'.e] 36)).cell? ((⟨y2.heap.size,0,none⟩:Addr).add j)=some u:=newM ratE y2 36 h'
         have hb3:Below y2.heap.size y2 (y2.alloc (.cells #[.bool h'.neg,.slice h'.A h'.n h'.c,.slice h'.D h'.k h'.e] 36)):=(Below.refl _ _).alloc (Nat.le_refl _) _
         have hP3:=(HB.out.2.below hb2').below hb3
         have hq3:zr.heap.size≤(y2.alloc (.cells #[.bool h'.neg,.slice h'.A h'.n h'.c,.slice h'.D h'.k h'.e] 36)).heap.size:=by have:=hb3.size;omega
         have q9:(q + 1) * 56≤140737488355328:=by omega
         have hoP:=hP3.own
         have HH:=Lib.hid (And.intro hP3 (And.intro hb3 hlr))
         clear hcp g0 g1' g2' q1 q2 hP3 hb3 hlr
         go_wp2_with (first
          | (at_builtin;refine wpList_appM _ eiRat ratE rfl _ _ rfl zr.heap.size _ _ _ _ rfl hoP ⟨y2.heap.size,0,none⟩ 1 h' rfl hnew q9 hq3 ?_)
          | fail)
         intro A7 c7 y7 ho7 hg7 hb7 _
         have hsl:=HH.out.1.own.length (by omega)
         have hb77:Below zr.heap.size zr y7:=((HB.out.1.trans (hb2'.mono hsr)).trans (HH.out.2.1.mono (by omega))).trans hb7
         have hP7:LentP y7 zr.heap.size A7 (q + 1) c7 (nth N.tables j) (hsi ++ [h']):=⟨ho7,fun i hi=>by
          by_cases e:i=q
          ·subst e
           rw [← hsl,nth_app_eq,hsl]
           exact ((HH.out.2.2.mono hsr).below (Nat.le_refl _) HH.out.2.1).partedM HH.out.1.own (by decide) hg7
          ·rw [nth_app_lt (by omega)]
           exact (HH.out.1.row i (by omega)).partedM HH.out.1.own (by decide) hg7⟩
         have HX:=Lib.hid (And.intro hb77 hP7)
         clear hb77 hP7 ho7 hg7 hb7 hoP hnew hb2'
         go_wp2_with fail
         exact ⟨⟨q + 1,A7,c7,_,by omega,by go_num,rfl,HX.out.1,HX.out.2⟩,by simp [intOf];omega⟩
        case neg=>as_aux_lemma =>
         obtain rfl:m2=q:=by omega
         have hdq:decide ((m2:Int) < (m2:Int))=false:=decide_eq_false (by omega)
         have HB:=Lib.hid (And.intro hbr hP)
         clear hbr hP
         go_upto_region 27 with fail
         clear q2 q1
         have hx2:((wr.alloc (.cells #[.int .u32 97] 54)).alloc (.cells #[.int .u32 98] 54)).heap.size=wr.heap.size + 1 + 1:=by simp
         have hnew:∀ j u,([.bool false,.slice none 0 0,.slice (some ⟨wr.heap.size,0,none⟩) 1 1,.bool false,.slice none 0 0,.slice (some ⟨wr.heap.size + 1,0,none⟩) 1 1]:List Value)[j]?=some u→(((wr.alloc (.cells #[.int .u32 97] 54)).alloc (.cells #[.int .u32 98] 54)).alloc (.cells #[.bool false,.slice none 0 0,.slice (some ⟨wr.heap.size,0,none⟩) 1 1,.bool false,.slice none 0 0,.slice (some ⟨wr.heap.size + 1,0,none⟩) 1 1] 36)).cell? ((⟨wr.heap.size + 1 + 1,0,none⟩:Addr).add j)=some u:=fun j u hj=>by
          have h1:=newCells ((wr.alloc (.cells #[.int .u32 97] 54)).alloc (.cells #[.int .u32 98] 54)) 36 [.bool false,.slice none 0 0,.slice (some ⟨wr.heap.size,0,none⟩) 1 1,.bool false,.slice none 0 0,.slice (some ⟨wr.heap.size + 1,0,none⟩) 1 1] j u hj
          rw [hx2] at h1
          exact h1
         have hb3:Below wr.heap.size wr (((wr.alloc (.cells #[.int .u32 97] 54)).alloc (.cells #[.int .u32 98] 54)).alloc (.cells #[.bool false,.slice none 0 0,.slice (some ⟨wr.heap.size,0,none⟩) 1 1,.bool false,.slice none 0 0,.slice (some ⟨wr.heap.size + 1,0,none⟩) 1 1] 36)):=(((Below.refl _ _).alloc (Nat.le_refl _) _).alloc (by simp) _).alloc (by simp;omega) _
         have hP3:=HB.out.2.below hb3
         have hown:=hP3.own.lst
         have hq3:zr.heap.size≤(((wr.alloc (.cells #[.int .u32 97] 54)).alloc (.cells #[.int .u32 98] 54)).alloc (.cells #[.bool false,.slice none 0 0,.slice (some ⟨wr.heap.size,0,none⟩) 1 1,.bool false,.slice none 0 0,.slice (some ⟨wr.heap.size + 1,0,none⟩) 1 1] 36)).heap.size:=by have:=hb3.size;omega
         have q9:(m2 + 2) * 56≤140737488355328:=by omega
         have hk97:OwnR eU (((wr.alloc (.cells #[.int .u32 97] 54)).alloc (.cells #[.int .u32 98] 54)).alloc (.cells #[.bool false,.slice none 0 0,.slice (some ⟨wr.heap.size,0,none⟩) 1 1,.bool false,.slice none 0 0,.slice (some ⟨wr.heap.size + 1,0,none⟩) 1 1] 36)) zr.heap.size 54 (some ⟨wr.heap.size,0,none⟩) 1 1 [97]:=OwnR.alloc (OwnR.alloc (litU wr hsr 97 (.int .u32 97) rfl) _) _
         have hk98:OwnR eU (((wr.alloc (.cells #[.int .u32 97] 54)).alloc (.cells #[.int .u32 98] 54)).alloc (.cells #[.bool false,.slice none 0 0,.slice (some ⟨wr.heap.size,0,none⟩) 1 1,.bool false,.slice none 0 0,.slice (some ⟨wr.heap.size + 1,0,none⟩) 1 1] 36)) zr.heap.size 54 (some ⟨wr.heap.size + 1,0,none⟩) 1 1 [98]:=by
          have h1:OwnR eU ((wr.alloc (.cells #[.int .u32 97] 54)).alloc (.cells #[.int .u32 98] 54)) zr.heap.size 54 (some ⟨(wr.alloc (.cells #[.int .u32 97] 54)).heap.size,0,none⟩) 1 1 [98]:=litU (wr.alloc (.cells #[.int .u32 97] 54)) (by simp;omega) 98 (.int .u32 98) rfl
          rw [show (wr.alloc (.cells #[.int .u32 97] 54)).heap.size=wr.heap.size + 1 from by simp] at h1
          exact OwnR.alloc h1 _
         have HH:=Lib.hid (And.intro hP3 (And.intro hb3 (And.intro hk97 (And.intro hk98 (And.intro hown hnew)))))
         clear hx2 hnew hb3 hP3 hown hk97 hk98
         go_wp2_with (first | (refine wpL_atBuild rfl ?_;refine wpL_build rfl 36 #[(1,.tmp 122)] rfl #[.bool false,.slice none 0 0,.slice (some ⟨wr.heap.size,0,none⟩) 1 1] (by go_simp;kernel_rfl) ?_;refine Stay.out ?_) | fail)
         refine ⟨?_⟩
         go_wp2_with (first | (refine wpL_atBuild rfl ?_;refine wpL_build rfl 36 #[(1,.tmp 124)] rfl #[.bool false,.slice none 0 0,.slice (some ⟨wr.heap.size + 1,0,none⟩) 1 1] (by go_simp;kernel_rfl) ?_;refine Stay.out ?_) | fail)
         refine ⟨?_⟩
         refine Great.wpList_buildSliceTo rfl 45 36 2 #[(0,.tmp 123),(1,.tmp 125)] rfl (wr.heap.size + 1 + 1) (by simp) (some 126) rfl Tryz.underlying45 #[.bool false,.slice none 0 0,.slice (some ⟨wr.heap.size,0,none⟩) 1 1,.bool false,.slice none 0 0,.slice (some ⟨wr.heap.size + 1,0,none⟩) 1 1] (by go_simp;kernel_rfl) ?_
         try simp only [Act.put,sp]
         go_wp2_with (first
          | (at_builtin;go_loud (refine wpList_app_raw _ (L:=⟨36,3,Ai,m2,ci,hsi.flatMap ratE.cells⟩) eiRat rfl _ _ rfl zr.heap.size rfl HH.out.2.2.2.2.1 ⟨wr.heap.size + 1 + 1,0,none⟩ 2 2 [.bool false,.slice none 0 0,.slice (some ⟨wr.heap.size,0,none⟩) 1 1,.bool false,.slice none 0 0,.slice (some ⟨wr.heap.size + 1,0,none⟩) 1 1] rfl rfl HH.out.2.2.2.2.2 (by simp [Value.oneCell']) q9 hq3 (by omega) ?_))
          | fail)
         intro A7 c7 y7 ho7 hg7 hb7 _
         have hlP:=HH.out.1.own.length (by omega)
         have ho8:OwnM ratE y7 zr.heap.size 36 A7 (m2 + 2) c7 (hsi ++ [⟨false,none,0,0,some ⟨wr.heap.size,0,none⟩,1,1⟩,⟨false,none,0,0,some ⟨wr.heap.size + 1,0,none⟩,1,1⟩]):=by
          unfold OwnM
          rw [List.flatMap_append]
          exact ho7
         have hm97:=HH.out.2.2.1.partedM HH.out.1.own (by decide) hg7
         have hm98:=HH.out.2.2.2.1.partedM HH.out.1.own (by decide) hg7
         have hT7:LentT y7 zr.heap.size (A7,m2,c7) (nth N.tables j):=⟨HR.out.2.2.2.2.symm,_,_,_,by rw [HR.out.2.2.2.2];exact ho8,by rw [HR.out.2.2.2.2];exact hlP,fun i hi=>(HH.out.1.row i (by have:=HR.out.2.2.2.2;omega)).partedM HH.out.1.own (by decide) hg7,⟨rfl,rfl,rfl,rfl,rfl,rfl,hm97⟩,⟨rfl,rfl,rfl,rfl,rfl,rfl,hm98⟩⟩
         obtain ⟨gI,rfl,hgI⟩:∃ g,A7=some ⟨g,0,none⟩∧zr.heap.size≤g:=by
          rcases ho7.addr with ⟨_,h1,_⟩ | ⟨g,h1,_,h2,_⟩
          ·simp only at h1;omega
          ·exact ⟨g,h1,h2⟩
         have hcap:m2 + 2≤c7:=ho7.cap
         have hmk:m2≤c7:=by omega
         have HT7:=Lib.hid hT7
         have hbW:Below zr.heap.size zr y7:=(HB.out.1.trans (HH.out.2.1.mono hsr)).trans hb7
         have hsW:=hbW.size
         have q2:=bc hbW HW.out.2.2.1 hnl
         have q1:=bc hbW HW.out.2.2.2 hb2r
         have rb2:=HR.out.2.1.below' hbW
         have x2:y7.cell? ⟨w.heap.size + 1 + 1,4,none⟩=some (.slice Ao j co):=rb2.cell 4
         have hwW:=Nat.lt_of_lt_of_le hnl hsW
         have hb2W:=Nat.lt_of_lt_of_le hb2r hsW
         have hlen:=HR.out.2.2.1.len
         clear ho7 ho8 hg7 hb7 hm97 hm98 hT7 HB HH
         go_upto_region 28 with fail
         refine wp_region_lastL (S:=fun w'=>w'.cell? ⟨w.heap.size + 1 + 1,4,none⟩=some (.slice Ao j co)∧w'.cell? ⟨w.heap.size,4,none⟩=some (.slice (some ⟨b2,off2,none⟩) N.tables.length c4)∧w'.cell? ⟨b2,off2 + j,none⟩=some (.slice B2 m2 d2)) 13 13 (by kernel_rfl) rfl rfl rfl (by kernel_rfl) ?hS1 (fun hHeld=>?rest1)
         case hS1=>(first | exact ⟨x2,q2,q1⟩ | assumption | go_keep)
         refine tk 0 rfl ?_
         try simp only [Act.put,sp]
         refine tk 1 rfl ?_
         try simp only [Act.put,sp]
         refine tk 2 rfl ?_
         try simp only [Act.put,sp]
         refine tk 3 rfl ?_
         try simp only [Act.put,sp]
         refine tk 4 rfl ?_
         try simp only [Act.put,sp]
         refine tk 5 rfl ?_
         try simp only [Act.put,sp]
         refine tk 6 rfl ?_
         try simp only [Act.put,sp]
         refine tk 7 rfl ?_
         try simp only [Act.put,sp]
         refine tk 8 rfl ?_
         try simp only [Act.put,sp]
         refine tk 9 rfl ?_
         try simp only [Act.put,sp]
         refine wpAnyH_ready (rs:=[10]) (by kernel_rfl) (by simp) (consL rfl (fun K hK=>?step12))
         (go_simp;(obtain ⟨ya,hya⟩:∃ y,y=(y7.alloc (.cells #[.slice (some ⟨gI,0,none⟩) m2 c7] 45)).drew:=⟨_,rfl⟩);(obtain ⟨gA,hgA⟩:∃ g,g=y7.heap.size:=⟨_,rfl⟩);(have hbs:Below y7.heap.size y7 ya:=by rw [hya];exact ((Below.refl _ _).alloc (Nat.le_refl _) _).trans (below_refl_drewN _ _ 1));(have hone:Sl eS ya (some ⟨gA,0,none⟩) 1 [(some ⟨gI,0,none⟩,m2,c7)]:=by rw [hya,hgA];exact (Sl.litM eS y7 45 [(some ⟨gI,0,none⟩,m2,c7)] (by simp)).drewN 1);(rw [← hya,← hgA]);(have hsY:=hbs.size);(clear hya);(have q2:=bc hbs q2 hwW);(have q1:=bc hbs q1 hb2W);(have rb3:=rb2.below' hbs);(have x2:ya.cell? ⟨w.heap.size + 1 + 1,4,none⟩=some (.slice Ao j co):=rb3.cell 4);(have hbY:Below zr.heap.size zr ya:=hbW.trans (hbs.mono hsW));(have hoY:=HR.out.2.2.1.out.below (Nat.le_refl _) hbY))
         refine hK.out _ _ ?hS12 (fun hHeld=>?rest12)
         case hS12=>(first | exact ⟨x2,q2,q1⟩ | assumption | go_keep)
         clear hK K
         try simp only [Act.put,sp]
         refine wpAnyH_ready (rs:=[11]) (by kernel_rfl) (by simp) (consL rfl (fun K hK=>?step13))
         (refine step_appR _ eiRR eS one_eS (by rfl) (.tmp 129) (.tmp 138) (by rfl) y5.heap.size Ao j co hs (by rfl) hoY (some ⟨gA,0,none⟩) 1 1 [(some ⟨gI,0,none⟩,m2,c7)] (by rfl) hone (by omega) (by omega) ?_;(intro A5 c5 w5 ho5 hg5 hb5 _);(have q2:=bc hb5 q2 (show w.heap.size < y5.heap.size by omega));(have q1:=bc hb5 q1 (show b2 < y5.heap.size by omega));(have rb4:RowC w5 (w.heap.size + 1 + 1) 27 _:=(hb5.block _ (by omega)).trans rb3);(have x2:w5.cell? ⟨w.heap.size + 1 + 1,4,none⟩=some (.slice Ao j co):=rb4.cell 4);(have f2:=rb4.frozen 4))
         refine hK.out _ _ ?hS13 (fun hHeld=>?rest13)
         case hS13=>(first | exact ⟨x2,q2,q1⟩ | assumption | go_keep)
         clear hK K
         try simp only [Act.put,sp]
         refine tk 12 rfl ?_
         try simp only [Act.put,sp]
         refine wpAnyH_done (by kernel_rfl) ?_ _
         unfold AheadOf
         go_simp
         obtain ⟨w6,hw6⟩:∃ y:World,y=w5.setCell ⟨w.heap.size + 1 + 1,4,none⟩ (.slice A5 (j + 1) c5):=⟨_,rfl⟩
         rw [← hw6]
         have hTs:Turn w5 w6 (fun b=>b=w.heap.size + 1 + 1):=by rw [hw6];exact (Turn.refl w5 (fun b=>b=w.heap.size + 1 + 1)).setCell ⟨w.heap.size + 1 + 1,4,none⟩ (fun _=>rfl) _
         have hT6:Turn y5 w6 (fun b=>b=w.heap.size + 1 + 1):=((HR.out.1.step hbY hzw).step hb5 (Nat.le_refl _)).trans hTs (fun _ _ e=>e)
         have rb6:RowC w6 (w.heap.size + 1 + 1) 27 [.string N.name,.slice (some ⟨g1,0,none⟩) N.names.length k2,.slice AV N.values.length cV,.slice AP N.parents.length cP,.slice A5 (j + 1) c5]:=by rw [hw6];exact rb4.put 4 (.slice A5 (j + 1) c5)
         have hnI:LentT w5 y5.heap.size (some ⟨gI,0,none⟩,m2,c7) (nth N.tables j):=((HT7.out.mono hzw).below hbs).parted hoY (by decide) (by decide) hg5
         have hL5:=HR.out.2.2.1.snoc (R:=fun w i x=>LentT w y5.heap.size x (nth N.tables i)) ho5 (fun i x _ r=>(r.below hbY).parted hoY (by decide) (by decide) hg5) hnI
         have hL6:=hL5.turn hTs (fun k hk e=>by omega) (fun i x r=>r.turn hTs (fun k hk e=>by omega))
         have HX:=Lib.hid (And.intro hT6 (And.intro rb6 hL6))
         clear hw6 hTs hT6 rb6 hnI hL5 hL6 ho5 hg5 hb5 rb4 x2 f2 q1 q2 hHeld
         (try go_wp2_with fail)
         exact ⟨⟨j + 1,A5,c5,_,by omega,by go_num,HX.out.1,HX.out.2.1,HX.out.2.2⟩,by simp [intOf];omega⟩
      case neg =>
       obtain rfl:N.tables.length=j:=by omega
       have x0:=rb.cell 0
       have x1:=rb.cell 1
       have x2:=rb.cell 2
       have x3:=rb.cell 3
       have x4:=rb.cell 4
       have hr5:=HQ.out.2.2.1.turn hTw (by omega)
       obtain ⟨w7,hw7⟩:∃ y:World,y=wr.setCells (w.heap.size + 1) 0 [.string N.name,.slice (some ⟨g1,0,none⟩) N.names.length k2,.slice AV N.values.length cV,.slice AP N.parents.length cP,.slice Ao N.tables.length co]:=⟨_,rfl⟩
       have hT7:Turn wr w7 (fun b=>b=w.heap.size + 1):=by rw [hw7];exact RowC.turnSet 0 _
       have hr7:RowC w7 (w.heap.size + 1) 27 [.string N.name,.slice (some ⟨g1,0,none⟩) N.names.length k2,.slice AV N.values.length cV,.slice AP N.parents.length cP,.slice Ao N.tables.length co]:=by rw [hw7];exact hr5.setL _ 0
       have hb7:Below w.heap.size w w7:=by rw [hw7];exact belowS hbw (by omega) _ _
       have kn:=((((HZ1.out.2.turn HZ2.out.2.2.1 (fun k hk e=>by omega)).turn HZ3.out.2.2.1 (fun k hk e=>by omega)).turn hTz (fun k hk e=>by omega)).turn hT7 (fun k hk e=>by omega)).mono (show w.heap.size≤wq.heap.size by omega)
       have kv:=((HZ2.out.2.1.turn HZ3.out.2.2.1 (fun k hk e=>by omega) (fun i x r=>r.turn HZ3.out.2.2.1 (fun k hk e=>by omega))).turn hTz (fun k hk e=>by omega) (fun i x r=>r.turn hTz (fun k hk e=>by omega))).turn hT7 (fun k hk e=>by omega) (fun i x r=>r.turn hT7 (fun k hk e=>by omega))
       have kp:=(HZ3.out.2.1.turn hTz (fun k hk e=>by omega) (fun i x r=>r.turn hTz (fun k hk e=>by omega))).turn hT7 (fun k hk e=>by omega) (fun i x r=>r.turn hT7 (fun k hk e=>by omega))
       have kt:=hLH.turn hT7 (fun k hk e=>by omega) (fun i x r=>r.turn hT7 (fun k hk e=>by omega))
       have hLN:LentN w7 w.heap.size N (some ⟨g1,0,none⟩) AV AP Ao k2 cV cP co:=⟨kn,⟨hsV,kv.out.mono (by omega),fun i hi=>(kv.row i hi).mono (by omega)⟩,⟨hsP,kp.out.mono (by omega),fun i hi=>(kp.row i hi).mono (by omega)⟩,⟨hs,kt.out.mono (by omega),fun i hi=>(kt.row i hi).mono (by omega)⟩⟩
       have HX:=Lib.hid (And.intro hLN (And.intro hb7 hr7))
       have HR5:=Lib.hid hr5
       have HW7:=Lib.hid hw7
       clear kn kv kp kt hLN hb7 hr7 hr5 hT7 hTz hTw hbw rn rb hLH hw7
       go_wp2_with (first | refine wpL_atLoad (t:=27) rfl ?_;refine wpList_plain rfl fun K7 hK7=>?_;go_simp;refine hK7 _ _ ?_;clear hK7 K7;go_loud (refine wpL_store_row rfl _ _ _ rfl (w.heap.size + 1) 0 [.string N.name,.slice (some ⟨g1,0,none⟩) N.names.length k2,.slice AV N.values.length cV,.slice AP N.parents.length cP,.slice Ao N.tables.length co] rfl rfl HR5.out (by simp) (by kernel_rfl) (by simp [Value.oneCell']) ?_) | fail)
       rw [← HW7.out]
       have z0:=HX.out.2.2.cell 0
       have z1:=HX.out.2.2.cell 1
       have z2:=HX.out.2.2.cell 2
       have z3:=HX.out.2.2.cell 3
       have z4:=HX.out.2.2.cell 4
       exact bodyPost_ret (v:=.agg #[.string N.name,.slice (some ⟨g1,0,none⟩) N.names.length k2,.slice AV N.values.length cV,.slice AP N.parents.length cP,.slice Ao N.tables.length co]) (by simp [results,Tryz.results6,go_sem,z0,z1,z2,z3,z4]) rfl ⟨_,_,_,_,_,_,_,_,rfl,HX.out.1,HX.out.2.1⟩
end Go.Proofs.YtmncjibcoffmfaaGreat
