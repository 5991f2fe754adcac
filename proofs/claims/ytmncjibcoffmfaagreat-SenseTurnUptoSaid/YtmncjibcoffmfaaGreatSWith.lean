/- credenceref29.With, walked: the network with one number turned, its tables in memory of their own. Conditions: the network reads, the place is one, within Go's bound. Printed by wip/gen/swith.py. -/
import Derived.Test.YtmncjibcoffmfaaGreatSCheck
import Derived.Test.YtmncjibcoffmfaaGreatJ22
set_option linter.unusedVariables false
set_option linter.unusedSimpArgs false
namespace Go.Proofs.YtmncjibcoffmfaaGreat
open Go.RowKit

set_option maxRecDepth 100000 in
set_option maxHeartbeats 8000000 in
theorem with_any (N:NetV) (A1 A2 A3 A4:Option Addr) (c1 c2 c3 c4:Nat) (v row value:Nat) (u:Value) (x:Rat) (KX:Nat) (w:World) (h:NetAt w N A1 A2 A3 A4 c1 c2 c3 c4) (hB:NetB N) (hpo:PlaceOk N v row value) (hu:RatAt w u x KX) (hK:KX≤100000000) :
 Calls Tryz.prog 19 #[.agg (netC N A1 A2 A3 A4 c1 c2 c3 c4).toArray,.int .i64 (v:Int),.int .i64 (row:Int),.int .i64 (value:Int),u] w fun e w'=>∃ M:Key→Lst,e=.returned (.agg #[.string N.name,.slice A1 N.names.length c1,.slice A2 N.values.length c2,.slice A3 N.parents.length c3,.slice (M kT).A N.tables.length (M kT).c])∧Fam w' w.heap.size M∧Link M (tabsN N) (turnQ N v row value x) 0 0 N.tables.length∧Below w.heap.size w w':=by
 obtain ⟨s,A,n,c,xs,D,k',e,ds,rfl,hx⟩:=hu.ex
 clear hx
 have hxl:=hu.len
 have HIN:=Lib.hid (And.intro h (And.intro hB (And.intro hpo (And.intro hu hxl))))
 have H1:=(Held.init w).new 27 (netC N A1 A2 A3 A4 c1 c2 c3 c4)
 have H2:=H1.new 36 [.bool s,.slice A n c,.slice D k' e]
 have H3:=H2.new 27 [.string ⟨#[]⟩,.slice none 0 0,.slice none 0 0,.slice none 0 0,.slice none 0 0]
 rw [show (w.alloc (.cells (netC N A1 A2 A3 A4 c1 c2 c3 c4).toArray 27)).heap.size=w.heap.size + 1 from by simp] at H2 H3
 rw [show ((w.alloc (.cells (netC N A1 A2 A3 A4 c1 c2 c3 c4).toArray 27)).alloc (.cells [.bool s,.slice A n c,.slice D k' e].toArray 36)).heap.size=w.heap.size + 1 + 1 from by simp] at H3
 unfold netC at H3 ⊢
 obtain ⟨wq,hwq⟩:∃ wq:World,wq=((w.alloc (.cells #[.string N.name,.slice A1 N.names.length c1,.slice A2 N.values.length c2,.slice A3 N.parents.length c3,.slice A4 N.tables.length c4] 27)).alloc (.cells #[.bool s,.slice A n c,.slice D k' e] 36)).alloc (.cells #[.string ⟨#[]⟩,.slice none 0 0,.slice none 0 0,.slice none 0 0,.slice none 0 0] 27):=⟨_,rfl⟩
 rw [← hwq] at H3
 have hsml:=rfrac_small 1 1 wq (by decide) (by decide) (by decide)
 have hone:mkRat ((1:Nat):Int) 1=1:=by decide
 rw [hone] at hsml
 clear hone H1 H2 hu hxl
 go_enter Tryz.func19,Tryz.ntmps19
 go_upto_region 1 with fail
 rw [← hwq]
 clear hwq
 go_wp2_with fail
 refine hsml.mono ?_
 intro e1 w1 hp
 obtain ⟨ho,rfl,hq1,hb1⟩:=hp.hd
 have H4:=((H3.step hb1).and (Q:=fun w=>QAt w wq.heap.size ho 1) hq1).new 36 [.bool ho.neg,.slice ho.A ho.n ho.c,.slice ho.D ho.k ho.e]
 obtain ⟨g11,hg11⟩:∃ g,g=w1.heap.size:=⟨_,rfl⟩
 have hgr:w.heap.size + 1 + 1 < w1.heap.size:=Nat.lt_of_lt_of_le H3.has.1.lt hb1.size
 rw [← hg11] at H4 hgr
 have H5:=H4.new 27 [.string N.name,.slice A1 N.names.length c1,.slice A2 N.values.length c2,.slice A3 N.parents.length c3,.slice none 0 0]
 rw [show (w1.alloc (.cells [.bool ho.neg,.slice ho.A ho.n ho.c,.slice ho.D ho.k ho.e].toArray 36)).heap.size=g11 + 1 from by rw [hg11];simp] at H5
 obtain ⟨w2,hw2⟩:∃ y,y=w1.alloc (.cells #[.bool ho.neg,.slice ho.A ho.n ho.c,.slice ho.D ho.k ho.e] 36):=⟨_,rfl⟩
 rw [← hw2] at H4 H5
 obtain ⟨w3,hw3⟩:∃ y,y=w2.alloc (.cells #[.string N.name,.slice A1 N.names.length c1,.slice A2 N.values.length c2,.slice A3 N.parents.length c3,.slice none 0 0] 27):=⟨_,rfl⟩
 rw [← hw3] at H5
 have hb13:Below w1.heap.size w1 w3:=by rw [hw3,hw2];exact ((Below.refl _ _).alloc (Nat.le_refl _) _).alloc (by simp) _
 have hw1b:w.heap.size≤w1.heap.size:=by omega
 have hw1g:w1.heap.size≤g11:=Nat.le_of_eq hg11.symm
 have hra1:RatAt w1 (.agg #[.bool ho.neg,.slice ho.A ho.n ho.c,.slice ho.D ho.k ho.e]) 1 (ratLen 1):=hq1.at (by rw [ratLen_one];decide)
 have HONE:=Lib.hid (And.intro hra1 (And.intro hb13 (And.intro hw1b hw1g)))
 clear hp hq1 hb1 hsml hra1 hb13 hw1b hw1g
 have rn2:RowC w2 w.heap.size 27 [.string N.name,.slice A1 N.names.length c1,.slice A2 N.values.length c2,.slice A3 N.parents.length c3,.slice A4 N.tables.length c4]:=by
  have HG:=H4;exact (bg HG)
 have r0:=rn2.cell 0
 have r1:=rn2.cell 1
 have r2:=rn2.cell 2
 have r3:=rn2.cell 3
 have r4:=rn2.cell 4
 have hvl:v < N.values.length:=by have:=hpo.hv;have:=hpo.lt;omega
 have hvI:(v:Int) < (N.values.length:Int):=by omega
 have hrow2:=h.n2
 obtain ⟨b2,o2,B2,m2,d2,rfl,hb2,q2,hsl⟩:=h.n2.row hvl
 have q2:=bc H4.bel q2 hb2
 have hzm:nth N.Z v=m2:=by rw [NetV.nth_Z hvl];exact hsl.len
 have HZ:=Lib.hid hzm
 clear hvl hrow2 hsl hzm
 go_upto_region 2 with fail
 rw [← hw2,← hg11]
 have hw2s:w2.heap.size=g11 + 1:=by rw [hw2,hg11];simp
 clear hw2 hg11
 go_upto_region 5 with fail
 rw [← hw3]
 have hw3s:w3.heap.size=g11 + 1 + 1:=by rw [hw3];simp [hw2s]
 have rb3:RowC w3 (g11 + 1) 27 [.string N.name,.slice A1 N.names.length c1,.slice (some ⟨b2,o2,none⟩) N.values.length c2,.slice A3 N.parents.length c3,.slice none 0 0]:=H5.has.1
 have hw3le:w.heap.size≤w3.heap.size:=by omega
 have hg13:g11 + 1 < w3.heap.size:=by omega
 clear hw3 q2 r0 r1 r2 r3 r4 rn2 hw2s hw3s
 have HG:=H5
 clear H3 H4 H5
 obtain ⟨T,hT0⟩:∃ T,T=stepQ N v row value x 0:=⟨_,rfl⟩
 have HT:=Lib.hid hT0
 clear hT0
 have r4:w3.cell? ⟨w.heap.size,4,none⟩=some (.slice A4 N.tables.length c4):=(show RowC w3 w.heap.size 27 [.string N.name,.slice A1 N.names.length c1,.slice (some ⟨b2,o2,none⟩) N.values.length c2,.slice A3 N.parents.length c3,.slice A4 N.tables.length c4] from (bg HG)).cell 4
 have htl:=hB.tabs
 go_wp2_with fail
 go_loopw [14] (fun i wr=>∃ (j:Nat) (M:Key→Lst),j≤N.tables.length∧i=.int .i64 (j:Nat)∧Turn w3 wr (fun b=>b=g11 + 1)∧Fam wr w3.heap.size M∧Link M (tabsN N) T 0 0 j∧RowC wr (g11 + 1) 27 [.string N.name,.slice A1 N.names.length c1,.slice (some ⟨b2,o2,none⟩) N.values.length c2,.slice A3 N.parents.length c3,(M kT).val]) (fun i _=>N.tables.length - (intOf i).toNat)
 case atStart=>exact ⟨0,m0,by omega,rfl,Turn.refl _ _,m0_fam _ _,m0_tabs _ _,rb3⟩
 case round =>
  clear r4 rb3
  obtain ⟨j,M,hj,rfl,hTn,hF,hL,hbx⟩:=hrel
  have rn:RowC wr w.heap.size 27 [.string N.name,.slice A1 N.names.length c1,.slice (some ⟨b2,o2,none⟩) N.values.length c2,.slice A3 N.parents.length c3,.slice A4 N.tables.length c4]:=(show RowC w3 _ _ _ from (bg HG)).turn hTn (by omega)
  have r4:=rn.cell 4
  have hbw:Below w.heap.size w wr:=HG.bel.trans (hTn.below (by omega) (fun k hk e=>by omega))
  by_cases hjt:j < N.tables.length
  case pos =>
   have hlj:(j:Int) < (N.tables.length:Int):=by omega
   have hd1:decide ((j:Int) < (N.tables.length:Int))=true:=decide_eq_true hlj
   obtain ⟨b4,off4,B4,m4,d4,rfl,hb4,q1,hrow,_⟩:=h.n4.row hjt
   have HC4:=Lib.hid q1
   have q1:=bc hbw q1 hb4
   have htb:=hB.tab _ (nth_mem hjt)
   have hm4:=hrow.len
   have HMB:=Lib.hid (And.intro htb (And.intro hm4 (And.intro hrow hb4)))
   have hmm:m4≤1048576:=by omega
   obtain ⟨M',hF',hL',hT',hv',hk'⟩:=round00 hF hL
   rw [← hk'] at hbx
   have HR0:=Lib.hid (And.intro hF' (And.intro hL' (And.intro hT' (And.intro hv' (And.intro hTn hbx)))))
   clear hF hL hbx hF' hL' hT' hv' hk' M rn htb hm4 hTn hbw hrow
   go_wp2_with fail
   go_loopw [15,16] (fun s i wr=>∃ (q:Nat) (M:Key→Lst),q≤m4∧i=.int .i64 (q:Nat)∧s=.slice (M (kt j)).A (M (kt j)).n (M (kt j)).c∧Turn w3 wr (fun b=>b=g11 + 1)∧Fam wr w3.heap.size M∧Link M (tabsN N) T 0 0 j∧Tab M T j q∧RowC wr (g11 + 1) 27 [.string N.name,.slice A1 N.names.length c1,.slice (some ⟨b2,o2,none⟩) N.values.length c2,.slice A3 N.parents.length c3,(M kT).val]) (fun _ i _=>m4 - (intOf i).toNat)
   case atStart=>exact ⟨0,M',by omega,rfl,HR0.out.2.2.2.1.symm,HR0.out.2.2.2.2.1,HR0.out.1,HR0.out.2.1,HR0.out.2.2.1,HR0.out.2.2.2.2.2⟩
   case round =>
    clear r4 q1 HR0 M'
    obtain ⟨q,M,hq,rfl,rfl,hTn,hF,hL,hTb,hbx⟩:=hrel
    have rn:RowC wr w.heap.size 27 [.string N.name,.slice A1 N.names.length c1,.slice (some ⟨b2,o2,none⟩) N.values.length c2,.slice A3 N.parents.length c3,.slice (some ⟨b4,off4,none⟩) N.tables.length c4]:=(show RowC w3 _ _ _ from (bg HG)).turn hTn (by omega)
    have r4:=rn.cell 4
    have hbw:Below w.heap.size w wr:=HG.bel.trans (hTn.below (by omega) (fun k hk e=>by omega))
    have q1:wr.cell? ⟨b4,off4 + j,none⟩=some (.slice B4 m4 d4):=bc hbw HC4.out HMB.out.2.2.2
    by_cases hqn:q < m4
    case pos=>as_aux_lemma =>
     have hd2:decide ((q:Int) < (m4:Int))=true:=decide_eq_true (by omega)
     have hqI:(q:Int) < (m4:Int):=by omega
     obtain ⟨b5,off5,hd5,rfl,hb5,g0,g1,g2',hraw⟩:=(HMB.out.2.2.1.below (Nat.le_refl _) hbw).at hqn
     have hsz5:(nth (nth N.tables j) q).sz≤8388608:=by have h1:=HMB.out.1.2;have h2:=totTo_at (nth N.tables j) (i:=q) (j:=(nth N.tables j).length) (by have:=HMB.out.2.1;omega);omega
     have hTq:T j q=(nth (nth N.tables j) q).q:=by rw [HT.out];exact stepQ_zero _ _ _ _ _ _ _
     have hfit:=rfrac_fit (.agg #[.bool hd5.neg,.slice hd5.A hd5.n hd5.c,.slice hd5.D hd5.k hd5.e]) _ _ wr hraw.at (by omega)
     rw [← hTq] at hfit
     have hs3:=hTn.size
     have HK:=Lib.hid (And.intro hTn (And.intro hTb hbx))
     have HFF:=Lib.hid (And.intro hF hL)
     clear hF hL hTn hTb hbx hraw hTq hsz5 rn hbw hb5
     go_wp2_with fail
     refine hfit.mono ?_
     rintro e1 y2 ⟨R,c5,D5,d5,rfl,h1,h2,hs,hb2'⟩
     have hsz2:=hb2'.size
     have hnew:=newCells y2 36 (rhL R c5 D5 d5 (T j q)).cells
     have hb3:Below y2.heap.size y2 (y2.alloc (.cells (rhL R c5 D5 d5 (T j q)).cells.toArray 36)):=(Below.refl _ _).alloc (Nat.le_refl _) _
     have hw4y:w3.heap.size≤(y2.alloc (.cells (rhL R c5 D5 d5 (T j q)).cells.toArray 36)).heap.size:=by have:=hb3.size;omega
     have hown:=((HFF.out.1.below hb2').below hb3).own (kt j)
     have hI:EIM Tryz.prog 45 (M (kt j)).e (.agg #[.bool false,.slice none 0 0,.slice none 0 0]) (M (kt j)).s 56:=by rw [HK.out.2.1.row.e,HK.out.2.1.row.s];exact eiRat
     have hl3:(rhL R c5 D5 d5 (T j q)).cells.length=1 * (M (kt j)).s:=by rw [HK.out.2.1.row.s];rfl
     have hby:((M (kt j)).n + 1) * 56≤140737488355328:=by have:=HK.out.2.1.row.n;omega
     unfold rhL RH.cells at hnew hl3 hown hw4y hb3
     have HH:=Lib.hid (And.intro hI (And.intro hl3 (And.intro hnew (And.intro hby (And.intro hown (And.intro hw4y hb3))))))
     clear hfit hI hl3 hnew hby hown hw4y hb3 g0 g1 g2' r4 q1
     go_wp2_with (first | (at_builtin;go_loud (refine wpList_app_raw _ (L:=M (kt j)) HH.out.1 rfl _ _ rfl w3.heap.size rfl HH.out.2.2.2.2.1 ⟨y2.heap.size,0,none⟩ 1 1 _ rfl HH.out.2.1 HH.out.2.2.1 (by simp [Value.oneCell']) HH.out.2.2.2.1 HH.out.2.2.2.2.2.1 (by omega) ?_)) | fail)
     intro A' c' y4 ho4 hg4 hb4' hd4
     have hT4:=(((HK.out.1.step hb2' hs3).step HH.out.2.2.2.2.2.2 (by omega)).step hb4' (Nat.le_refl _))
     obtain ⟨M',hF',hL',hT',hv',hk'⟩:=roundN0 HFF.out.1 HFF.out.2 HK.out.2.1 hs3 hb2' h1 h2 hs HH.out.2.2.2.2.2.2 hg4 ho4 (hd4.imp_right fun h=>h.trans (by simp))
     have hbx':=((HK.out.2.2.below' hb2').below' HH.out.2.2.2.2.2.2)
     have hbx':=(show RowC y4 _ _ _ from (hb4'.block _ (by omega)).trans hbx')
     rw [← hk'] at hbx'
     have HX:=Lib.hid (And.intro hT4 (And.intro hF' (And.intro hL' (And.intro hT' (And.intro hv' hbx')))))
     clear hT4 hF' hL' hT' hv' hk' hbx' ho4 hg4 hb4' hd4 hb2' h1 h2 hs
     go_wp2_with fail
     exact ⟨⟨q + 1,M',by omega,by go_num,HX.out.2.2.2.2.1.symm,HX.out.1,HX.out.2.1,HX.out.2.2.1,HX.out.2.2.2.1,HX.out.2.2.2.2.2⟩,by simp [intOf];omega⟩
    case neg=>as_aux_lemma =>
     obtain rfl:m4=q:=by omega
     have hqd:decide ((m4:Int) < (m4:Int))=false:=decide_eq_false (by omega)
     have hszr:=hTn.size
     have x4:wr.cell? ⟨g11 + 1,4,none⟩=some (.slice (M kT).A (M kT).n (M kT).c):=hbx.cell 4
     have hnew:=newCells wr 45 [(M (kt j)).val]
     have hb3:Below wr.heap.size wr (wr.alloc (.cells [(M (kt j)).val].toArray 45)):=(Below.refl _ _).alloc (Nat.le_refl _) _
     have hw4y:w3.heap.size≤(wr.alloc (.cells [(M (kt j)).val].toArray 45)).heap.size:=by have:=hb3.size;omega
     have hown:=(hF.below hb3).own kT
     have hI:EIM Tryz.prog 25 (M kT).e (.slice none 0 0) (M kT).s 24:=by rw [hL.tO.e,hL.tO.s];exact eimRR
     have hl3:[(M (kt j)).val].length=1 * (M kT).s:=by rw [hL.tO.s];rfl
     have hby:((M kT).n + 1) * 24≤140737488355328:=by have:=hL.tO.n;omega
     have hTm:Tab M T j (nth (tabsN N).tables j).length:=(show (nth N.tables j).length=m4 from HMB.out.2.1) ▸ hTb
     have HH:=Lib.hid (And.intro hI (And.intro hl3 (And.intro hnew (And.intro hby (And.intro hown (And.intro hw4y hb3))))))
     unfold Lst.val at HH
     have HFF:=Lib.hid (And.intro hF (And.intro hL (And.intro hTm (And.intro hTn hbx))))
     clear hI hl3 hnew hby hown hw4y hb3 hTb hF hL hTm hTn hbx hq rn hbw
     go_wp2_with (first | (at_builtin;go_loud (refine wpList_app_raw _ (L:=M kT) HH.out.1 rfl _ _ rfl w3.heap.size rfl HH.out.2.2.2.2.1 ⟨wr.heap.size,0,none⟩ 1 1 _ rfl HH.out.2.1 HH.out.2.2.1 (by simp [Value.oneCell']) HH.out.2.2.2.1 HH.out.2.2.2.2.2.1 (by omega) ?_)) | fail)
     intro A' c' y4 ho4 hg4 hb4' hd4
     have hT4:=((HFF.out.2.2.2.1.step HH.out.2.2.2.2.2.2 hszr).step hb4' (Nat.le_refl _))
     obtain ⟨M',hF',hL',hv'⟩:=roundT0 HFF.out.1 HFF.out.2.1 HFF.out.2.2.1 HH.out.2.2.2.2.2.2 hg4 ho4 (hd4.imp_right fun h=>h.trans (by simp))
     have hbx':RowC y4 (g11 + 1) 27 [.string N.name,.slice A1 N.names.length c1,.slice (some ⟨b2,o2,none⟩) N.values.length c2,.slice A3 N.parents.length c3,(M kT).val]:=(hb4'.block _ hg13).trans (HFF.out.2.2.2.2.below' HH.out.2.2.2.2.2.2)
     have x4:y4.cell? ⟨g11 + 1,4,none⟩=some (.slice (M kT).A (M kT).n (M kT).c):=hbx'.cell 4
     have f4:y4.frozen? ⟨g11 + 1,4,none⟩=false:=hbx'.frozen 4
     obtain ⟨y5,hy5⟩:∃ y:World,y=y4.setCell ⟨g11 + 1,4,none⟩ (.slice A' ((M kT).n + 1) c'):=⟨_,rfl⟩
     have hT5:Turn w3 y5 (fun b=>b=g11 + 1):=by rw [hy5];exact hT4.setCell ⟨g11 + 1,4,none⟩ (fun _=>rfl) _
     have hF5:Fam y5 w3.heap.size M':=by rw [hy5];exact hF'.setLow (p:=⟨g11 + 1,4,none⟩) hg13 _
     have hbx5:RowC y5 (g11 + 1) 27 [.string N.name,.slice A1 N.names.length c1,.slice (some ⟨b2,o2,none⟩) N.values.length c2,.slice A3 N.parents.length c3,(M' kT).val]:=by rw [hy5,hv'];exact hbx'.put 4 _
     have HX:=Lib.hid (And.intro hT5 (And.intro hF5 (And.intro hL' hbx5)))
     rw [hy5] at HX
     clear hT4 hT5 hF5 hF' hL' hv' hbx' hbx5 hy5 ho4 hg4 hb4' hd4
     go_wp2_with fail
     exact ⟨⟨j + 1,M',by omega,by go_num,HX.out.1,HX.out.2.1,HX.out.2.2.1,HX.out.2.2.2⟩,by simp [intOf];omega⟩
  case neg =>
   obtain rfl:N.tables.length=j:=by omega
   have hvt:v < N.tables.length:=by have:=hpo.ht;have:=hpo.lt;omega
   have hvtI:(v:Int) < (N.tables.length:Int):=by omega
   obtain ⟨b4,off4,B4,m4,d4,rfl,hb4,q1,hrow,_⟩:=h.n4.row hvt
   have HRO:=Lib.hid (And.intro hrow (And.intro hb4 q1))
   have q1:=bc hbw q1 hb4
   have htb:=hB.tab _ (nth_mem hvt)
   have hm4:=hrow.len
   have hfit:=hpo.fits
   have hval:=hpo.val
   have hwide:=hpo.wide
   rw [HZ.out] at hfit hval hwide
   obtain ⟨rm,hrm⟩:∃ r,r=row * m2:=⟨_,rfl⟩
   rw [← hrm] at hfit
   have e3:(row:Int) * (m2:Int)=(rm:Int):=by rw [hrm];exact (Int.natCast_mul _ _).symm
   obtain ⟨a0,ha0⟩:∃ r,r=rm + value:=⟨_,rfl⟩
   have e4:(rm:Int) + (value:Int)=(a0:Int):=by rw [ha0];exact (Int.natCast_add _ _).symm
   have hm4b:=hrow.big
   have ha0m:a0 < m4:=by omega
   have ha0I:(a0:Int) < (m4:Int):=by omega
   have hw1:IntKind.i64.wrap (rm:Int)=(rm:Int):=by rw [IntKind.wrap_i64];omega
   have hw2':IntKind.i64.wrap (a0:Int)=(a0:Int):=by rw [IntKind.wrap_i64];omega
   have HRM:=Lib.hid (And.intro hrm (And.intro ha0 (And.intro hfit (And.intro htb hm4))))
   obtain ⟨b5,off5,hd5,rfl,hb5,g0,g1,g2',hraw⟩:=(hrow.below (Nat.le_refl _) hbw).at (i:=a0) ha0m
   have hsz5:(nth (nth N.tables v) a0).sz≤8388608:=by have h1:=htb.2;have h2:=totTo_at (nth N.tables v) (i:=a0) (j:=(nth N.tables v).length) (by omega);omega
   obtain ⟨left,hlf⟩:∃ q,q=leftQ N v (row * nth N.Z v + value):=⟨_,rfl⟩
   have hleft:1 - (nth (nth N.tables v) a0).q=left:=by rw [hlf,HZ.out,ha0,hrm];rfl
   have hll:ratLen left≤20000000:=by
    rw [← hleft]
    have h1:=sub_len 1 (nth (nth N.tables v) a0).q
    have h2:=row_len hrow htb.2 a0 (by omega)
    rw [ratLen_one] at h1
    omega
   have HLF:=Lib.hid (And.intro hlf hleft)
   have ro:RowC wr g11 36 [.bool ho.neg,.slice ho.A ho.n ho.c,.slice ho.D ho.k ho.e]:=(show RowC w3 _ _ _ from (bg HG)).turn hTn (by omega)
   have z0:=ro.cell 0
   have z1:=ro.cell 1
   have z2:=ro.cell 2
   have hone:RatAt wr (.agg #[.bool ho.neg,.slice ho.A ho.n ho.c,.slice ho.D ho.k ho.e]) 1 (ratLen 1):=HONE.out.1.below (Nat.le_refl _) (HONE.out.2.1.trans (hTn.below (by have:=HONE.out.2.1.size;omega) (fun k hk e=>by have:=HONE.out.2.2.2;omega)))
   have hrl:=rn.lt
   have hrl1:=ro.lt
   have HS1:=Lib.hid (And.intro hTn (And.intro hF (And.intro hL (And.intro hbx hbw))))
   clear hfit htb hm4 hrm ha0 hlf hleft hrow hTn hF hL hbx hbw rn
   go_upto_region 14 with fail
   go_cut [17] from 67 to 80 (fun p wx=>∃ ga hl,p=.pointer (some ⟨ga,0,none⟩)∧wr.heap.size≤ga∧RowC wx ga 36 (RH.cells hl)∧QAt wx wr.heap.size hl left∧Below wr.heap.size wr wx)
   case first=>as_aux_lemma =>
    have hb4r:b4 < wr.heap.size:=Nat.lt_of_lt_of_le HRO.out.2.1 HS1.out.2.2.2.2.size
    have z00:=z0
    have z10:=z1
    have z20:=z2
    have r40:=r4
    have q10:=q1
    have g00:=g0
    have g10:=g1
    have g2'0:=g2'
    have hbw:Below wr.heap.size wr wr.drew:=below_refl_drewN _ _ 1
    have hszw:=hbw.size
    refine wp_region_lastL (S:=fun w'=>w'.cell? ⟨g11,0,none⟩=some (.bool ho.neg)∧w'.cell? ⟨g11,1,none⟩=some (.slice ho.A ho.n ho.c)∧w'.cell? ⟨g11,2,none⟩=some (.slice ho.D ho.k ho.e)∧w'.cell? ⟨w.heap.size,4,none⟩=some (.slice (some ⟨b4,off4,none⟩) N.tables.length c4)∧w'.cell? ⟨b4,off4 + v,none⟩=some (.slice (some ⟨b5,off5,none⟩) m4 d4)∧w'.cell? ⟨b5,off5 + a0 * 3,none⟩=some (.bool hd5.neg)∧w'.cell? ⟨b5,off5 + a0 * 3 + 1,none⟩=some (.slice hd5.A hd5.n hd5.c)∧w'.cell? ⟨b5,off5 + a0 * 3 + 2,none⟩=some (.slice hd5.D hd5.k hd5.e)) 15 15 (by kernel_rfl) rfl rfl rfl (by kernel_rfl) ?hS1 (fun hHeld=>?rest1)
    case hS1=>(first | exact ⟨z0,z1,z2,r4,q1,g0,g1,g2'⟩ | assumption | go_keep)
    refine tk 0 rfl ?_
    try simp only [Act.put,sp]
    refine tk 1 rfl ?_
    try simp only [Act.put,sp]
    refine tk 2 rfl ?_
    try simp only [Act.put,sp]
    refine tk 3 rfl ?_
    try simp only [Act.put,sp]
    refine tk 4 rfl ?_
    try simp only [Act.put,sp]
    refine tk 5 rfl ?_
    try simp only [Act.put,sp]
    refine tk 6 rfl ?_
    try simp only [Act.put,sp]
    refine tk 7 rfl ?_
    try simp only [Act.put,sp]
    refine tk 8 rfl ?_
    try simp only [Act.put,sp]
    refine tk 9 rfl ?_
    try simp only [Act.put,sp]
    refine tk 10 rfl ?_
    try simp only [Act.put,sp]
    refine tk 11 rfl ?_
    try simp only [Act.put,sp]
    refine tk 12 rfl ?_
    try simp only [Act.put,sp]
    refine wpAnyH_ready (rs:=[13,14]) (by kernel_rfl) (by simp) (consM rfl (fun K hK=>?step16) (consL rfl (fun K hK=>?step17)))
    case step16 =>
     (go_simp;(refine (rfrac_sub _ _ 1 (nth (nth N.tables v) a0).q (ratLen 1) (nth (nth N.tables v) a0).sz _ (hone.below (Nat.le_refl _) hbw) (hraw.at.below (Nat.le_refl _) hbw) (by rw [ratLen_one];omega)).mono ?_);(intro e1 y0 hp0);(rw [HLF.out.2] at hp0);(obtain ⟨hl,rfl,hq,hbq0⟩:=hp0.hd);(have hqb:=hszw);(have hbs:Below _ _ y0:=hbq0);(have hbw:=hbw.trans (hbs.mono hszw));(have hszw:=hbw.size);(have z0:=bc hbw z00 hrl1);(have z1:=bc hbw z10 hrl1);(have z2:=bc hbw z20 hrl1);(have r4:=bc hbw r40 hrl);(have q1:=bc hbw q10 hb4r);(have g0:=bc hbw g00 hb5);(have g1:=bc hbw g10 hb5);(have g2':=bc hbw g2'0 hb5))
     refine hK.out _ _ ?hS16 (fun hHeld=>?rest16)
     case hS16=>(first | exact ⟨z0,z1,z2,r4,q1,g0,g1,g2'⟩ | assumption | go_keep)
     clear hK K
     try simp only [Act.put,sp]
     refine wpAnyH_ready (rs:=[14]) (by kernel_rfl) (by simp) (consL rfl (fun K hK=>?step18))
     (go_simp;(obtain ⟨ya,hya⟩:∃ y,y=y0.alloc (.cells #[.bool false,.slice none 0 0,.slice none 0 0] 36):=⟨_,rfl⟩);(obtain ⟨ga,hga⟩:∃ g,g=y0.heap.size:=⟨_,rfl⟩);(have hbx:RowC ya ga 36 [.bool false,.slice none 0 0,.slice none 0 0]:=by rw [hya,hga];exact heap_alloc_new _ _);(have hbs:Below y0.heap.size y0 ya:=by rw [hya];exact (Below.refl _ _).alloc (Nat.le_refl _) _);(have hgal:wr.heap.size≤ga:=by rw [hga];exact hszw);(have hgaW:=Nat.le_of_eq hga.symm);(have hgy:=hbx.lt);(rw [← hya,← hga]);(clear hya hga);(have hbw:=hbw.trans (hbs.mono hszw));(have hszw:=hbw.size);(have z0:=bc hbw z00 hrl1);(have z1:=bc hbw z10 hrl1);(have z2:=bc hbw z20 hrl1);(have r4:=bc hbw r40 hrl);(have q1:=bc hbw q10 hb4r);(have g0:=bc hbw g00 hb5);(have g1:=bc hbw g10 hb5);(have g2':=bc hbw g2'0 hb5))
     refine hK.out _ _ ?hS18 (fun hHeld=>?rest18)
     case hS18=>(first | exact ⟨z0,z1,z2,r4,q1,g0,g1,g2'⟩ | assumption | go_keep)
     clear hK K
     try simp only [Act.put,sp]
     refine wpAnyH_done (by kernel_rfl) ?_ _
     unfold AheadOf
     refine wp_store_row 36 (.tmp 17) (.tmp 80) rfl ga 0 hl.cells rfl rfl hbx (by simp [RH.cells]) (by kernel_rfl) (by simp [RH.cells,Value.oneCell']) ?_
     intro w7 hw7
     have hbx7:RowC w7 ga 36 hl.cells:=by rw [hw7];exact hbx.setL _ 0
     have hq7:QAt w7 wr.heap.size hl left:=by rw [hw7];exact hq.below (belowS hbs hgaW _ _) |>.mono hqb
     have hb7:Below wr.heap.size wr w7:=by rw [hw7];exact belowS hbw hgal _ _
     have HX:=Lib.hid (And.intro hbx7 (And.intro hq7 hb7))
     clear hbx7 hq7 hb7 hw7 hbx hq
     (try go_wp2_with fail)
     go_meet
     case rel=>exact ⟨ga,hl,rfl,hgal,HX.out.1,HX.out.2.1,HX.out.2.2⟩
    case step17 =>
     (go_simp;(obtain ⟨ya,hya⟩:∃ y,y=(wr.alloc (.cells #[.bool false,.slice none 0 0,.slice none 0 0] 36)).drew:=⟨_,rfl⟩);(obtain ⟨ga,hga⟩:∃ g,g=wr.heap.size:=⟨_,rfl⟩);(have hbx:RowC ya ga 36 [.bool false,.slice none 0 0,.slice none 0 0]:=by rw [hya,hga];exact heap_alloc_new _ _);(have hbw:Below wr.heap.size wr ya:=by rw [hya];exact ((Below.refl _ _).alloc (Nat.le_refl _) _).trans (below_refl_drewN _ _ 1));(have hgal:wr.heap.size≤ga:=Nat.le_of_eq hga.symm);(have hgy:=hbx.lt);(rw [← hya,← hga]);(clear hya hga);(have hszw:=hbw.size);(have z0:=bc hbw z00 hrl1);(have z1:=bc hbw z10 hrl1);(have z2:=bc hbw z20 hrl1);(have r4:=bc hbw r40 hrl);(have q1:=bc hbw q10 hb4r);(have g0:=bc hbw g00 hb5);(have g1:=bc hbw g10 hb5);(have g2':=bc hbw g2'0 hb5))
     refine hK.out _ _ ?hS17 (fun hHeld=>?rest17)
     case hS17=>(first | exact ⟨z0,z1,z2,r4,q1,g0,g1,g2'⟩ | assumption | go_keep)
     clear hK K
     try simp only [Act.put,sp]
     refine wpAnyH_ready (rs:=[13]) (by kernel_rfl) (by simp) (consL rfl (fun K hK=>?step19))
     (go_simp;(refine (rfrac_sub _ _ 1 (nth (nth N.tables v) a0).q (ratLen 1) (nth (nth N.tables v) a0).sz _ (hone.below (Nat.le_refl _) hbw) (hraw.at.below (Nat.le_refl _) hbw) (by rw [ratLen_one];omega)).mono ?_);(intro e1 y0 hp0);(rw [HLF.out.2] at hp0);(obtain ⟨hl,rfl,hq,hbq0⟩:=hp0.hd);(have hqb:=hszw);(have hbs:Below _ _ y0:=hbq0);(have hbx:=hbx.below' hbs);(have hgyp:=hgy);(have hgy:=Nat.lt_of_lt_of_le hgy hbs.size);(have hbw:=hbw.trans (hbs.mono hszw));(have hszw:=hbw.size);(have z0:=bc hbw z00 hrl1);(have z1:=bc hbw z10 hrl1);(have z2:=bc hbw z20 hrl1);(have r4:=bc hbw r40 hrl);(have q1:=bc hbw q10 hb4r);(have g0:=bc hbw g00 hb5);(have g1:=bc hbw g10 hb5);(have g2':=bc hbw g2'0 hb5))
     refine hK.out _ _ ?hS19 (fun hHeld=>?rest19)
     case hS19=>(first | exact ⟨z0,z1,z2,r4,q1,g0,g1,g2'⟩ | assumption | go_keep)
     clear hK K
     try simp only [Act.put,sp]
     refine wpAnyH_done (by kernel_rfl) ?_ _
     unfold AheadOf
     refine wp_store_row 36 (.tmp 17) (.tmp 80) rfl ga 0 hl.cells rfl rfl hbx (by simp [RH.cells]) (by kernel_rfl) (by simp [RH.cells,Value.oneCell']) ?_
     intro w7 hw7
     have hbx7:RowC w7 ga 36 hl.cells:=by rw [hw7];exact hbx.setL _ 0
     have hq7:QAt w7 wr.heap.size hl left:=by rw [hw7];exact (hq.farS hgyp _ _).mono hqb
     have hb7:Below wr.heap.size wr w7:=by rw [hw7];exact belowS hbw hgal _ _
     have HX:=Lib.hid (And.intro hbx7 (And.intro hq7 hb7))
     clear hbx7 hq7 hb7 hw7 hbx hq
     (try go_wp2_with fail)
     go_meet
     case rel=>exact ⟨ga,hl,rfl,hgal,HX.out.1,HX.out.2.1,HX.out.2.2⟩
   case rest =>
    obtain ⟨g17,hl,rfl,hga,hx17,hq17,hb17⟩:=hcut
    clear g0 g1 g2' hraw hsz5 hb5 q1 r4
    have rx:RowC wr (w.heap.size + 1) 36 [.bool s,.slice A n c,.slice D k' e]:=(show RowC w3 _ _ _ from (bg HG)).turn HS1.out.1 (by omega)
    have rx:=rx.below' hb17
    have u0:=rx.cell 0
    have u1:=rx.cell 1
    have u2:=rx.cell 2
    have ro:=ro.below' hb17
    have z0:=ro.cell 0
    have z1:=ro.cell 1
    have z2:=ro.cell 2
    have hszc:=hb17.size
    have hbw:=HS1.out.2.2.2.2.trans (hb17.mono HS1.out.2.2.2.2.size)
    have hsub:=rfrac_sub _ _ 1 x (ratLen 1) KX wc (hone.below (Nat.le_refl _) hb17) (HIN.out.2.2.2.1.below (Nat.le_refl _) hbw) (by rw [ratLen_one];omega)
    go_wp2_with fail
    refine hsub.mono ?_
    intro e1 y2 hp
    obtain ⟨hr,rfl,hq18,hb2'⟩:=hp.hd
    have hsz2:=hb2'.size
    obtain ⟨gs,hgs⟩:∃ g,g=y2.heap.size:=⟨_,rfl⟩
    obtain ⟨y3,hy3⟩:∃ y,y=y2.alloc (.cells #[.bool hr.neg,.slice hr.A hr.n hr.c,.slice hr.D hr.k hr.e] 36):=⟨_,rfl⟩
    have hx18:RowC y3 gs 36 (RH.cells hr):=by rw [hy3,hgs];exact heap_alloc_new _ _
    have hb3:Below y2.heap.size y2 y3:=by rw [hy3];exact (Below.refl _ _).alloc (Nat.le_refl _) _
    have hbc:Below wr.heap.size wr y3:=(hb17.trans (hb2'.mono hszc)).trans (hb3.mono (by omega))
    have hbcc:Below wc.heap.size wc y3:=hb2'.trans (hb3.mono hsz2)
    have hgsl:wr.heap.size≤gs:=by omega
    have hHV:(M (kt v)).n=m4:=by rw [(HS1.out.2.2.1.tab v hvt).row.n];exact HRM.out.2.2.2.2
    have hrA:=(HS1.out.2.1.own (kt v)).addr
    obtain ⟨gt,hgA,hgB,hgC⟩:∃ gt,(M (kt v)).A=some ⟨gt,0,none⟩∧w3.heap.size≤gt∧gt < wr.heap.size:=by
     rcases hrA with ⟨_,h1,_⟩ | ⟨gt,h1,h2,h3,h4⟩
     ·omega
     ·exact ⟨gt,h1,h3,h4⟩
    have hszy:=hbc.size
    have hF3:=HS1.out.2.1.below hbc
    have hL3:Link M (tabsN N) (stepQ N v row value x 0) 0 0 N.tables.length:=HT.out ▸ HS1.out.2.2.1
    have HA3:=Lib.hid (And.intro hF3 (And.intro hL3 hgA))
    have hrn:RowC y3 w.heap.size 27 [.string N.name,.slice A1 N.names.length c1,.slice (some ⟨b2,o2,none⟩) N.values.length c2,.slice A3 N.parents.length c3,.slice (some ⟨b4,off4,none⟩) N.tables.length c4]:=((show RowC w3 _ _ _ from (bg HG)).turn HS1.out.1 (by omega)).below' hbc
    have hrg:RowC y3 (w.heap.size + 1 + 1) 27 [.string ⟨#[]⟩,.slice none 0 0,.slice none 0 0,.slice none 0 0,.slice none 0 0]:=((show RowC w3 _ _ _ from (bg HG)).turn HS1.out.1 (by omega)).below' hbc
    have hrx:RowC y3 (w.heap.size + 1) 36 [.bool s,.slice A n c,.slice D k' e]:=rx.below' hbcc
    have hrb:RowC y3 (g11 + 1) 27 [.string N.name,.slice A1 N.names.length c1,.slice (some ⟨b2,o2,none⟩) N.values.length c2,.slice A3 N.parents.length c3,(M kT).val]:=HS1.out.2.2.2.1.below' hbc
    have hr17:RowC y3 g17 36 (RH.cells hl):=hx17.below' hbcc
    have hqL:QAt y3 wr.heap.size hl left:=hq17.below hbcc
    have hqR:QAt y3 wr.heap.size hr (1 - x):=(hq18.below hb3).mono (by omega)
    have hbw3:Below w.heap.size w y3:=hbw.trans (hbcc.mono hbw.size)
    have HY:=Lib.hid (And.intro hrn (And.intro hrx (And.intro hrb (And.intro hr17 (And.intro hx18 (And.intro hqL (And.intro hqR (And.intro hbw3 hrg))))))))
    have HM0:=Lib.hid hHV
    clear hF3 hL3 hgA hrn hrx hrb hr17 hqL hqR hbw3 hrg hHV hrA u0 u1 u2 rx ro z0 z1 z2 hbw hsub hx17 hq17 hb17 hp hq18 hx18 hb2' hb3 hbc hbcc hone
    go_upto_region 16 with fail
    rw [← hy3,← hgs]
    clear hy3 hgs
    obtain ⟨KT,hKT⟩:∃ l,l=(M kT).val:=⟨_,rfl⟩
    rw [← hKT] at HY
    go_wp2_with fail
    go_loopw [19] (fun i wz=>∃ (k:Nat) (M:Key→Lst),k≤m2∧i=.int .i64 (k:Nat)∧Turn y3 wz (fun b=>b=gt)∧Fam wz w3.heap.size M∧Link M (tabsN N) (stepQ N v row value x k) 0 0 N.tables.length∧(M kT).val=KT∧(M (kt v)).A=some ⟨gt,0,none⟩) (fun i _=>m2 - (intOf i).toNat)
    case atStart=>exact ⟨0,M,by omega,rfl,Turn.refl _ _,HA3.out.1,HA3.out.2.1,hKT.symm,HA3.out.2.2⟩
    case round =>
     clear HA3 HS1 HM0 hKT M
     obtain ⟨k,M,hk,rfl,hTz,hF,hL,hKT,hgA⟩:=hrel
     have hszz:=hTz.size
     have hbr:Below w.heap.size w wr:=HY.out.2.2.2.2.2.2.2.1.trans (hTz.below (by omega) (fun q hq e=>by omega))
     by_cases hkm:k < m2
     case pos =>
      have hd3:decide ((k:Int) < (m2:Int))=true:=decide_eq_true (by omega)
      obtain ⟨at',hat⟩:∃ a:Nat,a=rm + k:=⟨_,rfl⟩
      have e5:(rm:Int) + (k:Int)=(at':Int):=by rw [hat];exact (Int.natCast_add _ _).symm
      have hatm:at' < m4:=by have h1:=HRM.out.2.2.1;have h2:=HRM.out.2.2.2.2;omega
      have hatI:(at':Int) < (m4:Int):=by omega
      have hw3':IntKind.i64.wrap (at':Int)=(at':Int):=by rw [IntKind.wrap_i64];omega
      have hrm:rm=row * nth N.Z v:=by rw [HRM.out.1,HZ.out]
      have hkz:k < nth N.Z v:=by rw [HZ.out];exact hkm
      obtain ⟨hr1,hr2,hr3,hr4,hr5,hq6,hq7,_,hr9⟩:=HY.out
      have rn:=hr1.turn hTz (by omega)
      have rx:=hr2.turn hTz (by omega)
      have rb:=hr3.turn hTz (by omega)
      have rl:=hr4.turn hTz (by omega)
      have rs:=hr5.turn hTz (by omega)
      have hql:=hq6.turn hTz (fun q hq e=>by omega)
      have hqr:=hq7.turn hTz (fun q hq e=>by omega)
      have hgbx:=rb.lt
      obtain ⟨gT,hgT,hgTl,xv⟩:=tab_head hF hL hvt
      have hTn:(M (kt v)).n=m4:=by rw [(hL.tab v hvt).row.n];exact HRM.out.2.2.2.2
      have hTc:(M (kt v)).val=.slice (some ⟨gt,0,none⟩) m4 (M (kt v)).c:=by unfold Lst.val;rw [hgA,hTn]
      rw [hTc] at xv
      obtain ⟨cT,hcT⟩:∃ q,q=(M (kt v)).c:=⟨_,rfl⟩
      rw [← hcT] at xv
      have hKT2:KT=.slice (some ⟨gT,0,none⟩) N.tables.length (M kT).c:=by rw [← hKT];unfold Lst.val;rw [hgT,hL.tO.n]
      have x4:wr.cell? ⟨g11 + 1,4,none⟩=some KT:=rb.cell 4
      rw [hKT2] at x4
      obtain ⟨cTT,hcTT⟩:∃ q,q=(M kT).c:=⟨_,rfl⟩
      rw [← hcTT] at x4
      have r4:wr.cell? ⟨w.heap.size,4,none⟩=some (.slice (some ⟨b4,off4,none⟩) N.tables.length c4):=rn.cell 4
      have q1:=bc hbr HRO.out.2.2 HRO.out.2.1
      have u0:=rx.cell 0
      have u1:=rx.cell 1
      have u2:=rx.cell 2
      have l0:wr.cell? ⟨g17,0,none⟩=some (.bool hl.neg):=rl.cell 0
      have l1:wr.cell? ⟨g17,1,none⟩=some (.slice hl.A hl.n hl.c):=rl.cell 1
      have l2:wr.cell? ⟨g17,2,none⟩=some (.slice hl.D hl.k hl.e):=rl.cell 2
      have s0:wr.cell? ⟨gs,0,none⟩=some (.bool hr.neg):=rs.cell 0
      have s1:wr.cell? ⟨gs,1,none⟩=some (.slice hr.A hr.n hr.c):=rs.cell 1
      have s2:wr.cell? ⟨gs,2,none⟩=some (.slice hr.D hr.k hr.e):=rs.cell 2
      have hxl:=HIN.out.2.2.2.2
      have h1x:ratLen (1 - x)≤2 * (ratLen 1 + ratLen x) + 1:=sub_len 1 x
      rw [ratLen_one] at h1x
      have hRl:RatAt wr (.agg #[.bool hl.neg,.slice hl.A hl.n hl.c,.slice hl.D hl.k hl.e]) left (ratLen left):=hql.at (by omega)
      have hRr:RatAt wr (.agg #[.bool hr.neg,.slice hr.A hr.n hr.c,.slice hr.D hr.k hr.e]) (1 - x) (ratLen (1 - x)):=hqr.at (by omega)
      have hRx:RatAt wr (.agg #[.bool s,.slice A n c,.slice D k' e]) x KX:=HIN.out.2.2.2.1.below (Nat.le_refl _) hbr
      have hll':=Nat.lt_of_le_of_lt (show w.heap.size≤w.heap.size from Nat.le_refl _) rn.lt
      have hla:=rl.lt
      have hls:=rs.lt
      have hlx:=rx.lt
      have hb4z:b4 < wr.heap.size:=Nat.lt_of_lt_of_le HRO.out.2.1 hbr.size
      have hgTz:gT < wr.heap.size:=(hF.lt (k:=kT) (b:=gT) (by unfold Lst.val;rw [hgT];rfl)).2
      have hwzl:w3.heap.size≤wr.heap.size:=by omega
      obtain ⟨nq,hnq⟩:∃ q,q=newQ N v row value x k:=⟨_,rfl⟩
      have HK:=Lib.hid (And.intro hTz (And.intro hF (And.intro hL (And.intro hKT (And.intro hgA (And.intro hTc (And.intro hbr (And.intro hat hrm))))))))
      have HNQ:=Lib.hid hnq
      clear hTz hF hL hKT hgA hTc hbr hr1 hr2 hr3 hr4 hr5 hq6 hq7 hr9 hql hqr rn rx rb rl rs hcT hcTT hKT2 hTn hgT hnq hat hrm
      by_cases hkv:k=value
      case pos=>as_aux_lemma =>
       have d0:((k:Int) == (value:Int))=true:=beq_iff_eq.2 (by omega)
       have hnx:x=nq:=by rw [HNQ.out];unfold newQ;rw [if_pos hkv]
       have hfit:=fun y hb=>rfrac_fit (.agg #[.bool s,.slice A n c,.slice D k' e]) x KX y (hRx.below (B:=wr.heap.size) (Nat.le_refl _) hb) (by omega)
       rw [hnx] at hfit
       have HFI:=Lib.hid hfit
       have HKV:=Lib.hid hkv
       clear hfit hnx hkv
       go_upto_region 23 with fail
       have x40:=x4
       have xv0:=xv
       have u00:=u0
       have u10:=u1
       have u20:=u2
       have hbw:Below wr.heap.size wr wr.drew:=below_refl_drewN _ _ 1
       have hszw:=hbw.size
       refine wp_region_lastL (S:=fun w'=>w'.cell? ⟨g11 + 1,4,none⟩=some (.slice (some ⟨gT,0,none⟩) N.tables.length cTT)∧w'.cell? ⟨gT,v,none⟩=some (.slice (some ⟨gt,0,none⟩) m4 cT)∧w'.cell? ⟨w.heap.size + 1,0,none⟩=some (.bool s)∧w'.cell? ⟨w.heap.size + 1,1,none⟩=some (.slice A n c)∧w'.cell? ⟨w.heap.size + 1,2,none⟩=some (.slice D k' e)) 9 9 (by kernel_rfl) rfl rfl rfl (by kernel_rfl) ?hS20 (fun hHeld=>?rest20)
       case hS20=>(first | exact ⟨x4,xv,u0,u1,u2⟩ | assumption | go_keep)
       refine tk 0 rfl ?_
       try simp only [Act.put,sp]
       refine tk 1 rfl ?_
       try simp only [Act.put,sp]
       refine tk 2 rfl ?_
       try simp only [Act.put,sp]
       refine tk 3 rfl ?_
       try simp only [Act.put,sp]
       refine tk 4 rfl ?_
       try simp only [Act.put,sp]
       refine tk 5 rfl ?_
       try simp only [Act.put,sp]
       refine tk 6 rfl ?_
       try simp only [Act.put,sp]
       refine wpAnyH_ready (rs:=[7]) (by kernel_rfl) (by simp) (consL rfl (fun K hK=>?step28))
       (go_simp;(refine (HFI.out _ hbw).mono ?_);(intro e1 y0 hp0);(obtain ⟨R,c5,D5,d5,rfl,h1,h2,hsep,hbq0⟩:=hp0);(have hqb:=hszw);(have hbs:Below _ _ y0:=hbq0);(have hbw:=hbw.trans (hbs.mono hszw));(have hszw:=hbw.size);(have x4:=bc hbw x40 hgbx);(have xv:=bc hbw xv0 hgTz);(have u0:=bc hbw u00 hlx);(have u1:=bc hbw u10 hlx);(have u2:=bc hbw u20 hlx))
       refine hK.out _ _ ?hS28 (fun hHeld=>?rest28)
       case hS28=>(first | exact ⟨x4,xv,u0,u1,u2⟩ | assumption | go_keep)
       clear hK K
       try simp only [Act.put,sp]
       refine tk 8 rfl ?_
       try simp only [Act.put,sp]
       refine wpAnyH_done (by kernel_rfl) ?_ _
       unfold AheadOf
       have hRS:=roundS0 (T':=stepQ N v row value x (k + 1)) (v:=v) (at':=at') (q:=nq) (HK.out.2.1) HK.out.2.2.1 hvt (by show at' < (nth N.tables v).length;rw [HRM.out.2.2.2.2];exact hatm) hwzl hbw (h1.mono hqb) (h2.mono hqb) hsep (by rw [HK.out.2.2.2.2.2.2.2.1,HK.out.2.2.2.2.2.2.2.2,HNQ.out];exact stepQ_at _ _ _ _ _ _) (fun i j hij=>by
        by_cases hi:i=v
        ·subst hi
         exact stepQ_else (by have h1:=HK.out.2.2.2.2.2.2.2.1;have h2:=HK.out.2.2.2.2.2.2.2.2;omega)
        ·exact stepQ_other hi j)
       obtain ⟨gt2,cs2,hA2,hgtl,hrT,hlT,hR2⟩:=hRS
       obtain rfl:gt=gt2:=by have h1:=HK.out.2.2.2.2.1;rw [h1] at hA2;injection hA2 with hA2;injection hA2
       refine wp_store_row 36 (.tmp 129) (.tmp 128) rfl gt (at' * 3) (rhL R c5 D5 d5 nq).cells rfl rfl hrT hlT (by kernel_rfl) (by simp [rhL,RH.cells,Value.oneCell']) ?_
       intro w7 hw7
       obtain ⟨M7,hF7,hL7,hv7,hk7⟩:=hR2 w7 hw7
       have hA7:(M7 (kt v)).A=some ⟨gt,0,none⟩:=by
        have h1:=hv7.trans HK.out.2.2.2.2.2.1
        unfold Lst.val at h1
        injection h1
       have hT7:Turn y3 w7 (fun b=>b=gt):=by rw [hw7];exact turnS (HK.out.1.step hbw (by omega)) (fun _=>rfl) _ _
       have HX:=Lib.hid (And.intro hT7 (And.intro hF7 (And.intro hL7 (And.intro (hk7.trans HK.out.2.2.2.1) hA7))))
       clear hT7 hF7 hL7 hA7 hv7 hw7 hR2 hrT hlT hA2 hHeld
       go_wp2_with fail
       exact ⟨⟨k + 1,M7,by omega,by go_num,HX.out.1,HX.out.2.1,HX.out.2.2.1,HX.out.2.2.2.1,HX.out.2.2.2.2⟩,by simp [intOf];omega⟩
      case neg =>
       have d0:((k:Int) == (value:Int))=false:=beq_eq_false_iff_ne.2 (by omega)
       have HKV:=Lib.hid hkv
       clear hkv
       have hsg:=rfrac_sign _ left (ratLen left) wr hRl (by omega)
       go_wp2_with fail
       refine hsg.mono ?_
       rintro e1 w9 ⟨rfl,hb9⟩
       have hs9:=hb9.size
       have HK9:=Lib.hid hb9
       have x4:=bc hb9 x4 hgbx
       have xv:=bc hb9 xv hgTz
       have s0:=bc hb9 s0 hls
       have s1:=bc hb9 s1 hls
       have s2:=bc hb9 s2 hls
       have l0:=bc hb9 l0 hla
       have l1:=bc hb9 l1 hla
       have l2:=bc hb9 l2 hla
       have r4:=bc hb9 r4 hll'
       have q1:=bc hb9 q1 hb4z
       have hRl:=hRl.below (Nat.le_refl _) hb9
       have hRr:=hRr.below (Nat.le_refl _) hb9
       have hgbx:=Nat.lt_of_lt_of_le hgbx hs9
       have hgTz:=Nat.lt_of_lt_of_le hgTz hs9
       have hls:=Nat.lt_of_lt_of_le hls hs9
       have hla:=Nat.lt_of_lt_of_le hla hs9
       have hll':=Nat.lt_of_lt_of_le hll' hs9
       have hb4z:=Nat.lt_of_lt_of_le hb4z hs9
       have hw9l:w3.heap.size≤w9.heap.size:=by omega
       clear hb9 u0 u1 u2 hRx
       by_cases hl0:left=0
       case pos=>as_aux_lemma =>
        have hsg0:sgnQ left=0:=by rw [hl0];rfl
        have hz:=with_zero (N:=N) (v:=v) (row:=row) (value:=value) (x:=x) HKV.out (by rw [← HLF.out.1];exact hl0)
        rw [HZ.out,← HNQ.out] at hz
        have HZZ:=Lib.hid hz
        rw [hsg0]
        have hm2b:m2≤1048576:=by have:=hB.z v;rw [HZ.out] at this;exact this
        have i3:(m2:Int) - 1=((m2 - 1:Nat):Int):=by omega
        obtain ⟨m1,hm1⟩:∃ q,q=m2 - 1:=⟨_,rfl⟩
        rw [← hm1] at i3
        have hw4':IntKind.i64.wrap (m1:Int)=(m1:Int):=by rw [IntKind.wrap_i64];omega
        have hsl:ratLen (mkRat ((1:Nat):Int) m1)≤2:=by
         have:=ratLen_mk ((1:Nat):Int) (d:=m1) (by omega)
         have h1:(limbs ((1:Nat):Int).natAbs).length≤1:=limbs_one (by decide)
         have h2:(limbs m1).length≤1:=limbs_one (by omega)
         omega
        have HM1:=Lib.hid hm1
        clear hl0 hsg0 hz hm1
        go_upto_region 25 with fail
        have hzz2:=Lib.hid (show (1 - x) * mkRat ((1:Nat):Int) m1=nq by rw [HM1.out];exact HZZ.out)
        have x40:=x4
        have xv0:=xv
        have s00:=s0
        have s10:=s1
        have s20:=s2
        have hbw:Below w9.heap.size w9 w9.drew:=below_refl_drewN _ _ 1
        have hszw:=hbw.size
        refine wp_region_lastL (S:=fun w'=>w'.cell? ⟨g11 + 1,4,none⟩=some (.slice (some ⟨gT,0,none⟩) N.tables.length cTT)∧w'.cell? ⟨gT,v,none⟩=some (.slice (some ⟨gt,0,none⟩) m4 cT)∧w'.cell? ⟨gs,0,none⟩=some (.bool hr.neg)∧w'.cell? ⟨gs,1,none⟩=some (.slice hr.A hr.n hr.c)∧w'.cell? ⟨gs,2,none⟩=some (.slice hr.D hr.k hr.e)) 12 12 (by kernel_rfl) rfl rfl rfl (by kernel_rfl) ?hS30 (fun hHeld=>?rest30)
        case hS30=>(first | exact ⟨x4,xv,s0,s1,s2⟩ | assumption | go_keep)
        refine tk 0 rfl ?_
        try simp only [Act.put,sp]
        refine tk 1 rfl ?_
        try simp only [Act.put,sp]
        refine tk 2 rfl ?_
        try simp only [Act.put,sp]
        refine tk 3 rfl ?_
        try simp only [Act.put,sp]
        refine tk 4 rfl ?_
        try simp only [Act.put,sp]
        refine tk 5 rfl ?_
        try simp only [Act.put,sp]
        refine tk 6 rfl ?_
        try simp only [Act.put,sp]
        refine tk 7 rfl ?_
        try simp only [Act.put,sp]
        refine tk 8 rfl ?_
        try simp only [Act.put,sp]
        refine wpAnyH_ready (rs:=[9]) (by kernel_rfl) (by simp) (consL rfl (fun K hK=>?step40))
        (go_simp;(refine (rfrac_small 1 m1 _ (by decide) (by omega) (by omega)).mono ?_);(intro e1 y0 hp0);(obtain ⟨v9,rfl,hv9,hbq0⟩:=hp0.at (by omega));(have hqb:=hszw);(have hbs:Below _ _ y0:=hbq0);(have hbw:=hbw.trans (hbs.mono hszw));(have hszw:=hbw.size);(have x4:=bc hbw x40 hgbx);(have xv:=bc hbw xv0 hgTz);(have s0:=bc hbw s00 hls);(have s1:=bc hbw s10 hls);(have s2:=bc hbw s20 hls))
        refine hK.out _ _ ?hS40 (fun hHeld=>?rest40)
        case hS40=>(first | exact ⟨x4,xv,s0,s1,s2⟩ | assumption | go_keep)
        clear hK K
        try simp only [Act.put,sp]
        refine wpAnyH_ready (rs:=[10]) (by kernel_rfl) (by simp) (consL rfl (fun K hK=>?step41))
        (go_simp;(refine (rfrac_mul _ _ (1 - x) (mkRat ((1:Nat):Int) m1) (ratLen (1 - x)) (ratLen (mkRat ((1:Nat):Int) m1)) _ (hRr.below (Nat.le_refl _) hbw) hv9 (by omega)).mono ?_);(intro e1 y1 hp1);(rw [hzz2.out] at hp1);(obtain ⟨R,c5,D5,d5,rfl,h1,h2,hsep,hbq1⟩:=hp1);(have hqb:=hszw);(have hbs:Below _ _ y1:=hbq1);(have hbw:=hbw.trans (hbs.mono hszw));(have hszw:=hbw.size);(have x4:=bc hbw x40 hgbx);(have xv:=bc hbw xv0 hgTz);(have s0:=bc hbw s00 hls);(have s1:=bc hbw s10 hls);(have s2:=bc hbw s20 hls))
        refine hK.out _ _ ?hS41 (fun hHeld=>?rest41)
        case hS41=>(first | exact ⟨x4,xv,s0,s1,s2⟩ | assumption | go_keep)
        clear hK K
        try simp only [Act.put,sp]
        refine tk 11 rfl ?_
        try simp only [Act.put,sp]
        refine wpAnyH_done (by kernel_rfl) ?_ _
        unfold AheadOf
        have hRS:=roundS0 (T':=stepQ N v row value x (k + 1)) (v:=v) (at':=at') (q:=nq) (HK.out.2.1.below HK9.out) HK.out.2.2.1 hvt (by show at' < (nth N.tables v).length;rw [HRM.out.2.2.2.2];exact hatm) hw9l hbw (h1.mono hqb) (h2.mono hqb) hsep (by rw [HK.out.2.2.2.2.2.2.2.1,HK.out.2.2.2.2.2.2.2.2,HNQ.out];exact stepQ_at _ _ _ _ _ _) (fun i j hij=>by
         by_cases hi:i=v
         ·subst hi
          exact stepQ_else (by have h1:=HK.out.2.2.2.2.2.2.2.1;have h2:=HK.out.2.2.2.2.2.2.2.2;omega)
         ·exact stepQ_other hi j)
        obtain ⟨gt2,cs2,hA2,hgtl,hrT,hlT,hR2⟩:=hRS
        obtain rfl:gt=gt2:=by have h1:=HK.out.2.2.2.2.1;rw [h1] at hA2;injection hA2 with hA2;injection hA2
        refine wp_store_row 36 (.tmp 145) (.tmp 144) rfl gt (at' * 3) (rhL R c5 D5 d5 nq).cells rfl rfl hrT hlT (by kernel_rfl) (by simp [rhL,RH.cells,Value.oneCell']) ?_
        intro w7 hw7
        obtain ⟨M7,hF7,hL7,hv7,hk7⟩:=hR2 w7 hw7
        have hA7:(M7 (kt v)).A=some ⟨gt,0,none⟩:=by
         have h1:=hv7.trans HK.out.2.2.2.2.2.1
         unfold Lst.val at h1
         injection h1
        have hT7:Turn y3 w7 (fun b=>b=gt):=by rw [hw7];exact turnS ((HK.out.1.step HK9.out hszz).step hbw (by omega)) (fun _=>rfl) _ _
        have HX:=Lib.hid (And.intro hT7 (And.intro hF7 (And.intro hL7 (And.intro (hk7.trans HK.out.2.2.2.1) hA7))))
        clear hT7 hF7 hL7 hA7 hv7 hw7 hR2 hrT hlT hA2 hHeld
        go_wp2_with fail
        exact ⟨⟨k + 1,M7,by omega,by go_num,HX.out.1,HX.out.2.1,HX.out.2.2.1,HX.out.2.2.2.1,HX.out.2.2.2.2⟩,by simp [intOf];omega⟩
       case neg=>as_aux_lemma =>
        have hl1:sgnQ left ≠ 0:=by
         have h1:=sgnI_cases left.num
         have h2:left.num ≠ 0:=fun h=>hl0 (Rat.num_eq_zero.1 h)
         unfold sgnQ sgnI
         split <;> simp_all
        have hd44:(sgnQ left == 0)=false:=beq_eq_false_iff_ne.2 hl1
        have hz:=with_div (N:=N) (v:=v) (row:=row) (value:=value) (x:=x) HKV.out (by rw [← HLF.out.1];exact hl0)
        rw [← HLF.out.1,← HNQ.out,← HK.out.2.2.2.2.2.2.2.2,← HK.out.2.2.2.2.2.2.2.1] at hz
        have hbz9:=HK.out.2.2.2.2.2.2.1.trans (HK9.out.mono HK.out.2.2.2.2.2.2.1.size)
        obtain ⟨b6,off6,hd6,e6,hb6,g0,g1,g2',hraw⟩:=(HRO.out.1.below (Nat.le_refl _) hbz9).at (i:=at') hatm
        injection e6 with e6
        injection e6 with e6 e7
        subst e6 e7
        have hsz6:(nth (nth N.tables v) at').sz≤8388608:=by have h1:=HRM.out.2.2.2.1.2;have h2:=totTo_at (nth N.tables v) (i:=at') (j:=(nth N.tables v).length) (by have:=HRM.out.2.2.2.2;omega);omega
        have hql6:=row_len HRO.out.1 HRM.out.2.2.2.1.2 at' (by have:=HRM.out.2.2.2.2;omega)
        have hmlen:=mul_len (nth (nth N.tables v) at').q (1 - x)
        have hRq:=hraw.at
        generalize (nth (nth N.tables v) at').q=tq at *
        generalize (nth (nth N.tables v) at').sz=tz at *
        have HZZ:=Lib.hid (And.intro hz hl0)
        clear hz hl0 hl1 hraw hbz9
        go_upto_region 20 with fail
        go_cut [21] from 94 to 108 (fun p wx=>∃ g21 R c5 D5 d5,p=.pointer (some ⟨g21,0,none⟩)∧w9.heap.size≤g21∧RowC wx g21 36 (rhL R c5 D5 d5 nq).cells∧OwnR eU wx w9.heap.size 54 R (limbs nq.num.natAbs).length c5 (limbs nq.num.natAbs)∧OwnR eU wx w9.heap.size 54 D5 (limbs nq.den).length d5 (limbs nq.den)∧(∀ b,R=some ⟨b,0,none⟩→D5 ≠ some ⟨b,0,none⟩)∧Below w9.heap.size w9 wx)
        case first =>
         have r40:=r4
         have q10:=q1
         have g00:=g0
         have g10:=g1
         have g2'0:=g2'
         have l00:=l0
         have l10:=l1
         have l20:=l2
         have s00:=s0
         have s10:=s1
         have s20:=s2
         have hbw:Below w9.heap.size w9 w9.drew:=below_refl_drewN _ _ 1
         have hszw:=hbw.size
         refine wp_region_held_drew (S:=fun w'=>w'.cell? ⟨w.heap.size,4,none⟩=some (.slice (some ⟨b4,off4,none⟩) N.tables.length c4)∧w'.cell? ⟨b4,off4 + v,none⟩=some (.slice (some ⟨b5,off5,none⟩) m4 d4)∧w'.cell? ⟨b5,off5 + at' * 3,none⟩=some (.bool hd6.neg)∧w'.cell? ⟨b5,off5 + at' * 3 + 1,none⟩=some (.slice hd6.A hd6.n hd6.c)∧w'.cell? ⟨b5,off5 + at' * 3 + 2,none⟩=some (.slice hd6.D hd6.k hd6.e)∧w'.cell? ⟨g17,0,none⟩=some (.bool hl.neg)∧w'.cell? ⟨g17,1,none⟩=some (.slice hl.A hl.n hl.c)∧w'.cell? ⟨g17,2,none⟩=some (.slice hl.D hl.k hl.e)∧w'.cell? ⟨gs,0,none⟩=some (.bool hr.neg)∧w'.cell? ⟨gs,1,none⟩=some (.slice hr.A hr.n hr.c)∧w'.cell? ⟨gs,2,none⟩=some (.slice hr.D hr.k hr.e)) (by kernel_rfl) ?hS52 (fun hHeld=>?rest52)
         case hS52=>(first | exact ⟨r4,q1,g0,g1,g2',l0,l1,l2,s0,s1,s2⟩ | assumption | go_keep)
         refine tk 0 rfl ?_
         try simp only [Act.put,sp]
         refine tk 1 rfl ?_
         try simp only [Act.put,sp]
         refine tk 2 rfl ?_
         try simp only [Act.put,sp]
         refine tk 3 rfl ?_
         try simp only [Act.put,sp]
         refine tk 4 rfl ?_
         try simp only [Act.put,sp]
         refine tk 5 rfl ?_
         try simp only [Act.put,sp]
         refine tk 6 rfl ?_
         try simp only [Act.put,sp]
         refine tk 7 rfl ?_
         try simp only [Act.put,sp]
         refine tk 8 rfl ?_
         try simp only [Act.put,sp]
         refine tk 10 rfl ?_
         try simp only [Act.put,sp]
         refine wpAnyH_ready (rs:=[9,15]) (by kernel_rfl) (by simp) (consM rfl (fun K hK=>?step64) (consL rfl (fun K hK=>?step65)))
         case step64 =>
          (go_simp;(refine (rfrac_mul _ _ tq (1 - x) tz (ratLen (1 - x)) _ (hRq.below (Nat.le_refl _) hbw) (hRr.below (Nat.le_refl _) hbw) (by omega)).mono ?_);(intro e1 y0 hp0);(obtain ⟨v9,rfl,hv9,hbq0⟩:=hp0.at (by omega));(have hvb:=Below.refl y0.heap.size y0);(have hqb:=hszw);(have hbs:Below _ _ y0:=hbq0);(have hbw:=hbw.trans (hbs.mono hszw));(have hszw:=hbw.size);(have r4:=bc hbw r40 hll');(have q1:=bc hbw q10 hb4z);(have g0:=bc hbw g00 hb6);(have g1:=bc hbw g10 hb6);(have g2':=bc hbw g2'0 hb6);(have l0:=bc hbw l00 hla);(have l1:=bc hbw l10 hla);(have l2:=bc hbw l20 hla);(have s0:=bc hbw s00 hls);(have s1:=bc hbw s10 hls);(have s2:=bc hbw s20 hls))
          refine hK.out _ _ ?hS64 (fun hHeld=>?rest64)
          case hS64=>(first | exact ⟨r4,q1,g0,g1,g2',l0,l1,l2,s0,s1,s2⟩ | assumption | go_keep)
          clear hK K
          try simp only [Act.put,sp]
          refine wpAnyH_ready (rs:=[11,15]) (by kernel_rfl) (by simp) (consM rfl (fun K hK=>?step67) (consL rfl (fun K hK=>?step68)))
          case step67 =>
           (go_simp;(refine (rfrac_div _ _ (tq * (1 - x)) left (ratLen (tq * (1 - x))) (ratLen left) _ (hv9.below (Nat.le_refl _) hvb) (hRl.below (Nat.le_refl _) hbw) (by omega) HZZ.out.2).mono ?_);(intro e1 y1 hp1);(rw [HZZ.out.1] at hp1);(obtain ⟨R,c5,D5,d5,rfl,h1,h2,hsep,hbq1⟩:=hp1);(have hqb:=hszw);(have hbs:Below _ _ y1:=hbq1);(have hbw:=hbw.trans (hbs.mono hszw));(have hszw:=hbw.size);(have r4:=bc hbw r40 hll');(have q1:=bc hbw q10 hb4z);(have g0:=bc hbw g00 hb6);(have g1:=bc hbw g10 hb6);(have g2':=bc hbw g2'0 hb6);(have l0:=bc hbw l00 hla);(have l1:=bc hbw l10 hla);(have l2:=bc hbw l20 hla);(have s0:=bc hbw s00 hls);(have s1:=bc hbw s10 hls);(have s2:=bc hbw s20 hls))
           refine hK.out _ _ ?hS67 (fun hHeld=>?rest67)
           case hS67=>(first | exact ⟨r4,q1,g0,g1,g2',l0,l1,l2,s0,s1,s2⟩ | assumption | go_keep)
           clear hK K
           try simp only [Act.put,sp]
           refine tk 12 rfl ?_
           try simp only [Act.put,sp]
           refine tk 13 rfl ?_
           try simp only [Act.put,sp]
           refine tk 14 rfl ?_
           try simp only [Act.put,sp]
           refine wpAnyH_ready (rs:=[15]) (by kernel_rfl) (by simp) (consL rfl (fun K hK=>?step72))
           (go_simp;(obtain ⟨ya,hya⟩:∃ y,y=y1.alloc (.cells #[.bool false,.slice none 0 0,.slice none 0 0] 36):=⟨_,rfl⟩);(obtain ⟨ga,hga⟩:∃ g,g=y1.heap.size:=⟨_,rfl⟩);(have hbx:RowC ya ga 36 [.bool false,.slice none 0 0,.slice none 0 0]:=by rw [hya,hga];exact heap_alloc_new _ _);(have hbs:Below y1.heap.size y1 ya:=by rw [hya];exact (Below.refl _ _).alloc (Nat.le_refl _) _);(have hgal:w9.heap.size≤ga:=by rw [hga];exact hszw);(have hgaW:=Nat.le_of_eq hga.symm);(have hgy:=hbx.lt);(rw [← hya,← hga]);(clear hya hga);(have hbw:=hbw.trans (hbs.mono hszw));(have hszw:=hbw.size);(try have hvb:=hbs);(have r4:=bc hbw r40 hll');(have q1:=bc hbw q10 hb4z);(have g0:=bc hbw g00 hb6);(have g1:=bc hbw g10 hb6);(have g2':=bc hbw g2'0 hb6);(have l0:=bc hbw l00 hla);(have l1:=bc hbw l10 hla);(have l2:=bc hbw l20 hla);(have s0:=bc hbw s00 hls);(have s1:=bc hbw s10 hls);(have s2:=bc hbw s20 hls))
           refine hK.out _ _ ?hS72 (fun hHeld=>?rest72)
           case hS72=>(first | exact ⟨r4,q1,g0,g1,g2',l0,l1,l2,s0,s1,s2⟩ | assumption | go_keep)
           clear hK K
           try simp only [Act.put,sp]
           refine wpAnyH_ready (rs:=[16]) (by kernel_rfl) (by simp) (consL rfl (fun K hK=>?step73))
           (refine step_store_row (by rfl) 36 (.tmp 21) (.tmp 107) (by rfl) ga 0 (rhL R c5 D5 d5 nq).cells (by rfl) (by rfl) hbx (by simp [rhL,RH.cells]) (by kernel_rfl) (by simp [rhL,RH.cells,Value.oneCell']) ?_;(intro w7 hw7);(have hbx7:RowC w7 ga 36 (rhL R c5 D5 d5 nq).cells:=by rw [hw7];exact hbx.setL _ 0);(have hQ7:QAt w7 w9.heap.size (rhL R c5 D5 d5 nq) nq:=by rw [hw7];exact ((QAt.of h1 h2).below (belowS hbs hgaW _ _)).mono hqb);(have hbw:Below w9.heap.size w9 w7:=by rw [hw7];exact belowS hbw hgal _ _);(clear hw7);(have r4:=bc hbw r40 hll');(have q1:=bc hbw q10 hb4z);(have g0:=bc hbw g00 hb6);(have g1:=bc hbw g10 hb6);(have g2':=bc hbw g2'0 hb6);(have l0:=bc hbw l00 hla);(have l1:=bc hbw l10 hla);(have l2:=bc hbw l20 hla);(have s0:=bc hbw s00 hls);(have s1:=bc hbw s10 hls);(have s2:=bc hbw s20 hls))
           refine hK.out _ _ ?hS73 (fun hHeld=>?rest73)
           case hS73=>(first | exact ⟨r4,q1,g0,g1,g2',l0,l1,l2,s0,s1,s2⟩ | assumption | go_keep)
           clear hK K
           try simp only [Act.put,sp]
           refine tk 17 rfl ?_
           try simp only [Act.put,sp]
           refine wpAnyH_done (by kernel_rfl) ?_ _
           have HX:=Lib.hid (And.intro hgal (And.intro hbx7 (And.intro hQ7.num (And.intro hQ7.den (And.intro hsep hbw)))))
           (try go_wp2_with fail)
           go_meet
           case rel=>exact ⟨ga,R,c5,D5,d5,rfl,HX.out.1,HX.out.2.1,HX.out.2.2.1,HX.out.2.2.2.1,HX.out.2.2.2.2.1,HX.out.2.2.2.2.2⟩
          case step68 =>
           (go_simp;(obtain ⟨ya,hya⟩:∃ y,y=y0.alloc (.cells #[.bool false,.slice none 0 0,.slice none 0 0] 36):=⟨_,rfl⟩);(obtain ⟨ga,hga⟩:∃ g,g=y0.heap.size:=⟨_,rfl⟩);(have hbx:RowC ya ga 36 [.bool false,.slice none 0 0,.slice none 0 0]:=by rw [hya,hga];exact heap_alloc_new _ _);(have hbs:Below y0.heap.size y0 ya:=by rw [hya];exact (Below.refl _ _).alloc (Nat.le_refl _) _);(have hgal:w9.heap.size≤ga:=by rw [hga];exact hszw);(have hgaW:=Nat.le_of_eq hga.symm);(have hgy:=hbx.lt);(rw [← hya,← hga]);(clear hya hga);(have hbw:=hbw.trans (hbs.mono hszw));(have hszw:=hbw.size);(try have hvb:=hbs);(have r4:=bc hbw r40 hll');(have q1:=bc hbw q10 hb4z);(have g0:=bc hbw g00 hb6);(have g1:=bc hbw g10 hb6);(have g2':=bc hbw g2'0 hb6);(have l0:=bc hbw l00 hla);(have l1:=bc hbw l10 hla);(have l2:=bc hbw l20 hla);(have s0:=bc hbw s00 hls);(have s1:=bc hbw s10 hls);(have s2:=bc hbw s20 hls))
           refine hK.out _ _ ?hS68 (fun hHeld=>?rest68)
           case hS68=>(first | exact ⟨r4,q1,g0,g1,g2',l0,l1,l2,s0,s1,s2⟩ | assumption | go_keep)
           clear hK K
           try simp only [Act.put,sp]
           refine wpAnyH_ready (rs:=[11]) (by kernel_rfl) (by simp) (consL rfl (fun K hK=>?step75))
           (go_simp;(refine (rfrac_div _ _ (tq * (1 - x)) left (ratLen (tq * (1 - x))) (ratLen left) _ (hv9.below (Nat.le_refl _) hvb) (hRl.below (Nat.le_refl _) hbw) (by omega) HZZ.out.2).mono ?_);(intro e1 y1 hp1);(rw [HZZ.out.1] at hp1);(obtain ⟨R,c5,D5,d5,rfl,h1,h2,hsep,hbq1⟩:=hp1);(have hqb:=hszw);(have hbs:Below _ _ y1:=hbq1);(have hbx:=hbx.below' hbs);(have hgyp:=hgy);(have hgy:=Nat.lt_of_lt_of_le hgy hbs.size);(have hbw:=hbw.trans (hbs.mono hszw));(have hszw:=hbw.size);(have r4:=bc hbw r40 hll');(have q1:=bc hbw q10 hb4z);(have g0:=bc hbw g00 hb6);(have g1:=bc hbw g10 hb6);(have g2':=bc hbw g2'0 hb6);(have l0:=bc hbw l00 hla);(have l1:=bc hbw l10 hla);(have l2:=bc hbw l20 hla);(have s0:=bc hbw s00 hls);(have s1:=bc hbw s10 hls);(have s2:=bc hbw s20 hls))
           refine hK.out _ _ ?hS75 (fun hHeld=>?rest75)
           case hS75=>(first | exact ⟨r4,q1,g0,g1,g2',l0,l1,l2,s0,s1,s2⟩ | assumption | go_keep)
           clear hK K
           try simp only [Act.put,sp]
           refine tk 12 rfl ?_
           try simp only [Act.put,sp]
           refine tk 13 rfl ?_
           try simp only [Act.put,sp]
           refine tk 14 rfl ?_
           try simp only [Act.put,sp]
           refine wpAnyH_ready (rs:=[16]) (by kernel_rfl) (by simp) (consL rfl (fun K hK=>?step79))
           (refine step_store_row (by rfl) 36 (.tmp 21) (.tmp 107) (by rfl) ga 0 (rhL R c5 D5 d5 nq).cells (by rfl) (by rfl) hbx (by simp [rhL,RH.cells]) (by kernel_rfl) (by simp [rhL,RH.cells,Value.oneCell']) ?_;(intro w7 hw7);(have hbx7:RowC w7 ga 36 (rhL R c5 D5 d5 nq).cells:=by rw [hw7];exact hbx.setL _ 0);(have hQ7:QAt w7 w9.heap.size (rhL R c5 D5 d5 nq) nq:=by rw [hw7];exact ((QAt.of h1 h2).farS hgyp _ _).mono hqb);(have hbw:Below w9.heap.size w9 w7:=by rw [hw7];exact belowS hbw hgal _ _);(clear hw7);(have r4:=bc hbw r40 hll');(have q1:=bc hbw q10 hb4z);(have g0:=bc hbw g00 hb6);(have g1:=bc hbw g10 hb6);(have g2':=bc hbw g2'0 hb6);(have l0:=bc hbw l00 hla);(have l1:=bc hbw l10 hla);(have l2:=bc hbw l20 hla);(have s0:=bc hbw s00 hls);(have s1:=bc hbw s10 hls);(have s2:=bc hbw s20 hls))
           refine hK.out _ _ ?hS79 (fun hHeld=>?rest79)
           case hS79=>(first | exact ⟨r4,q1,g0,g1,g2',l0,l1,l2,s0,s1,s2⟩ | assumption | go_keep)
           clear hK K
           try simp only [Act.put,sp]
           refine tk 17 rfl ?_
           try simp only [Act.put,sp]
           refine wpAnyH_done (by kernel_rfl) ?_ _
           have HX:=Lib.hid (And.intro hgal (And.intro hbx7 (And.intro hQ7.num (And.intro hQ7.den (And.intro hsep hbw)))))
           (try go_wp2_with fail)
           go_meet
           case rel=>exact ⟨ga,R,c5,D5,d5,rfl,HX.out.1,HX.out.2.1,HX.out.2.2.1,HX.out.2.2.2.1,HX.out.2.2.2.2.1,HX.out.2.2.2.2.2⟩
         case step65 =>
          (go_simp;(obtain ⟨ya,hya⟩:∃ y,y=(w9.alloc (.cells #[.bool false,.slice none 0 0,.slice none 0 0] 36)).drew:=⟨_,rfl⟩);(obtain ⟨ga,hga⟩:∃ g,g=w9.heap.size:=⟨_,rfl⟩);(have hbx:RowC ya ga 36 [.bool false,.slice none 0 0,.slice none 0 0]:=by rw [hya,hga];exact heap_alloc_new _ _);(have hbw:Below w9.heap.size w9 ya:=by rw [hya];exact ((Below.refl _ _).alloc (Nat.le_refl _) _).trans (below_refl_drewN _ _ 1));(have hgal:w9.heap.size≤ga:=Nat.le_of_eq hga.symm);(have hgy:=hbx.lt);(rw [← hya,← hga]);(clear hya hga);(have hszw:=hbw.size);(try have hvb:=hbs);(have r4:=bc hbw r40 hll');(have q1:=bc hbw q10 hb4z);(have g0:=bc hbw g00 hb6);(have g1:=bc hbw g10 hb6);(have g2':=bc hbw g2'0 hb6);(have l0:=bc hbw l00 hla);(have l1:=bc hbw l10 hla);(have l2:=bc hbw l20 hla);(have s0:=bc hbw s00 hls);(have s1:=bc hbw s10 hls);(have s2:=bc hbw s20 hls))
          refine hK.out _ _ ?hS65 (fun hHeld=>?rest65)
          case hS65=>(first | exact ⟨r4,q1,g0,g1,g2',l0,l1,l2,s0,s1,s2⟩ | assumption | go_keep)
          clear hK K
          try simp only [Act.put,sp]
          refine wpAnyH_ready (rs:=[9]) (by kernel_rfl) (by simp) (consL rfl (fun K hK=>?step81))
          (go_simp;(refine (rfrac_mul _ _ tq (1 - x) tz (ratLen (1 - x)) _ (hRq.below (Nat.le_refl _) hbw) (hRr.below (Nat.le_refl _) hbw) (by omega)).mono ?_);(intro e1 y0 hp0);(obtain ⟨v9,rfl,hv9,hbq0⟩:=hp0.at (by omega));(have hvb:=Below.refl y0.heap.size y0);(have hqb:=hszw);(have hbs:Below _ _ y0:=hbq0);(have hbx:=hbx.below' hbs);(have hgyp:=hgy);(have hgy:=Nat.lt_of_lt_of_le hgy hbs.size);(have hbw:=hbw.trans (hbs.mono hszw));(have hszw:=hbw.size);(have r4:=bc hbw r40 hll');(have q1:=bc hbw q10 hb4z);(have g0:=bc hbw g00 hb6);(have g1:=bc hbw g10 hb6);(have g2':=bc hbw g2'0 hb6);(have l0:=bc hbw l00 hla);(have l1:=bc hbw l10 hla);(have l2:=bc hbw l20 hla);(have s0:=bc hbw s00 hls);(have s1:=bc hbw s10 hls);(have s2:=bc hbw s20 hls))
          refine hK.out _ _ ?hS81 (fun hHeld=>?rest81)
          case hS81=>(first | exact ⟨r4,q1,g0,g1,g2',l0,l1,l2,s0,s1,s2⟩ | assumption | go_keep)
          clear hK K
          try simp only [Act.put,sp]
          refine wpAnyH_ready (rs:=[11]) (by kernel_rfl) (by simp) (consL rfl (fun K hK=>?step82))
          (go_simp;(refine (rfrac_div _ _ (tq * (1 - x)) left (ratLen (tq * (1 - x))) (ratLen left) _ (hv9.below (Nat.le_refl _) hvb) (hRl.below (Nat.le_refl _) hbw) (by omega) HZZ.out.2).mono ?_);(intro e1 y1 hp1);(rw [HZZ.out.1] at hp1);(obtain ⟨R,c5,D5,d5,rfl,h1,h2,hsep,hbq1⟩:=hp1);(have hqb:=hszw);(have hbs:Below _ _ y1:=hbq1);(have hbx:=hbx.below' hbs);(have hgyp:=hgy);(have hgy:=Nat.lt_of_lt_of_le hgy hbs.size);(have hbw:=hbw.trans (hbs.mono hszw));(have hszw:=hbw.size);(have r4:=bc hbw r40 hll');(have q1:=bc hbw q10 hb4z);(have g0:=bc hbw g00 hb6);(have g1:=bc hbw g10 hb6);(have g2':=bc hbw g2'0 hb6);(have l0:=bc hbw l00 hla);(have l1:=bc hbw l10 hla);(have l2:=bc hbw l20 hla);(have s0:=bc hbw s00 hls);(have s1:=bc hbw s10 hls);(have s2:=bc hbw s20 hls))
          refine hK.out _ _ ?hS82 (fun hHeld=>?rest82)
          case hS82=>(first | exact ⟨r4,q1,g0,g1,g2',l0,l1,l2,s0,s1,s2⟩ | assumption | go_keep)
          clear hK K
          try simp only [Act.put,sp]
          refine tk 12 rfl ?_
          try simp only [Act.put,sp]
          refine tk 13 rfl ?_
          try simp only [Act.put,sp]
          refine tk 14 rfl ?_
          try simp only [Act.put,sp]
          refine wpAnyH_ready (rs:=[16]) (by kernel_rfl) (by simp) (consL rfl (fun K hK=>?step86))
          (refine step_store_row (by rfl) 36 (.tmp 21) (.tmp 107) (by rfl) ga 0 (rhL R c5 D5 d5 nq).cells (by rfl) (by rfl) hbx (by simp [rhL,RH.cells]) (by kernel_rfl) (by simp [rhL,RH.cells,Value.oneCell']) ?_;(intro w7 hw7);(have hbx7:RowC w7 ga 36 (rhL R c5 D5 d5 nq).cells:=by rw [hw7];exact hbx.setL _ 0);(have hQ7:QAt w7 w9.heap.size (rhL R c5 D5 d5 nq) nq:=by rw [hw7];exact ((QAt.of h1 h2).farS hgyp _ _).mono hqb);(have hbw:Below w9.heap.size w9 w7:=by rw [hw7];exact belowS hbw hgal _ _);(clear hw7);(have r4:=bc hbw r40 hll');(have q1:=bc hbw q10 hb4z);(have g0:=bc hbw g00 hb6);(have g1:=bc hbw g10 hb6);(have g2':=bc hbw g2'0 hb6);(have l0:=bc hbw l00 hla);(have l1:=bc hbw l10 hla);(have l2:=bc hbw l20 hla);(have s0:=bc hbw s00 hls);(have s1:=bc hbw s10 hls);(have s2:=bc hbw s20 hls))
          refine hK.out _ _ ?hS86 (fun hHeld=>?rest86)
          case hS86=>(first | exact ⟨r4,q1,g0,g1,g2',l0,l1,l2,s0,s1,s2⟩ | assumption | go_keep)
          clear hK K
          try simp only [Act.put,sp]
          refine tk 17 rfl ?_
          try simp only [Act.put,sp]
          refine wpAnyH_done (by kernel_rfl) ?_ _
          have HX:=Lib.hid (And.intro hgal (And.intro hbx7 (And.intro hQ7.num (And.intro hQ7.den (And.intro hsep hbw)))))
          (try go_wp2_with fail)
          go_meet
          case rel=>exact ⟨ga,R,c5,D5,d5,rfl,HX.out.1,HX.out.2.1,HX.out.2.2.1,HX.out.2.2.2.1,HX.out.2.2.2.2.1,HX.out.2.2.2.2.2⟩
        case rest =>
         obtain ⟨g21,R,c5,D5,d5,rfl,hg21,hx21,h1,h2,hsep,hb10⟩:=hcut
         have hs10:=hb10.size
         have x4:=bc hb10 x4 hgbx
         have xv:=bc hb10 xv hgTz
         have v0:wc.cell? ⟨g21,0,none⟩=some (.bool (isNeg nq.num)):=hx21.cell 0
         have v1:wc.cell? ⟨g21,1,none⟩=some (.slice R (limbs nq.num.natAbs).length c5):=hx21.cell 1
         have v2:wc.cell? ⟨g21,2,none⟩=some (.slice D5 (limbs nq.den).length d5):=hx21.cell 2
         have hv21:=hx21.lt
         have hgbx:=Nat.lt_of_lt_of_le hgbx hs10
         have hgTz:=Nat.lt_of_lt_of_le hgTz hs10
         clear r4 q1 g0 g1 g2' l0 l1 l2 s0 s1 s2 hRl hRr hRq hx21
         go_upto_region 21 with fail
         have x40:=x4
         have xv0:=xv
         have v00:=v0
         have v10:=v1
         have v20:=v2
         have hbw:Below wc.heap.size wc wc.drew:=below_refl_drewN _ _ 1
         have hszw:=hbw.size
         refine wp_region_lastL (S:=fun w'=>w'.cell? ⟨g11 + 1,4,none⟩=some (.slice (some ⟨gT,0,none⟩) N.tables.length cTT)∧w'.cell? ⟨gT,v,none⟩=some (.slice (some ⟨gt,0,none⟩) m4 cT)∧w'.cell? ⟨g21,0,none⟩=some (.bool (isNeg nq.num))∧w'.cell? ⟨g21,1,none⟩=some (.slice R (limbs nq.num.natAbs).length c5)∧w'.cell? ⟨g21,2,none⟩=some (.slice D5 (limbs nq.den).length d5)) 8 8 (by kernel_rfl) rfl rfl rfl (by kernel_rfl) ?hS43 (fun hHeld=>?rest43)
         case hS43=>(first | exact ⟨x4,xv,v0,v1,v2⟩ | assumption | go_keep)
         refine tk 0 rfl ?_
         try simp only [Act.put,sp]
         refine tk 1 rfl ?_
         try simp only [Act.put,sp]
         refine tk 2 rfl ?_
         try simp only [Act.put,sp]
         refine tk 3 rfl ?_
         try simp only [Act.put,sp]
         refine tk 4 rfl ?_
         try simp only [Act.put,sp]
         refine tk 5 rfl ?_
         try simp only [Act.put,sp]
         refine tk 6 rfl ?_
         try simp only [Act.put,sp]
         refine tk 7 rfl ?_
         try simp only [Act.put,sp]
         refine wpAnyH_done (by kernel_rfl) ?_ _
         unfold AheadOf
         have hbt:=hb10.trans (hbw.mono hs10)
         have hRS:=roundS0 (T':=stepQ N v row value x (k + 1)) (v:=v) (at':=at') (q:=nq) (HK.out.2.1.below HK9.out) HK.out.2.2.1 hvt (by show at' < (nth N.tables v).length;rw [HRM.out.2.2.2.2];exact hatm) hw9l hbt (h1.below (Nat.le_refl _) hbw) (h2.below (Nat.le_refl _) hbw) hsep (by rw [HK.out.2.2.2.2.2.2.2.1,HK.out.2.2.2.2.2.2.2.2,HNQ.out];exact stepQ_at _ _ _ _ _ _) (fun i j hij=>by
          by_cases hi:i=v
          ·subst hi
           exact stepQ_else (by have h1:=HK.out.2.2.2.2.2.2.2.1;have h2:=HK.out.2.2.2.2.2.2.2.2;omega)
          ·exact stepQ_other hi j)
         obtain ⟨gt2,cs2,hA2,hgtl,hrT,hlT,hR2⟩:=hRS
         obtain rfl:gt=gt2:=by have h1:=HK.out.2.2.2.2.1;rw [h1] at hA2;injection hA2 with hA2;injection hA2
         refine wp_store_row 36 (.tmp 116) (.tmp 115) rfl gt (at' * 3) (rhL R c5 D5 d5 nq).cells rfl rfl hrT hlT (by kernel_rfl) (by simp [rhL,RH.cells,Value.oneCell']) ?_
         intro w7 hw7
         obtain ⟨M7,hF7,hL7,hv7,hk7⟩:=hR2 w7 hw7
         have hA7:(M7 (kt v)).A=some ⟨gt,0,none⟩:=by
          have h1:=hv7.trans HK.out.2.2.2.2.2.1
          unfold Lst.val at h1
          injection h1
         have hT7:Turn y3 w7 (fun b=>b=gt):=by rw [hw7];exact turnS ((HK.out.1.step HK9.out hszz).step hbt (by omega)) (fun _=>rfl) _ _
         have HX:=Lib.hid (And.intro hT7 (And.intro hF7 (And.intro hL7 (And.intro (hk7.trans HK.out.2.2.2.1) hA7))))
         clear hT7 hF7 hL7 hA7 hv7 hw7 hR2 hrT hlT hA2 hHeld
         go_wp2_with fail
         exact ⟨⟨k + 1,M7,by omega,by go_num,HX.out.1,HX.out.2.1,HX.out.2.2.1,HX.out.2.2.2.1,HX.out.2.2.2.2⟩,by simp [intOf];omega⟩
     case neg=>as_aux_lemma =>
      obtain rfl:m2=k:=by omega
      have hqs:stepQ N v row value x m2=turnQ N v row value x:=by rw [← HZ.out];exact stepQ_all _ _ _ _ _
      rw [hqs] at hL
      obtain ⟨hr1,hr2,hr3,hr4,hr5,hq6,hq7,_,hr9⟩:=HY.out
      have rb:=hr3.turn hTz (by omega)
      have rg:=hr9.turn hTz (by omega)
      have hKT2:KT=.slice (M kT).A N.tables.length (M kT).c:=by rw [← hKT];unfold Lst.val;rw [hL.tO.n]
      rw [hKT2] at rb
      have x0:=rb.cell 0
      have x1:=rb.cell 1
      have x2:=rb.cell 2
      have x3:=rb.cell 3
      have x4:=rb.cell 4
      have hend:=end_box (w7:=wr.setCells (w.heap.size + 1 + 1) 0 [.string N.name,.slice A1 N.names.length c1,.slice (some ⟨b2,o2,none⟩) N.values.length c2,.slice A3 N.parents.length c3,.slice (M kT).A N.tables.length (M kT).c]) rg rfl hbr (by omega) (by omega) hF [.string N.name,.slice A1 N.names.length c1,.slice (some ⟨b2,o2,none⟩) N.values.length c2,.slice A3 N.parents.length c3,.slice (M kT).A N.tables.length (M kT).c] rfl rfl
      have HRR:=Lib.hid rg
      have HL:=Lib.hid (And.intro (hend.2.2.mono hw3le) (And.intro hL hend.2.1))
      have HEN:=Lib.hid hend.1
      clear hend hKT2 rb rg hr1 hr2 hr3 hr4 hr5 hq6 hq7 hr9 hL hF hTz hqs hgA hKT
      go_wp2_with (first | refine wpL_atLoad (t:=27) rfl ?_;refine wpList_plain rfl fun K7 hK7=>?_;go_simp;refine hK7 _ _ ?_;clear hK7 K7;go_loud (refine wpL_store_row rfl _ _ _ rfl (w.heap.size + 1 + 1) 0 [.string N.name,.slice A1 N.names.length c1,.slice (some ⟨b2,o2,none⟩) N.values.length c2,.slice A3 N.parents.length c3,.slice (M kT).A N.tables.length (M kT).c] rfl rfl HRR.out (by simp) (by kernel_rfl) (by simp [Value.oneCell']) ?_) | fail)
      have z0:(wr.setCells (w.heap.size + 1 + 1) 0 [.string N.name,.slice A1 N.names.length c1,.slice (some ⟨b2,o2,none⟩) N.values.length c2,.slice A3 N.parents.length c3,.slice (M kT).A N.tables.length (M kT).c]).cell? ⟨w.heap.size + 1 + 1,0,none⟩=some (.string N.name):=HEN.out.cell 0
      have z1:(wr.setCells (w.heap.size + 1 + 1) 0 [.string N.name,.slice A1 N.names.length c1,.slice (some ⟨b2,o2,none⟩) N.values.length c2,.slice A3 N.parents.length c3,.slice (M kT).A N.tables.length (M kT).c]).cell? ⟨w.heap.size + 1 + 1,1,none⟩=some (.slice A1 N.names.length c1):=HEN.out.cell 1
      have z2:(wr.setCells (w.heap.size + 1 + 1) 0 [.string N.name,.slice A1 N.names.length c1,.slice (some ⟨b2,o2,none⟩) N.values.length c2,.slice A3 N.parents.length c3,.slice (M kT).A N.tables.length (M kT).c]).cell? ⟨w.heap.size + 1 + 1,2,none⟩=some (.slice (some ⟨b2,o2,none⟩) N.values.length c2):=HEN.out.cell 2
      have z3:(wr.setCells (w.heap.size + 1 + 1) 0 [.string N.name,.slice A1 N.names.length c1,.slice (some ⟨b2,o2,none⟩) N.values.length c2,.slice A3 N.parents.length c3,.slice (M kT).A N.tables.length (M kT).c]).cell? ⟨w.heap.size + 1 + 1,3,none⟩=some (.slice A3 N.parents.length c3):=HEN.out.cell 3
      have z4:(wr.setCells (w.heap.size + 1 + 1) 0 [.string N.name,.slice A1 N.names.length c1,.slice (some ⟨b2,o2,none⟩) N.values.length c2,.slice A3 N.parents.length c3,.slice (M kT).A N.tables.length (M kT).c]).cell? ⟨w.heap.size + 1 + 1,4,none⟩=some (.slice (M kT).A N.tables.length (M kT).c):=HEN.out.cell 4
      exact bodyPost_ret (v:=.agg #[.string N.name,.slice A1 N.names.length c1,.slice (some ⟨b2,o2,none⟩) N.values.length c2,.slice A3 N.parents.length c3,.slice (M kT).A N.tables.length (M kT).c]) (by simp [results,Tryz.results19,go_sem,z0,z1,z2,z3,z4]) rfl ⟨M,rfl,HL.out.1,HL.out.2.1,HL.out.2.2⟩
end Go.Proofs.YtmncjibcoffmfaaGreat
