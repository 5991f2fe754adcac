/- Joined by program out of: SenseM, Sense. What each says stands at its own head. -/
import Derived.Test.YtmncjibcoffmfaaGreatOwnNet
import Derived.Test.YtmncjibcoffmfaaGreatSRTurn
import Derived.Test.YtmncjibcoffmfaaGreatSTurn
set_option linter.unusedVariables false
set_option linter.unusedSimpArgs false
/- What sense.Turn and the document's Turn answer, read as one network. Conditions: within Go's bound. -/
namespace Go.Proofs.YtmncjibcoffmfaaGreat
open Go.RowKit

theorem turnA_net (N:NetV) (v row value:Int) (x:Rat):netT (turnB N v row value x) (turnQ N v.toNat row.toNat value.toNat x)=turnA N v row value x:=by
 unfold turnB turnA
 by_cases h:turnE N v row value x ≠ 0
 ·rw [if_pos h,if_pos h];rfl
 ·rw [if_neg h,if_neg h];rfl
theorem NetB.empty:NetB emptyN:=⟨by decide,fun x hx=>absurd hx (by simp [emptyN]),by decide,fun x hx=>absurd hx (by simp [emptyN]),by decide,fun x hx=>absurd hx (by simp [emptyN]),by decide,fun x hx=>absurd hx (by simp [emptyN])⟩
theorem turnB_B {N:NetV} (hB:NetB N) (v row value:Int) (x:Rat):NetB (turnB N v row value x):=by
 unfold turnB
 split
 ·exact NetB.empty
 ·exact hB
theorem NetB.q {N:NetV} (hB:NetB N):NetQ N:=
 ⟨hB.names,hB.vals,fun l hl=>(hB.val l hl).1,hB.pars,hB.par,hB.tabs,fun l hl=>(hB.tab l hl).1,fun i j hi hj=>by
   have h1:=(hB.tab _ (nth_mem hi)).2
   have h2:=totTo_at (nth N.tables i) hj
   omega⟩
section
variable {w w':World} {N:NetV} {A1 A2 A3 A4:Option Addr} {c1 c2 c3 c4:Nat} {v row value:Int} {u:Value} {x:Rat} {KX:Nat}
theorem turnE_zero (h:¬ turnE N v row value x ≠ 0):placeE N v row value=0:=by
 have h0:turnE N v row value x=0:=Decidable.byContradiction h
 unfold turnE at h0
 split at h0
 ·rename_i h1;exact absurd h0 h1
 ·rename_i h1;exact Decidable.byContradiction h1
theorem turn_bounds (h:NetAt w N A1 A2 A3 A4 c1 c2 c3 c4) (hB:NetB N) (hu:RatAt w u x KX) (hK:KX≤100000000) :
 ∀ i j,i < (turnB N v row value x).tables.length→j < (nth (turnB N v row value x).tables i).length→ratLen (turnQ N v.toNat row.toNat value.toNat x i j)≤1000000000:=by
 intro i j hi hj
 unfold turnB at hi hj
 split at hi
 ·exact absurd hi (Nat.not_lt_zero _)
 ·rename_i h1
  rw [if_neg h1] at hj
  obtain ⟨v',row',value',rfl,rfl,rfl,hp⟩:=place_ok (turnE_zero h1)
  have hl:=hu.len
  exact turned_len h hB hp (by omega) i j hi hj
theorem turnB_pos:∀ i,i < (turnB N v row value x).tables.length→0 < (nth (turnB N v row value x).tables i).length:=by
 intro i hi
 unfold turnB at hi ⊢
 split at hi
 ·exact absurd hi (Nat.not_lt_zero _)
 ·rename_i h1
  rw [if_neg h1]
  have h2:=turnE_zero h1
  unfold placeE at h2
  split at h2
  ·rename_i h3;exact absurd h2 h3
  ·rename_i h3
   have hc:=check_ok (Decidable.byContradiction h3)
   rw [rows_len hc.2.2.2.2.2 (by omega)]
   have e1:=rowsV_pos hc.2.2.2.1 hc.1 hc.2.1 hc.2.2.2.2.1 (v:=i) (by omega)
   have e2:0 < nth N.Z i:=by
    exact named_ok hc.2.2.2.1 hc.1 i (by omega)
   exact Nat.mul_pos e1 e2
theorem turnB_tot (ht:totL (fun i=>(nth N.tables i).length) N.tables.length≤1000000000):totL (fun i=>(nth (turnB N v row value x).tables i).length) (turnB N v row value x).tables.length≤1000000000:=by
 unfold turnB
 split
 ·exact Nat.zero_le _
 ·exact ht
theorem netT_Q {N:NetV} {T:Nat→Nat→Rat} (hB:NetB N) (hT:∀ i j,i < N.tables.length→j < (nth N.tables i).length→ratLen (T i j)≤1000000000):NetQ (netT N T):=by
 have hl:(netT N T).tables.length=N.tables.length:=by simp [netT]
 have hn:∀ i,i < N.tables.length→nth (netT N T).tables i=tabT T i (nth N.tables i).length:=fun i hi=>by unfold netT;exact nth_map_range _ hi
 have hlen:∀ i,i < N.tables.length→(nth (netT N T).tables i).length=(nth N.tables i).length:=fun i hi=>by rw [hn i hi];simp [tabT]
 refine ⟨hB.names,hB.vals,fun l hl=>(hB.val l hl).1,hB.pars,hB.par,by rw [hl];exact hB.tabs,fun l hm=>?_,fun i j hi hj=>?_⟩
 ·obtain ⟨i,hi,rfl⟩:=List.mem_map.1 (show l ∈ (List.range N.tables.length).map fun i=>tabT T i (nth N.tables i).length from hm)
  have h1:=(hB.tab _ (nth_mem (xs:=N.tables) (j:=i) (List.mem_range.1 hi))).1
  simpa [tabT] using h1
 ·rw [hl] at hi
  rw [hlen i hi] at hj
  rw [hn i hi]
  have:nth (tabT T i (nth N.tables i).length) j=normR (T i j):=by unfold tabT;exact nth_map_range _ hj
  rw [this,normR_sz]
  have:=hT i j hi hj
  omega
theorem turnA_Q (h:NetAt w N A1 A2 A3 A4 c1 c2 c3 c4) (hB:NetB N) (hu:RatAt w u x KX) (hK:KX≤100000000):NetQ (turnA N v row value x):=by
 rw [← turnA_net]
 exact netT_Q (turnB_B hB v row value x) (turn_bounds h hB hu hK)
theorem fam_net {M:Key→Lst} {lo:Nat} (h:NetAt w N A1 A2 A3 A4 c1 c2 c3 c4) (hB:NetB N) (hu:RatAt w u x KX) (hK:KX≤100000000) (hF:Fam w' lo M)
 (hL:Link M (turnB N v row value x) (turnQ N v.toNat row.toNat value.toNat x) (turnB N v row value x).values.length (turnB N v row value x).parents.length (turnB N v row value x).tables.length) :
 NetAt w' (turnA N v row value x) (M kN).A (M kV).A (M kP).A (M kT).A (M kN).c (M kV).c (M kP).c (M kT).c:=by
 rw [← turnA_net]
 exact link_net hF hL (turnB_B hB v row value x) fun i j hi hj=>by have:=turn_bounds h hB hu hK i j hi hj;omega
theorem box_net {M:Key→Lst}
 (hL:Link M (turnB N v row value x) (turnQ N v.toNat row.toNat value.toNat x) (turnB N v row value x).values.length (turnB N v row value x).parents.length (turnB N v row value x).tables.length) :
 boxCs M (turnB N v row value x).name=netC (turnA N v row value x) (M kN).A (M kV).A (M kP).A (M kT).A (M kN).c (M kV).c (M kP).c (M kT).c:=by
 rw [← turnA_net]
 unfold boxCs netC
 rw [hL.names.n,hL.vals.out.n,hL.pars.out.n,hL.tO.n]
 simp [netT]
end
end Go.Proofs.YtmncjibcoffmfaaGreat
/- credencelaw29.SenseTurn, walked: it returns true and changes nothing that was there. Conditions: what comes in reads, within Go's bound. -/
namespace Go.Proofs.YtmncjibcoffmfaaGreat
open Go.RowKit

set_option maxRecDepth 100000 in
set_option maxHeartbeats 8000000 in
theorem sense_any (N:NetV) (A1 A2 A3 A4:Option Addr) (c1 c2 c3 c4:Nat) (v row value:Int) (hx:RH) (rx:RawR) (A5 A6:Option Addr) (n5 c5 n6 c6:Nat) (w:World) (h:NetAt w N A1 A2 A3 A4 c1 c2 c3 c4) (hB:NetB N) (ht:totL (fun i=>(nth N.tables i).length) N.tables.length≤1000000000) (hr:RawAt w hx rx) (hsz:rx.sz≤100000000) :
 Calls Tryz.prog 3 #[.agg #[.string N.name,.slice A1 N.names.length c1,.slice A2 N.values.length c2,.slice A3 N.parents.length c3,.slice A4 N.tables.length c4,.int .i64 v,.int .i64 row,.int .i64 value,.slice A5 n5 c5,.slice A6 n6 c6],hx.val] w fun e w'=>e=.returned (.bool true)∧Below w.heap.size w w':=by
 obtain ⟨sx,AX,nX,cX,DX,kX,eX⟩:=hx
 have H1:=(Held.init w).new 30 [.string N.name,.slice A1 N.names.length c1,.slice A2 N.values.length c2,.slice A3 N.parents.length c3,.slice A4 N.tables.length c4,.int .i64 v,.int .i64 row,.int .i64 value,.slice A5 n5 c5,.slice A6 n6 c6]
 have H2:=H1.new 36 [.bool sx,.slice AX nX cX,.slice DX kX eX]
 rw [show (w.alloc (.cells [.string N.name,.slice A1 N.names.length c1,.slice A2 N.values.length c2,.slice A3 N.parents.length c3,.slice A4 N.tables.length c4,.int .i64 v,.int .i64 row,.int .i64 value,.slice A5 n5 c5,.slice A6 n6 c6].toArray 30)).heap.size=w.heap.size + 1 from by simp] at H2
 obtain ⟨wq,hwq⟩:∃ wq:World,wq=(w.alloc (.cells #[.string N.name,.slice A1 N.names.length c1,.slice A2 N.values.length c2,.slice A3 N.parents.length c3,.slice A4 N.tables.length c4,.int .i64 v,.int .i64 row,.int .i64 value,.slice A5 n5 c5,.slice A6 n6 c6] 30)).alloc (.cells #[.bool sx,.slice AX nX cX,.slice DX kX eX] 36):=⟨_,rfl⟩
 rw [← hwq] at H2
 have hbq:=H2.bel
 have rs:RowC wq w.heap.size 30 [.string N.name,.slice A1 N.names.length c1,.slice A2 N.values.length c2,.slice A3 N.parents.length c3,.slice A4 N.tables.length c4,.int .i64 v,.int .i64 row,.int .i64 value,.slice A5 n5 c5,.slice A6 n6 c6]:=by
  have HG:=H2;exact (bg HG)
 have rxb:RowC wq (w.heap.size + 1) 36 [.bool sx,.slice AX nX cX,.slice DX kX eX]:=H2.has.1
 have st0:∀ y,Below wq.heap.size wq y→RowC y w.heap.size 30 [.string N.name,.slice A1 N.names.length c1,.slice A2 N.values.length c2,.slice A3 N.parents.length c3,.slice A4 N.tables.length c4,.int .i64 v,.int .i64 row,.int .i64 value,.slice A5 n5 c5,.slice A6 n6 c6] ∧
  RowC y (w.heap.size + 1) 36 [.bool sx,.slice AX nX cX,.slice DX kX eX]∧NetAt y N A1 A2 A3 A4 c1 c2 c3 c4∧RawAt y ⟨sx,AX,nX,cX,DX,kX,eX⟩ rx∧Below w.heap.size w y:=fun y hb=>by
  have hwy:=hbq.trans (hb.mono hbq.size)
  exact ⟨rs.below' hb,rxb.below' hb,h.below (Nat.le_refl _) hwy,hr.below (Nat.le_refl _) hwy,hwy⟩
 have HST:=Lib.hid (And.intro st0 (And.intro hB (And.intro ht hsz)))
 obtain ⟨E,hE⟩:∃ E,E=turnE N v row value rx.q:=⟨_,rfl⟩
 obtain ⟨NA,hNA⟩:∃ x,x=turnA N v row value rx.q:=⟨_,rfl⟩
 have hQA:NetQ NA:=by rw [hNA];exact turnA_Q h hB hr.at hsz
 have HEN:=Lib.hid (And.intro hE (And.intro hNA hQA))
 clear H1 H2 rs rxb st0 hbq h hB ht hr hsz hE hNA hQA
 unfold RH.val
 go_enter Tryz.func3,Tryz.ntmps3
 go_upto_region 1 with fail
 rw [← hwq]
 clear hwq
 obtain ⟨rs,rxb,hN0,_,_⟩:=HST.out.1 wq (Below.refl _ _)
 have s0:=rs.cell 0
 have s1:=rs.cell 1
 have s2:=rs.cell 2
 have s3:=rs.cell 3
 have s4:=rs.cell 4
 have hmany:=many_net N A1 A2 A3 A4 c1 c2 c3 c4 wq hN0 HST.out.2.1
 unfold netC at hmany
 have HM:=Lib.hid hmany
 clear rs rxb hN0 hmany
 go_wp2_with fail
 refine HM.out.mono ?_
 rintro e1 w1 ⟨⟨bb,rfl⟩,hb1⟩
 have HB1:=Lib.hid hb1
 clear hb1 s0 s1 s2 s3 s4 HM
 cases bb with
 | true =>
   as_aux_lemma =>
   go_wp2_with fail
   go_ret
   exact ⟨rfl,(HST.out.1 w1 HB1.out).2.2.2.2⟩
 | false =>
   have b0:=HB1.out
   obtain ⟨rs,rxb,hN0,hR0,_⟩:=HST.out.1 w1 b0
   have s0:=rs.cell 0
   have s1:=rs.cell 1
   have s2:=rs.cell 2
   have s3:=rs.cell 3
   have s4:=rs.cell 4
   have s5:=rs.cell 5
   have s6:=rs.cell 6
   have s7:=rs.cell 7
   have x0:=rxb.cell 0
   have x1:=rxb.cell 1
   have x2:=rxb.cell 2
   have hcall:=rturn_any N A1 A2 A3 A4 c1 c2 c3 c4 v row value _ rx.q rx.sz w1 hN0 HST.out.2.1 hR0.at HST.out.2.2.2
   unfold netC RH.val at hcall
   have HC:=Lib.hid hcall
   have HB0:=Lib.hid b0
   clear rs rxb hN0 hR0 hcall b0 HB1
   go_wp2_with fail
   refine HC.out.mono ?_
   rintro e2 w2 ⟨B1,B2,B3,B4,k1,k2,k3,k4,rfl,hWN,hb2⟩
   rw [← HEN.out.1,← HEN.out.2.1]
   rw [← HEN.out.2.1] at hWN
   unfold netC
   clear HC s0 s1 s2 s3 s4 s5 s6 s7 x0 x1 x2
   go_upto_region 4 with fail
   obtain ⟨w3,hw_w3⟩:∃ y,y=w2.alloc (.cells #[.string NA.name,.slice B1 NA.names.length k1,.slice B2 NA.values.length k2,.slice B3 NA.parents.length k3,.slice B4 NA.tables.length k4] 27):=⟨_,rfl⟩
   obtain ⟨g5,hg_g5⟩:∃ g,g=w2.heap.size:=⟨_,rfl⟩
   rw [← hw_w3,← hg_g5]
   have hn_w3:Below w2.heap.size w2 w3:=by rw [hw_w3];exact (Below.refl _ _).alloc (Nat.le_refl _) _
   have r_g5:RowC w3 g5 27 [.string NA.name,.slice B1 NA.names.length k1,.slice B2 NA.values.length k2,.slice B3 NA.parents.length k3,.slice B4 NA.tables.length k4]:=by rw [hw_w3,hg_g5];exact heap_alloc_new _ _
   clear hw_w3
   have b13:Below w1.heap.size w1 w3:=hb2.trans (hn_w3.mono hb2.size)
   have b0:Below wq.heap.size wq w3:=HB0.out.trans (b13.mono HB0.out.size)
   have st5:∀ y,Below w3.heap.size w3 y→RowC y g5 27 [.string NA.name,.slice B1 NA.names.length k1,.slice B2 NA.values.length k2,.slice B3 NA.parents.length k3,.slice B4 NA.tables.length k4]∧NetAt y NA B1 B2 B3 B4 k1 k2 k3 k4:=fun y hb=>⟨r_g5.below' hb,hWN.below (Nat.le_refl _) (hn_w3.trans (hb.mono hn_w3.size))⟩
   have HS5:=Lib.hid (And.intro st5 b0)
   obtain ⟨rs,rxb,hN0,hR0,_⟩:=HST.out.1 w3 b0
   have s0:=rs.cell 0
   have s1:=rs.cell 1
   have s2:=rs.cell 2
   have s3:=rs.cell 3
   have s4:=rs.cell 4
   have hcall:=lend_any N A1 A2 A3 A4 c1 c2 c3 c4 w3 hN0 HST.out.2.1
   unfold netC at hcall
   have HC:=Lib.hid hcall
   clear rs rxb hN0 hR0 hcall b0 b13 st5 hn_w3 r_g5 hWN hb2 HB0 hg_g5
   go_wp2_with fail
   refine HC.out.mono ?_
   rintro e3 w4 ⟨L1,L2,L3,L4,l1,l2,l3,l4,rfl,hLN,hb4⟩
   clear HC s0 s1 s2 s3 s4
   go_upto_region 5 with fail
   obtain ⟨w5,hw_w5⟩:∃ y,y=w4.alloc (.cells #[.string N.name,.slice L1 N.names.length l1,.slice L2 N.values.length l2,.slice L3 N.parents.length l3,.slice L4 N.tables.length l4] 27):=⟨_,rfl⟩
   obtain ⟨g7,hg_g7⟩:∃ g,g=w4.heap.size:=⟨_,rfl⟩
   rw [← hw_w5,← hg_g7]
   have hn_w5:Below w4.heap.size w4 w5:=by rw [hw_w5];exact (Below.refl _ _).alloc (Nat.le_refl _) _
   have r_g7:RowC w5 g7 27 [.string N.name,.slice L1 N.names.length l1,.slice L2 N.values.length l2,.slice L3 N.parents.length l3,.slice L4 N.tables.length l4]:=by rw [hw_w5,hg_g7];exact heap_alloc_new _ _
   clear hw_w5
   have b35:Below w3.heap.size w3 w5:=hb4.trans (hn_w5.mono hb4.size)
   have b0:Below wq.heap.size wq w5:=HS5.out.2.trans (b35.mono HS5.out.2.size)
   have st7:∀ y,Below w5.heap.size w5 y→RowC y g7 27 [.string N.name,.slice L1 N.names.length l1,.slice L2 N.values.length l2,.slice L3 N.parents.length l3,.slice L4 N.tables.length l4]∧LentN y w3.heap.size N L1 L2 L3 L4 l1 l2 l3 l4:=fun y hb=>⟨r_g7.below' hb,(hLN.below hn_w5).below hb⟩
   have HS7:=Lib.hid (And.intro st7 (And.intro b0 b35))
   obtain ⟨rs,rxb,hN0,hR0,_⟩:=HST.out.1 w5 b0
   have x0:=rxb.cell 0
   have x1:=rxb.cell 1
   have x2:=rxb.cell 2
   have hcall:=copy_any _ rx w5 hR0 (by have:=HST.out.2.2.2;omega)
   unfold RH.val at hcall
   have HC:=Lib.hid hcall
   clear rs rxb hN0 hR0 hcall b0 b35 st7 hn_w5 r_g7 hLN hb4 hg_g7
   go_wp2_with fail
   refine HC.out.mono ?_
   rintro e4 w6 ⟨⟨sY,AY,nY,cY,DY,kY,eY⟩,rfl,hLR,hb6⟩
   clear HC x0 x1 x2
   go_upto_region 6 with fail
   obtain ⟨w7,hw_w7⟩:∃ y,y=w6.alloc (.cells #[.bool sY,.slice AY nY cY,.slice DY kY eY] 36):=⟨_,rfl⟩
   obtain ⟨g8,hg_g8⟩:∃ g,g=w6.heap.size:=⟨_,rfl⟩
   rw [← hw_w7,← hg_g8]
   have hn_w7:Below w6.heap.size w6 w7:=by rw [hw_w7];exact (Below.refl _ _).alloc (Nat.le_refl _) _
   have r_g8:RowC w7 g8 36 [.bool sY,.slice AY nY cY,.slice DY kY eY]:=by rw [hw_w7,hg_g8];exact heap_alloc_new _ _
   clear hw_w7
   have b57:Below w5.heap.size w5 w7:=hb6.trans (hn_w7.mono hb6.size)
   have b37:Below w3.heap.size w3 w7:=HS7.out.2.2.trans (b57.mono HS7.out.2.2.size)
   have b0:Below wq.heap.size wq w7:=HS7.out.2.1.trans (b57.mono HS7.out.2.1.size)
   have st8:∀ y,Below w7.heap.size w7 y→RowC y w.heap.size 30 [.string N.name,.slice A1 N.names.length c1,.slice A2 N.values.length c2,.slice A3 N.parents.length c3,.slice A4 N.tables.length c4,.int .i64 v,.int .i64 row,.int .i64 value,.slice A5 n5 c5,.slice A6 n6 c6]∧RowC y (w.heap.size + 1) 36 [.bool sx,.slice AX nX cX,.slice DX kX eX]∧NetAt y N A1 A2 A3 A4 c1 c2 c3 c4∧RawAt y ⟨sx,AX,nX,cX,DX,kX,eX⟩ rx∧Below w.heap.size w y ∧
    RowC y g5 27 [.string NA.name,.slice B1 NA.names.length k1,.slice B2 NA.values.length k2,.slice B3 NA.parents.length k3,.slice B4 NA.tables.length k4]∧NetAt y NA B1 B2 B3 B4 k1 k2 k3 k4∧RowC y g7 27 [.string N.name,.slice L1 N.names.length l1,.slice L2 N.values.length l2,.slice L3 N.parents.length l3,.slice L4 N.tables.length l4]∧LentN y w3.heap.size N L1 L2 L3 L4 l1 l2 l3 l4∧RowC y g8 36 [.bool sY,.slice AY nY cY,.slice DY kY eY]∧LentR y w5.heap.size ⟨sY,AY,nY,cY,DY,kY,eY⟩ rx:=fun y hb=>by
    obtain ⟨a1,a2,a3,a4,a5⟩:=HST.out.1 y (b0.trans (hb.mono b0.size))
    obtain ⟨a6,a7⟩:=HS5.out.1 y (b37.trans (hb.mono b37.size))
    obtain ⟨a8,a9⟩:=HS7.out.1 y (b57.trans (hb.mono b57.size))
    exact ⟨a1,a2,a3,a4,a5,a6,a7,a8,a9,r_g8.below' hb,(hLR.below (Nat.le_refl _) hn_w7).below (Nat.le_refl _) hb⟩
   have H8:=Lib.hid st8
   have hcall:∀ y,Below w7.heap.size w7 y→Calls Tryz.prog 8 #[.agg #[.string N.name,.slice L1 N.names.length l1,.slice L2 N.values.length l2,.slice L3 N.parents.length l3,.slice L4 N.tables.length l4],.int .i64 v,.int .i64 row,.int .i64 value,.agg #[.bool sY,.slice AY nY cY,.slice DY kY eY]] y (TurnPost N v row value rx.q y):=fun y hb=>by
    obtain ⟨_,_,_,_,_,_,_,_,a9,_,a11⟩:=st8 y hb
    have h1:=turn_any N L1 L2 L3 L4 l1 l2 l3 l4 v row value _ rx.q rx.sz y (a9.net HST.out.2.1) HST.out.2.1 a11.raw.at HST.out.2.2.2
    unfold netC RH.val at h1
    exact h1
   have hfam:∀ (y y':World) (Mx:Key→Lst) (lo:Nat),Below w7.heap.size w7 y→Fam y' lo Mx→Link Mx (turnB N v row value rx.q) (turnQ N v.toNat row.toNat value.toNat rx.q) (turnB N v row value rx.q).values.length (turnB N v row value rx.q).parents.length (turnB N v row value rx.q).tables.length →
    NetAt y' NA (Mx kN).A (Mx kV).A (Mx kP).A (Mx kT).A (Mx kN).c (Mx kV).c (Mx kP).c (Mx kT).c:=fun y y' Mx lo hb hF hL=>by
    obtain ⟨_,_,a3,a4,_⟩:=st8 y hb
    rw [HEN.out.2.1]
    exact fam_net a3 HST.out.2.1 a4.at HST.out.2.2.2 hF hL
   have HTU:=Lib.hid (And.intro hcall hfam)
   obtain ⟨rs,rxb,_,_,_,_,_,r7,_,r8,_⟩:=st8 w7 (Below.refl _ _)
   have s5:=rs.cell 5
   have s6:=rs.cell 6
   have s7:=rs.cell 7
   have n0:=r7.cell 0
   have n1:=r7.cell 1
   have n2:=r7.cell 2
   have n3:=r7.cell 3
   have n4:=r7.cell 4
   have y0:=r8.cell 0
   have y1:=r8.cell 1
   have y2:=r8.cell 2
   clear rs rxb r7 r8 hcall hfam st8 b0 b37 b57 hn_w7 r_g8 hLR hb6 hg_g8 HS5 HS7
   go_wp2_with fail
   refine (HTU.out.1 w7 (Below.refl _ _)).mono ?_
   rintro e5 w8 ⟨Ma,rfl,hFa,hLa,hb8⟩
   rw [box_net hLa,← HEN.out.1,← HEN.out.2.1]
   unfold netC
   clear s5 s6 s7 n0 n1 n2 n3 n4 y0 y1 y2
   obtain ⟨P1,hP1⟩:∃ x,x=(Ma kN).A:=⟨_,rfl⟩
   obtain ⟨P2,hP2⟩:∃ x,x=(Ma kV).A:=⟨_,rfl⟩
   obtain ⟨P3,hP3⟩:∃ x,x=(Ma kP).A:=⟨_,rfl⟩
   obtain ⟨P4,hP4⟩:∃ x,x=(Ma kT).A:=⟨_,rfl⟩
   obtain ⟨p1,hp1⟩:∃ x,x=(Ma kN).c:=⟨_,rfl⟩
   obtain ⟨p2,hp2⟩:∃ x,x=(Ma kV).c:=⟨_,rfl⟩
   obtain ⟨p3,hp3⟩:∃ x,x=(Ma kP).c:=⟨_,rfl⟩
   obtain ⟨p4,hp4⟩:∃ x,x=(Ma kT).c:=⟨_,rfl⟩
   rw [← hP1,← hP2,← hP3,← hP4,← hp1,← hp2,← hp3,← hp4]
   have HPA:=Lib.hid (And.intro hP1 (And.intro hP2 (And.intro hP3 (And.intro hP4 (And.intro hp1 (And.intro hp2 (And.intro hp3 hp4)))))))
   have HFA:=Lib.hid (And.intro hFa (And.intro hLa hb8))
   clear hP1 hP2 hP3 hP4 hp1 hp2 hp3 hp4 hFa hLa hb8
   go_upto_region 7 with fail
   obtain ⟨w9,hw_w9⟩:∃ y,y=w8.alloc (.cells #[.string NA.name,.slice P1 NA.names.length p1,.slice P2 NA.values.length p2,.slice P3 NA.parents.length p3,.slice P4 NA.tables.length p4] 27):=⟨_,rfl⟩
   obtain ⟨g9,hg_g9⟩:∃ g,g=w8.heap.size:=⟨_,rfl⟩
   rw [← hw_w9,← hg_g9]
   have hn_w9:Below w8.heap.size w8 w9:=by rw [hw_w9];exact (Below.refl _ _).alloc (Nat.le_refl _) _
   have r_g9:RowC w9 g9 27 [.string NA.name,.slice P1 NA.names.length p1,.slice P2 NA.values.length p2,.slice P3 NA.parents.length p3,.slice P4 NA.tables.length p4]:=by rw [hw_w9,hg_g9];exact heap_alloc_new _ _
   clear hw_w9
   have b79:Below w7.heap.size w7 w9:=HFA.out.2.2.trans (hn_w9.mono HFA.out.2.2.size)
   have hs8:=HFA.out.2.2.size
   have HP9:=Lib.hid (And.intro (HFA.out.1.below hn_w9) (And.intro r_g9 (And.intro b79 (And.intro (show w8.heap.size≤w9.heap.size from hn_w9.size) (show w8.heap.size≤g9 from Nat.le_of_eq hg_g9.symm)))))
   obtain ⟨rs,rxb,_,_,_,_,_,r7,_,r8,_⟩:=H8.out w9 b79
   have s5:=rs.cell 5
   have s6:=rs.cell 6
   have s7:=rs.cell 7
   have n0:=r7.cell 0
   have n1:=r7.cell 1
   have n2:=r7.cell 2
   have n3:=r7.cell 3
   have n4:=r7.cell 4
   have y0:=r8.cell 0
   have y1:=r8.cell 1
   have y2:=r8.cell 2
   clear rs rxb r7 r8 b79 r_g9 hn_w9 hg_g9 hs8
   go_wp2_with fail
   refine (HTU.out.1 w9 HP9.out.2.2.1).mono ?_
   rintro e6 w10 ⟨Mb,rfl,hFb,hLb,hb10⟩
   rw [box_net hLb,← HEN.out.1,← HEN.out.2.1]
   unfold netC
   clear s5 s6 s7 n0 n1 n2 n3 n4 y0 y1 y2
   obtain ⟨Q1,hP1⟩:∃ x,x=(Mb kN).A:=⟨_,rfl⟩
   obtain ⟨Q2,hP2⟩:∃ x,x=(Mb kV).A:=⟨_,rfl⟩
   obtain ⟨Q3,hP3⟩:∃ x,x=(Mb kP).A:=⟨_,rfl⟩
   obtain ⟨Q4,hP4⟩:∃ x,x=(Mb kT).A:=⟨_,rfl⟩
   obtain ⟨q1,hp1⟩:∃ x,x=(Mb kN).c:=⟨_,rfl⟩
   obtain ⟨q2,hp2⟩:∃ x,x=(Mb kV).c:=⟨_,rfl⟩
   obtain ⟨q3,hp3⟩:∃ x,x=(Mb kP).c:=⟨_,rfl⟩
   obtain ⟨q4,hp4⟩:∃ x,x=(Mb kT).c:=⟨_,rfl⟩
   rw [← hP1,← hP2,← hP3,← hP4,← hp1,← hp2,← hp3,← hp4]
   have HPB:=Lib.hid (And.intro hP1 (And.intro hP2 (And.intro hP3 (And.intro hP4 (And.intro hp1 (And.intro hp2 (And.intro hp3 hp4)))))))
   have HFB:=Lib.hid (And.intro hFb (And.intro hLb hb10))
   clear hP1 hP2 hP3 hP4 hp1 hp2 hp3 hp4 hFb hLb hb10
   go_upto_region 8 with fail
   obtain ⟨w11,hw_w11⟩:∃ y,y=w10.alloc (.cells #[.string NA.name,.slice Q1 NA.names.length q1,.slice Q2 NA.values.length q2,.slice Q3 NA.parents.length q3,.slice Q4 NA.tables.length q4] 27):=⟨_,rfl⟩
   obtain ⟨g11,hg_g11⟩:∃ g,g=w10.heap.size:=⟨_,rfl⟩
   rw [← hw_w11,← hg_g11]
   have hn_w11:Below w10.heap.size w10 w11:=by rw [hw_w11];exact (Below.refl _ _).alloc (Nat.le_refl _) _
   have r_g11:RowC w11 g11 27 [.string NA.name,.slice Q1 NA.names.length q1,.slice Q2 NA.values.length q2,.slice Q3 NA.parents.length q3,.slice Q4 NA.tables.length q4]:=by rw [hw_w11,hg_g11];exact heap_alloc_new _ _
   clear hw_w11
   have b911:Below w9.heap.size w9 w11:=HFB.out.2.2.trans (hn_w11.mono HFB.out.2.2.size)
   have b711:Below w7.heap.size w7 w11:=HP9.out.2.2.1.trans (b911.mono HP9.out.2.2.1.size)
   have st11:∀ y,Below w11.heap.size w11 y→Below w7.heap.size w7 y∧Fam y w7.heap.size Ma∧RowC y g9 27 [.string NA.name,.slice P1 NA.names.length p1,.slice P2 NA.values.length p2,.slice P3 NA.parents.length p3,.slice P4 NA.tables.length p4]∧NetAt y NA P1 P2 P3 P4 p1 p2 p3 p4∧Fam y w9.heap.size Mb∧RowC y g11 27 [.string NA.name,.slice Q1 NA.names.length q1,.slice Q2 NA.values.length q2,.slice Q3 NA.parents.length q3,.slice Q4 NA.tables.length q4]∧NetAt y NA Q1 Q2 Q3 Q4 q1 q2 q3 q4:=fun y hb=>by
    have h7:=b711.trans (hb.mono b711.size)
    have h9:=b911.trans (hb.mono b911.size)
    have f1:=HP9.out.1.below h9
    have f2:=(HFB.out.1.below hn_w11).below hb
    have e1:=HTU.out.2 y y Ma _ h7 f1 HFA.out.2.1
    have e2:=HTU.out.2 y y Mb _ h7 f2 HFB.out.2.1
    rw [← HPA.out.1,← HPA.out.2.1,← HPA.out.2.2.1,← HPA.out.2.2.2.1,← HPA.out.2.2.2.2.1,← HPA.out.2.2.2.2.2.1,← HPA.out.2.2.2.2.2.2.1,← HPA.out.2.2.2.2.2.2.2] at e1
    rw [← HPB.out.1,← HPB.out.2.1,← HPB.out.2.2.1,← HPB.out.2.2.2.1,← HPB.out.2.2.2.2.1,← HPB.out.2.2.2.2.2.1,← HPB.out.2.2.2.2.2.2.1,← HPB.out.2.2.2.2.2.2.2] at e2
    exact ⟨h7,f1,HP9.out.2.1.below' h9,e1,f2,r_g11.below' hb,e2⟩
   have hg11:w8.heap.size≤g11:=by
    have h1:=HP9.out.2.2.2.1
    have h2:=HFB.out.2.2.size
    omega
   have H11:=Lib.hid (And.intro st11 hg11)
   have hsame:∀ y,Below w11.heap.size w11 y→Calls Tryz.prog 9 #[.agg #[.string NA.name,.slice P1 NA.names.length p1,.slice P2 NA.values.length p2,.slice P3 NA.parents.length p3,.slice P4 NA.tables.length p4],.agg #[.string NA.name,.slice B1 NA.names.length k1,.slice B2 NA.values.length k2,.slice B3 NA.parents.length k3,.slice B4 NA.tables.length k4]] y (fun e w'=>e=.returned (.bool true)∧Below y.heap.size y w'):=fun y hb=>by
    obtain ⟨h7,_,_,e1,_⟩:=st11 y hb
    obtain ⟨_,_,_,_,_,_,e2,_⟩:=H8.out y h7
    have h1:=samenet_any NA P1 P2 P3 P4 p1 p2 p3 p4 B1 B2 B3 B4 k1 k2 k3 k4 y e1 e2 HEN.out.2.2
    unfold netC at h1
    exact h1
   have hsame2:∀ y,Below w11.heap.size w11 y→Calls Tryz.prog 9 #[.agg #[.string NA.name,.slice Q1 NA.names.length q1,.slice Q2 NA.values.length q2,.slice Q3 NA.parents.length q3,.slice Q4 NA.tables.length q4],.agg #[.string NA.name,.slice B1 NA.names.length k1,.slice B2 NA.values.length k2,.slice B3 NA.parents.length k3,.slice B4 NA.tables.length k4]] y (fun e w'=>e=.returned (.bool true)∧Below y.heap.size y w'):=fun y hb=>by
    obtain ⟨h7,_,_,_,_,_,e1⟩:=st11 y hb
    obtain ⟨_,_,_,_,_,_,e2,_⟩:=H8.out y h7
    have h1:=samenet_any NA Q1 Q2 Q3 Q4 q1 q2 q3 q4 B1 B2 B3 B4 k1 k2 k3 k4 y e1 e2 HEN.out.2.2
    unfold netC at h1
    exact h1
   have hkept:∀ y,Below w7.heap.size w7 y→Calls Tryz.prog 10 #[.agg #[.string N.name,.slice L1 N.names.length l1,.slice L2 N.values.length l2,.slice L3 N.parents.length l3,.slice L4 N.tables.length l4],.agg #[.string N.name,.slice A1 N.names.length c1,.slice A2 N.values.length c2,.slice A3 N.parents.length c3,.slice A4 N.tables.length c4]] y (fun e w'=>e=.returned (.bool true)∧Below y.heap.size y w'):=fun y hb=>by
    obtain ⟨_,_,e1,_,_,_,_,_,e2,_⟩:=H8.out y hb
    have h1:=kept_any N w3.heap.size L1 L2 L3 L4 l1 l2 l3 l4 A1 A2 A3 A4 c1 c2 c3 c4 y e2 e1 HST.out.2.1
    unfold netC at h1
    exact h1
   have hstands:∀ y,Below w7.heap.size w7 y→Calls Tryz.prog 11 #[.agg #[.bool sY,.slice AY nY cY,.slice DY kY eY],.agg #[.bool sx,.slice AX nX cX,.slice DX kX eX]] y (fun e w'=>e=.returned (.bool true)∧Below y.heap.size y w'):=fun y hb=>by
    obtain ⟨_,_,_,e1,_,_,_,_,_,_,e2⟩:=H8.out y hb
    have h1:=stands_any ⟨sY,AY,nY,cY,DY,kY,eY⟩ ⟨sx,AX,nX,cX,DX,kX,eX⟩ rx w5.heap.size y e2 e1
    unfold RH.val at h1
    exact h1
   have HCS:=Lib.hid (And.intro hsame (And.intro hsame2 (And.intro hkept hstands)))
   obtain ⟨h7,_,r9,_⟩:=st11 w11 (Below.refl _ _)
   obtain ⟨_,_,_,_,_,r5,_⟩:=H8.out w11 h7
   have a0:=r9.cell 0
   have a1:=r9.cell 1
   have a2:=r9.cell 2
   have a3:=r9.cell 3
   have a4:=r9.cell 4
   have d0:=r5.cell 0
   have d1:=r5.cell 1
   have d2:=r5.cell 2
   have d3:=r5.cell 3
   have d4:=r5.cell 4
   clear h7 r9 r5 hsame hsame2 hkept hstands st11 hg11 b911 b711 hn_w11 r_g11 hg_g11
   go_wp2_with fail
   refine (HCS.out.1 w11 (Below.refl _ _)).mono ?_
   rintro e7 w12 ⟨rfl,hb12⟩
   have HB12:=Lib.hid hb12
   clear hb12 a0 a1 a2 a3 a4 d0 d1 d2 d3 d4
   obtain ⟨h7,_,_,_,_,r11,_⟩:=H11.out.1 w12 HB12.out
   obtain ⟨_,_,_,_,_,r5,_⟩:=H8.out w12 h7
   have a0:=r11.cell 0
   have a1:=r11.cell 1
   have a2:=r11.cell 2
   have a3:=r11.cell 3
   have a4:=r11.cell 4
   have d0:=r5.cell 0
   have d1:=r5.cell 1
   have d2:=r5.cell 2
   have d3:=r5.cell 3
   have d4:=r5.cell 4
   clear h7 r11 r5
   go_wp2_with fail
   refine (HCS.out.2.1 w12 HB12.out).mono ?_
   rintro e8 w13 ⟨rfl,hb13⟩
   have HB13:=Lib.hid (HB12.out.trans (hb13.mono HB12.out.size))
   clear hb13 a0 a1 a2 a3 a4 d0 d1 d2 d3 d4
   obtain ⟨h7,_⟩:=H11.out.1 w13 HB13.out
   obtain ⟨rs,_,_,_,_,_,_,r7,_⟩:=H8.out w13 h7
   have H7:=Lib.hid h7
   have a0:=r7.cell 0
   have a1:=r7.cell 1
   have a2:=r7.cell 2
   have a3:=r7.cell 3
   have a4:=r7.cell 4
   have d0:=rs.cell 0
   have d1:=rs.cell 1
   have d2:=rs.cell 2
   have d3:=rs.cell 3
   have d4:=rs.cell 4
   clear h7 r7 rs
   go_wp2_with fail
   refine (HCS.out.2.2.1 w13 H7.out).mono ?_
   rintro e9 w14 ⟨rfl,hb14⟩
   have HB14:=Lib.hid (HB13.out.trans (hb14.mono HB13.out.size))
   clear hb14 a0 a1 a2 a3 a4 d0 d1 d2 d3 d4 H7
   obtain ⟨h7,_⟩:=H11.out.1 w14 HB14.out
   obtain ⟨_,rxb,_,_,_,_,_,_,_,r8,_⟩:=H8.out w14 h7
   have H7:=Lib.hid h7
   have a0:=r8.cell 0
   have a1:=r8.cell 1
   have a2:=r8.cell 2
   have d0:=rxb.cell 0
   have d1:=rxb.cell 1
   have d2:=rxb.cell 2
   clear h7 r8 rxb
   go_wp2_with fail
   refine (HCS.out.2.2.2 w14 H7.out).mono ?_
   rintro e10 w15 ⟨rfl,hb15⟩
   have HB15:=Lib.hid (HB14.out.trans (hb15.mono HB14.out.size))
   clear hb15 a0 a1 a2 d0 d1 d2 H7 HB12 HB13 HB14
   go_wp2_with fail
   have hnT:=HEN.out.2.2.tabs
   go_loopw [13] (fun i wr=>∃ j:Nat,j≤NA.tables.length∧i=.int .i64 (j:Nat)∧Below w11.heap.size w11 wr) (fun i _=>NA.tables.length - (intOf i).toNat)
   case atStart=>exact ⟨0,by omega,rfl,HB15.out⟩
   case round =>
    obtain ⟨j,hj,rfl,hbr⟩:=hrel
    obtain ⟨h7,_,r9,e9,_⟩:=H11.out.1 wr hbr
    obtain ⟨_,_,_,_,_,r5,e5,_⟩:=H8.out wr h7
    have a4:=r9.cell 4
    have d4:=r5.cell 4
    have hl9:=r9.lt
    have hl5:=r5.lt
    by_cases hjn:j < NA.tables.length
    ·as_aux_lemma =>
     obtain ⟨wo,rfl⟩:∃ y,y=wr:=⟨_,rfl⟩
     have hmt:=HEN.out.2.2.tab _ (nth_mem hjn)
     obtain ⟨gV,oV,AV,mV,cV,rfl,hl3,z1,hsa,_⟩:=e9.n4.row hjn
     obtain ⟨bV,pV,BV,mB,dV,rfl,hl4,z2,hsb,_⟩:=e5.n4.row hjn
     have hm:mV=(nth NA.tables j).length:=hsa.len.symm
     have hmV:mB=mV:=by rw [hm];exact hsb.len.symm
     subst hmV
     have hmB0:mB≤1048576:=by rw [hm];exact hmt
     have hmB:(mB:Int)≤1048576:=by omega
     have HB:=Lib.hid (And.intro hbr (And.intro a4 (And.intro d4 (And.intro z1 (And.intro z2 (And.intro hsa (And.intro hsb hm)))))))
     have hjI:(j:Int) < (NA.tables.length:Int):=by omega
     clear hsa hsb hm hmt hbr h7 r9 r5 e9 e5
     go_wp2_with fail
     go_loopw [14] (fun i wr=>∃ q:Nat,q≤mB∧i=.int .i64 (q:Nat)∧Below wo.heap.size wo wr) (fun i _=>mB - (intOf i).toNat)
     case atStart=>exact ⟨0,by omega,rfl,Below.refl _ _⟩
     case round =>
      clear a4 d4 z1 z2
      obtain ⟨q,hq,rfl,hbx⟩:=hrel
      have a4:=bc hbx HB.out.2.1 hl9
      have d4:=bc hbx HB.out.2.2.1 hl5
      have z1:=bc hbx HB.out.2.2.2.1 hl3
      have z2:=bc hbx HB.out.2.2.2.2.1 hl4
      have HBX:=Lib.hid hbx
      by_cases hqn:q < mB
      ·as_aux_lemma =>
       have hqI:(q:Int) < (mB:Int):=by omega
       obtain ⟨b5,off5,hd5,rfl,hb5,f0,f1,f2,hraw⟩:=(HB.out.2.2.2.2.2.1.below (Nat.le_refl _) hbx).at hqn
       obtain ⟨b6,off6,hd6,rfl,hb6,m0,m1,m2,hrav⟩:=(HB.out.2.2.2.2.2.2.1.below (Nat.le_refl _) hbx).at hqn
       have hsm:=fun y (hb:Below wr.heap.size wr y)=>same_any hd5 hd6 _ y (hraw.below (Nat.le_refl _) hb) (hrav.below (Nat.le_refl _) hb)
       unfold RH.val at hsm
       have HSA:=Lib.hid hsm
       have hsx:=hbx.size
       have hl9r:g9 < wr.heap.size:=by omega
       have hl5r:g5 < wr.heap.size:=by omega
       have hl3r:gV < wr.heap.size:=by omega
       have hl4r:bV < wr.heap.size:=by omega
       clear hsm hraw hrav hbx
       go_upto_region 16 with fail
       have a40:=a4
       have d40:=d4
       have z10:=z1
       have z20:=z2
       have f00:=f0
       have f10:=f1
       have f20:=f2
       have m00:=m0
       have m10:=m1
       have m20:=m2
       have hbw:Below wr.heap.size wr wr.drew:=below_refl_drewN _ _ 1
       have hszw:=hbw.size
       refine wp_region_held_drew (S:=fun w'=>w'.cell? ⟨g9,4,none⟩=some (.slice (some ⟨gV,oV,none⟩) NA.tables.length p4)∧w'.cell? ⟨g5,4,none⟩=some (.slice (some ⟨bV,pV,none⟩) NA.tables.length k4)∧w'.cell? ⟨gV,oV + j,none⟩=some (.slice (some ⟨b5,off5,none⟩) mB cV)∧w'.cell? ⟨bV,pV + j,none⟩=some (.slice (some ⟨b6,off6,none⟩) mB dV)∧w'.cell? ⟨b5,off5 + q * 3,none⟩=some (.bool hd5.neg)∧w'.cell? ⟨b5,off5 + q * 3 + 1,none⟩=some (.slice hd5.A hd5.n hd5.c)∧w'.cell? ⟨b5,off5 + q * 3 + 2,none⟩=some (.slice hd5.D hd5.k hd5.e)∧w'.cell? ⟨b6,off6 + q * 3,none⟩=some (.bool hd6.neg)∧w'.cell? ⟨b6,off6 + q * 3 + 1,none⟩=some (.slice hd6.A hd6.n hd6.c)∧w'.cell? ⟨b6,off6 + q * 3 + 2,none⟩=some (.slice hd6.D hd6.k hd6.e)) (by kernel_rfl) ?hS1 (fun hHeld=>?rest1)
       case hS1=>(first | exact ⟨a4,d4,z1,z2,f0,f1,f2,m0,m1,m2⟩ | assumption | go_keep)
       refine tk 0 rfl ?_
       try simp only [Act.put,sp]
       refine tk 1 rfl ?_
       try simp only [Act.put,sp]
       refine tk 2 rfl ?_
       try simp only [Act.put,sp]
       refine tk 3 rfl ?_
       try simp only [Act.put,sp]
       refine tk 4 rfl ?_
       try simp only [Act.put,sp]
       refine tk 5 rfl ?_
       try simp only [Act.put,sp]
       refine tk 6 rfl ?_
       try simp only [Act.put,sp]
       refine tk 7 rfl ?_
       try simp only [Act.put,sp]
       refine tk 8 rfl ?_
       try simp only [Act.put,sp]
       refine tk 9 rfl ?_
       try simp only [Act.put,sp]
       refine tk 10 rfl ?_
       try simp only [Act.put,sp]
       refine tk 11 rfl ?_
       try simp only [Act.put,sp]
       refine tk 12 rfl ?_
       try simp only [Act.put,sp]
       refine tk 13 rfl ?_
       try simp only [Act.put,sp]
       refine tk 14 rfl ?_
       try simp only [Act.put,sp]
       refine tk 15 rfl ?_
       try simp only [Act.put,sp]
       refine wpAnyH_ready (rs:=[16]) (by kernel_rfl) (by simp) (consL rfl (fun K hK=>?step18))
       (go_simp;(refine (HSA.out _ hbw).mono ?_);(rintro e1 y2 ⟨rfl,hbs⟩);(have hbw:=hbw.trans (hbs.mono hszw));(have hszw:=hbw.size);(have a4:=bc hbw a40 hl9r);(have d4:=bc hbw d40 hl5r);(have z1:=bc hbw z10 hl3r);(have z2:=bc hbw z20 hl4r);(have f0:=bc hbw f00 hb5);(have f1:=bc hbw f10 hb5);(have f2:=bc hbw f20 hb5);(have m0:=bc hbw m00 hb6);(have m1:=bc hbw m10 hb6);(have m2:=bc hbw m20 hb6))
       refine hK.out _ _ ?hS18 (fun hHeld=>?rest18)
       case hS18=>(first | exact ⟨a4,d4,z1,z2,f0,f1,f2,m0,m1,m2⟩ | assumption | go_keep)
       clear hK K
       try simp only [Act.put,sp]
       refine tk 17 rfl ?_
       try simp only [Act.put,sp]
       refine wpAnyH_done (by kernel_rfl) ?_ _
       go_simp
       go_simp
       (try go_wp2_with fail)
       exact ⟨⟨q + 1,by omega,by go_num,HBX.out.trans (hbw.mono hsx)⟩,by simp [intOf];omega⟩
      ·as_aux_lemma =>
       obtain rfl:mB=q:=by omega
       clear hbx
       go_wp2_with fail
       exact ⟨⟨j + 1,by omega,by go_num,HB.out.1.trans (HBX.out.mono HB.out.1.size)⟩,by simp [intOf];omega⟩
    ·have hjI:¬ (j:Int) < (NA.tables.length:Int):=by omega
     have HBR:=Lib.hid hbr
     have HR9:=Lib.hid (And.intro h7 (r9.below' (Below.refl _ _)))
     clear hbr h7 r9 e9 r5 e5 hl9 hl5
     go_upto_region 18 with fail
     clear a4 d4
     have r9:=HR9.out.2
     have a0:=r9.cell 0
     have a1:=r9.cell 1
     have a2:=r9.cell 2
     have a3:=r9.cell 3
     have a4:=r9.cell 4
     have hown:Calls Tryz.prog 13 #[.agg #[.string NA.name,.slice P1 NA.names.length p1,.slice P2 NA.values.length p2,.slice P3 NA.parents.length p3,.slice P4 NA.tables.length p4]] wr (fun e w'=>e=.returned (.bool true)∧Turn wr w' (fun b=>w7.heap.size≤b∧b < w8.heap.size)):=by
      obtain ⟨h7,fA,_⟩:=H11.out.1 wr HBR.out
      have hsz7:=h7.size
      have h1:=ownnet_any (fun b=>w7.heap.size≤b∧b < w8.heap.size) w7.heap.size Ma (turnB N v row value rx.q) (turnQ N v.toNat row.toNat value.toNat rx.q) wr fA hsz7 (fun k b e=>HFA.out.1.lt e) HFA.out.2.1 (turnB_B HST.out.2.1 v row value rx.q).q turnB_pos (turnB_tot HST.out.2.2.1) (fun i j hi hj=>by
       obtain ⟨_,_,a3,a4,_⟩:=H8.out wr h7
       have:=turn_bounds a3 HST.out.2.1 a4.at HST.out.2.2.2 i j hi hj
       omega)
      rw [box_net HFA.out.2.1,← HEN.out.2.1,← HPA.out.1,← HPA.out.2.1,← HPA.out.2.2.1,← HPA.out.2.2.2.1,← HPA.out.2.2.2.2.1,← HPA.out.2.2.2.2.2.1,← HPA.out.2.2.2.2.2.2.1,← HPA.out.2.2.2.2.2.2.2] at h1
      unfold netC at h1
      exact h1
     have HOW:=Lib.hid hown
     clear hown r9
     go_wp2_with fail
     refine HOW.out.mono ?_
     rintro e11 w17 ⟨rfl,hturn⟩
     have b717:Below w7.heap.size w7 w17:=HR9.out.1.trans (hturn.below HR9.out.1.size fun x hx hs=>by omega)
     obtain ⟨_,_,_,_,fB,rB,_⟩:=H11.out.1 wr HBR.out
     have hg11:=H11.out.2
     have h98:=HP9.out.2.2.2.1
     have fB17:Fam w17 w9.heap.size Mb:=fB.turn hturn fun k b e hs=>by have:=(fB.lt e).1;omega
     have rB17:=rB.turn hturn (fun hs=>by omega)
     have H17:=Lib.hid (And.intro b717 (And.intro fB17 rB17))
     obtain ⟨rs,rxb,_,_,_,_,_,r7,_,r8,_⟩:=H8.out w17 b717
     have s5:=rs.cell 5
     have s6:=rs.cell 6
     have s7:=rs.cell 7
     have n0:=r7.cell 0
     have n1:=r7.cell 1
     have n2:=r7.cell 2
     have n3:=r7.cell 3
     have n4:=r7.cell 4
     have y0:=r8.cell 0
     have y1:=r8.cell 1
     have y2:=r8.cell 2
     clear rs rxb r7 r8 hturn b717 fB rB hg11 h98 fB17 rB17 a0 a1 a2 a3 a4
     go_wp2_with fail
     refine (HTU.out.1 w17 H17.out.1).mono ?_
     rintro e12 w18 ⟨Mc,rfl,hFc,hLc,hb18⟩
     rw [box_net hLc,← HEN.out.1,← HEN.out.2.1]
     unfold netC
     clear s5 s6 s7 n0 n1 n2 n3 n4 y0 y1 y2
     obtain ⟨R1,hP1⟩:∃ x,x=(Mc kN).A:=⟨_,rfl⟩
     obtain ⟨R2,hP2⟩:∃ x,x=(Mc kV).A:=⟨_,rfl⟩
     obtain ⟨R3,hP3⟩:∃ x,x=(Mc kP).A:=⟨_,rfl⟩
     obtain ⟨R4,hP4⟩:∃ x,x=(Mc kT).A:=⟨_,rfl⟩
     obtain ⟨u1,hp1⟩:∃ x,x=(Mc kN).c:=⟨_,rfl⟩
     obtain ⟨u2,hp2⟩:∃ x,x=(Mc kV).c:=⟨_,rfl⟩
     obtain ⟨u3,hp3⟩:∃ x,x=(Mc kP).c:=⟨_,rfl⟩
     obtain ⟨u4,hp4⟩:∃ x,x=(Mc kT).c:=⟨_,rfl⟩
     rw [← hP1,← hP2,← hP3,← hP4,← hp1,← hp2,← hp3,← hp4]
     have HPC:=Lib.hid (And.intro hP1 (And.intro hP2 (And.intro hP3 (And.intro hP4 (And.intro hp1 (And.intro hp2 (And.intro hp3 hp4)))))))
     have HFC:=Lib.hid (And.intro hFc (And.intro hLc hb18))
     clear hP1 hP2 hP3 hP4 hp1 hp2 hp3 hp4 hFc hLc hb18
     go_upto_region 20 with fail
     obtain ⟨w19,hw_w19⟩:∃ y,y=w18.alloc (.cells #[.string NA.name,.slice R1 NA.names.length u1,.slice R2 NA.values.length u2,.slice R3 NA.parents.length u3,.slice R4 NA.tables.length u4] 27):=⟨_,rfl⟩
     obtain ⟨g16,hg_g16⟩:∃ g,g=w18.heap.size:=⟨_,rfl⟩
     rw [← hw_w19,← hg_g16]
     have hn_w19:Below w18.heap.size w18 w19:=by rw [hw_w19];exact (Below.refl _ _).alloc (Nat.le_refl _) _
     have r_g16:RowC w19 g16 27 [.string NA.name,.slice R1 NA.names.length u1,.slice R2 NA.values.length u2,.slice R3 NA.parents.length u3,.slice R4 NA.tables.length u4]:=by rw [hw_w19,hg_g16];exact heap_alloc_new _ _
     clear hw_w19
     have b1719:Below w17.heap.size w17 w19:=HFC.out.2.2.trans (hn_w19.mono HFC.out.2.2.size)
     have st19:∀ y,Below w19.heap.size w19 y→Below w7.heap.size w7 y∧RowC y g11 27 [.string NA.name,.slice Q1 NA.names.length q1,.slice Q2 NA.values.length q2,.slice Q3 NA.parents.length q3,.slice Q4 NA.tables.length q4]∧NetAt y NA Q1 Q2 Q3 Q4 q1 q2 q3 q4∧RowC y g16 27 [.string NA.name,.slice R1 NA.names.length u1,.slice R2 NA.values.length u2,.slice R3 NA.parents.length u3,.slice R4 NA.tables.length u4]∧NetAt y NA R1 R2 R3 R4 u1 u2 u3 u4:=fun y hb=>by
      have h17:=b1719.trans (hb.mono b1719.size)
      have h7:=H17.out.1.trans (h17.mono H17.out.1.size)
      have e1:=HTU.out.2 y y Mb _ h7 (H17.out.2.1.below h17) HFB.out.2.1
      have e2:=HTU.out.2 y y Mc _ h7 ((HFC.out.1.below hn_w19).below hb) HFC.out.2.1
      rw [← HPB.out.1,← HPB.out.2.1,← HPB.out.2.2.1,← HPB.out.2.2.2.1,← HPB.out.2.2.2.2.1,← HPB.out.2.2.2.2.2.1,← HPB.out.2.2.2.2.2.2.1,← HPB.out.2.2.2.2.2.2.2] at e1
      rw [← HPC.out.1,← HPC.out.2.1,← HPC.out.2.2.1,← HPC.out.2.2.2.1,← HPC.out.2.2.2.2.1,← HPC.out.2.2.2.2.2.1,← HPC.out.2.2.2.2.2.2.1,← HPC.out.2.2.2.2.2.2.2] at e2
      exact ⟨h7,H17.out.2.2.below' h17,e1,r_g16.below' hb,e2⟩
     have H19:=Lib.hid st19
     have hs1:∀ y,Below w19.heap.size w19 y→Calls Tryz.prog 9 #[.agg #[.string NA.name,.slice Q1 NA.names.length q1,.slice Q2 NA.values.length q2,.slice Q3 NA.parents.length q3,.slice Q4 NA.tables.length q4],.agg #[.string NA.name,.slice B1 NA.names.length k1,.slice B2 NA.values.length k2,.slice B3 NA.parents.length k3,.slice B4 NA.tables.length k4]] y (fun e w'=>e=.returned (.bool true)∧Below y.heap.size y w'):=fun y hb=>by
      obtain ⟨h7,_,e1,_⟩:=st19 y hb
      obtain ⟨_,_,_,_,_,_,e2,_⟩:=H8.out y h7
      have h1:=samenet_any NA Q1 Q2 Q3 Q4 q1 q2 q3 q4 B1 B2 B3 B4 k1 k2 k3 k4 y e1 e2 HEN.out.2.2
      unfold netC at h1
      exact h1
     have hs2:∀ y,Below w19.heap.size w19 y→Calls Tryz.prog 9 #[.agg #[.string NA.name,.slice R1 NA.names.length u1,.slice R2 NA.values.length u2,.slice R3 NA.parents.length u3,.slice R4 NA.tables.length u4],.agg #[.string NA.name,.slice B1 NA.names.length k1,.slice B2 NA.values.length k2,.slice B3 NA.parents.length k3,.slice B4 NA.tables.length k4]] y (fun e w'=>e=.returned (.bool true)∧Below y.heap.size y w'):=fun y hb=>by
      obtain ⟨h7,_,_,_,e1⟩:=st19 y hb
      obtain ⟨_,_,_,_,_,_,e2,_⟩:=H8.out y h7
      have h1:=samenet_any NA R1 R2 R3 R4 u1 u2 u3 u4 B1 B2 B3 B4 k1 k2 k3 k4 y e1 e2 HEN.out.2.2
      unfold netC at h1
      exact h1
     have HC2:=Lib.hid (And.intro hs1 hs2)
     obtain ⟨h7,rB,_⟩:=st19 w19 (Below.refl _ _)
     obtain ⟨_,_,_,_,_,r5,_⟩:=H8.out w19 h7
     have a0:=rB.cell 0
     have a1:=rB.cell 1
     have a2:=rB.cell 2
     have a3:=rB.cell 3
     have a4:=rB.cell 4
     have d0:=r5.cell 0
     have d1:=r5.cell 1
     have d2:=r5.cell 2
     have d3:=r5.cell 3
     have d4:=r5.cell 4
     clear h7 rB r5 hs1 hs2 st19 b1719 hn_w19 r_g16 hg_g16
     go_wp2_with fail
     refine (HC2.out.1 w19 (Below.refl _ _)).mono ?_
     rintro e13 w20 ⟨rfl,hb20⟩
     have HB20:=Lib.hid hb20
     clear hb20 a0 a1 a2 a3 a4 d0 d1 d2 d3 d4
     obtain ⟨h7,_,_,rC,_⟩:=H19.out w20 HB20.out
     obtain ⟨_,_,_,_,_,r5,_⟩:=H8.out w20 h7
     have a0:=rC.cell 0
     have a1:=rC.cell 1
     have a2:=rC.cell 2
     have a3:=rC.cell 3
     have a4:=rC.cell 4
     have d0:=r5.cell 0
     have d1:=r5.cell 1
     have d2:=r5.cell 2
     have d3:=r5.cell 3
     have d4:=r5.cell 4
     clear h7 rC r5
     go_wp2_with fail
     refine (HC2.out.2 w20 HB20.out).mono ?_
     rintro e14 w21 ⟨rfl,hb21⟩
     have HB21:=Lib.hid (HB20.out.trans (hb21.mono HB20.out.size))
     clear hb21 a0 a1 a2 a3 a4 d0 d1 d2 d3 d4
     obtain ⟨h7,_⟩:=H19.out w21 HB21.out
     obtain ⟨rs,_,_,_,_,_,_,r7,_⟩:=H8.out w21 h7
     have H7:=Lib.hid h7
     have a0:=r7.cell 0
     have a1:=r7.cell 1
     have a2:=r7.cell 2
     have a3:=r7.cell 3
     have a4:=r7.cell 4
     have d0:=rs.cell 0
     have d1:=rs.cell 1
     have d2:=rs.cell 2
     have d3:=rs.cell 3
     have d4:=rs.cell 4
     clear h7 r7 rs
     go_wp2_with fail
     refine (HCS.out.2.2.1 w21 H7.out).mono ?_
     rintro e15 w22 ⟨rfl,hb22⟩
     have HB22:=Lib.hid (H8.out w22 (H7.out.trans (hb22.mono H7.out.size))).2.2.2.2.1
     clear hb22 a0 a1 a2 a3 a4 d0 d1 d2 d3 d4
     go_wp2_with fail
     go_ret
     exact ⟨rfl,HB22.out⟩
end Go.Proofs.YtmncjibcoffmfaaGreat
