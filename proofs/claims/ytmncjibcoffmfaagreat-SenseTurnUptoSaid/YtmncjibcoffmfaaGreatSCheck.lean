/- credenceref29.Check, walked, where no fixes are given. Conditions: the network reads, within Go's bound. -/
import Derived.Test.YtmncjibcoffmfaaGreatJ20
set_option linter.unusedVariables false
set_option linter.unusedSimpArgs false
namespace Go.Proofs.YtmncjibcoffmfaaGreat
open Go.RowKit

set_option maxRecDepth 100000 in
set_option maxHeartbeats 4000000 in
theorem check_place (N:NetV) (A1 A2 A3 A4:Option Addr) (c1 c2 c3 c4:Nat) (v row value:Int) (w:World) (h:NetAt w N A1 A2 A3 A4 c1 c2 c3 c4) (hB:NetB N) :
 Calls Tryz.prog 15 #[.agg (netC N A1 A2 A3 A4 c1 c2 c3 c4).toArray,.int .i64 v,.int .i64 row,.int .i64 value,.slice none 0 0] w fun e w'=>e=.returned (.int .i64 (placeE N v row value))∧Below w.heap.size w w':=by
 have H:=(Held.init w).new 27 (netC N A1 A2 A3 A4 c1 c2 c3 c4)
 unfold netC at H ⊢
 obtain ⟨wq,hwq⟩:∃ wq:World,wq=w.alloc (.cells #[.string N.name,.slice A1 N.names.length c1,.slice A2 N.values.length c2,.slice A3 N.parents.length c3,.slice A4 N.tables.length c4] 27):=⟨_,rfl⟩
 rw [← hwq] at H
 have HX:NetBox w wq N A1 A2 A3 A4 c1 c2 c3 c4:=⟨H.has.1,h.below (Nat.le_refl _) H.bel,H.bel⟩
 have hchk:=check_refN N A1 A2 A3 A4 c1 c2 c3 c4 wq HX.net hB
 unfold netC at hchk
 have hpe:placeE N v row value=if checkN N ≠ 0 then checkN N else if v < 0 ∨ (N.names.length:Int)≤v then 3
  else if nth N.Z v.toNat < 2 ∨ row < 0 ∨ (((nth N.tables v.toNat).length / nth N.Z v.toNat:Nat):Int)≤row ∨ value < 0 ∨ ((nth N.Z v.toNat:Nat):Int)≤value then 3 else 0:=rfl
 obtain ⟨r0,r1,r2,r3,r4⟩:=HX.cells
 have HB:=Lib.hid hB
 have HC:=Lib.hid hchk
 have HX0:=Lib.hid HX
 clear hchk HX H h hB
 obtain ⟨P,hP⟩:∃ P,P=placeE N v row value:=⟨_,rfl⟩
 rw [← hP] at hpe ⊢
 have HP:=Lib.hid hpe
 clear hP hpe
 go_enter Tryz.func15,Tryz.ntmps15
 go_upto_region 1 with fail
 rw [← hwq]
 clear hwq
 go_wp2_with fail
 refine HC.out.mono ?_
 rintro e w1 ⟨rfl,hb1⟩
 have HY:=HX0.out.step hb1
 clear r0 r1 r2 r3 r4 hb1
 obtain ⟨r0,r1,r2,r3,r4⟩:=HY.cells
 have HYY:=Lib.hid HY
 clear HY
 by_cases hc:checkN N=0
 rotate_left
 ·as_aux_lemma =>
  have HE:=Lib.hid (show P=checkN N by rw [HP.out,if_pos hc])
  generalize checkN N=F at *
  have d2:(F == 0)=false:=beq_eq_false_iff_ne.2 hc
  go_wp2_with fail
  go_ret
  exact ⟨by rw [HE.out];rfl,HYY.out.bel⟩
 have hck:=check_ok hc
 rw [hc]
 have hpe:=HP.out
 rw [if_neg (by rw [hc];decide)] at hpe
 have HP1:=Lib.hid hpe
 clear hpe HP
 by_cases hv0:v < 0
 ·as_aux_lemma =>
  have HE:=Lib.hid (show P=3 by rw [HP1.out,if_pos (.inl hv0)])
  have HK:=Lib.hid hck
  clear hck hc
  go_wp2_with fail
  go_ret
  exact ⟨by rw [HE.out];rfl,HYY.out.bel⟩
 by_cases hv1:(N.names.length:Int)≤v
 ·as_aux_lemma =>
  have HE:=Lib.hid (show P=3 by rw [HP1.out,if_pos (.inr hv1)])
  have HK:=Lib.hid hck
  clear hck hc
  go_wp2_with fail
  go_ret
  exact ⟨by rw [HE.out];rfl,HYY.out.bel⟩
 obtain ⟨u,rfl⟩:∃ u:Nat,v=u:=⟨v.toNat,by omega⟩
 have hpe:=HP1.out
 rw [if_neg (by omega),show (u:Int).toNat=u from rfl] at hpe
 have hun:u < N.names.length:=by omega
 obtain ⟨b2,o2,B2,m2,d2,rfl,hb2,g2,hrow2⟩:=HYY.out.net.n2.row (i:=u) (by omega)
 obtain ⟨b4,o4,B4,m4,d4,rfl,hb4,g4,hrow4,_⟩:=HYY.out.net.n4.row (i:=u) (by omega)
 have hzk:nth N.Z u=m2:=by rw [NetV.nth_Z (by omega)];exact hrow2.len
 have hm4:=hrow4.len
 rw [hzk,hm4] at hpe
 have hm2b:=HB.out.z u
 rw [hzk] at hm2b
 have hm4c:=hrow4.big
 have hlen:=rows_len hck.2.2.2.2.2 hun
 rw [hzk,hm4] at hlen
 have hrle:rowsV N u≤1099511627776:=rowsTo_le _ _ _
 have HP2:=Lib.hid hpe
 have HK:=Lib.hid (And.intro hck (And.intro hlen hzk))
 have i1:(u:Int) < (N.values.length:Int):=by have:=hck.1;omega
 have i2:(u:Int) < (N.tables.length:Int):=by have:=hck.2.2.1;omega
 have i3:(u:Int) < (N.names.length:Int):=by omega
 clear hpe hv0 hv1 hc hck hzk hm4 hlen hrow2 hrow4 hun HP1
 by_cases hw2:m2 < 2
 ·as_aux_lemma =>
  have HE:=Lib.hid (show P=3 by rw [HP2.out,if_pos (.inl hw2)])
  have d5:(m2:Int) < 2:=by omega
  go_wp2_with fail
  go_ret
  exact ⟨by rw [HE.out];rfl,HYY.out.bel⟩
 have d5:¬ (m2:Int) < 2:=by omega
 go_upto_region 6 with fail
 by_cases hr0:row < 0
 ·as_aux_lemma =>
  have HE:=Lib.hid (show P=3 by rw [HP2.out,if_pos (.inr (.inl hr0))])
  refine wp_region_held_drew (S:=fun w'=>w'.cell? ⟨w.heap.size,4,none⟩=some (.slice (some ⟨b4,o4,none⟩) N.tables.length c4)∧w'.cell? ⟨b4,o4 + u,none⟩=some (.slice B4 m4 d4)∧w'.cell? ⟨w.heap.size,2,none⟩=some (.slice (some ⟨b2,o2,none⟩) N.values.length c2)∧w'.cell? ⟨b2,o2 + u,none⟩=some (.slice B2 m2 d2)) (by kernel_rfl) ?hS1 (fun hHeld=>?rest1)
  case hS1=>(first | exact ⟨r4,g4,r2,g2⟩ | assumption | go_keep)
  refine tk 0 rfl ?_
  try simp only [Act.put,sp]
  refine tk 1 rfl ?_
  try simp only [Act.put,sp]
  refine tk 2 rfl ?_
  try simp only [Act.put,sp]
  refine sk 3 rfl ?_
  try simp only [Act.put,sp]
  refine sk 4 rfl ?_
  try simp only [Act.put,sp]
  refine sk 5 rfl ?_
  try simp only [Act.put,sp]
  refine sk 6 rfl ?_
  try simp only [Act.put,sp]
  refine sk 7 rfl ?_
  try simp only [Act.put,sp]
  refine sk 8 rfl ?_
  try simp only [Act.put,sp]
  refine sk 9 rfl ?_
  try simp only [Act.put,sp]
  refine sk 10 rfl ?_
  try simp only [Act.put,sp]
  refine sk 11 rfl ?_
  try simp only [Act.put,sp]
  refine sk 12 rfl ?_
  try simp only [Act.put,sp]
  refine sk 13 rfl ?_
  try simp only [Act.put,sp]
  refine sk 14 rfl ?_
  try simp only [Act.put,sp]
  refine sk 15 rfl ?_
  try simp only [Act.put,sp]
  refine sk 16 rfl ?_
  try simp only [Act.put,sp]
  refine sk 17 rfl ?_
  try simp only [Act.put,sp]
  refine tk 18 rfl ?_
  try simp only [Act.put,sp]
  refine tk 19 rfl ?_
  try simp only [Act.put,sp]
  refine sk 20 rfl ?_
  try simp only [Act.put,sp]
  refine sk 21 rfl ?_
  try simp only [Act.put,sp]
  refine tk 22 rfl ?_
  try simp only [Act.put,sp]
  refine tk 23 rfl ?_
  try simp only [Act.put,sp]
  refine sk 24 rfl ?_
  try simp only [Act.put,sp]
  refine sk 25 rfl ?_
  try simp only [Act.put,sp]
  refine sk 26 rfl ?_
  try simp only [Act.put,sp]
  refine sk 27 rfl ?_
  try simp only [Act.put,sp]
  refine sk 28 rfl ?_
  try simp only [Act.put,sp]
  refine sk 29 rfl ?_
  try simp only [Act.put,sp]
  refine sk 30 rfl ?_
  try simp only [Act.put,sp]
  refine sk 31 rfl ?_
  try simp only [Act.put,sp]
  refine tk 32 rfl ?_
  try simp only [Act.put,sp]
  refine wpAnyH_done (by kernel_rfl) ?_ _
  go_simp
  go_simp
  (try go_wp2_with fail)
  go_ret
  exact ⟨by rw [HE.out];rfl,HYY.out.bel.trans (below_refl_drewN _ _ 1)⟩
 obtain ⟨r,rfl⟩:∃ r:Nat,row=r:=⟨row.toNat,by omega⟩
 have e1:(m4:Int) / (m2:Int)=((m4 / m2:Nat):Int):=(Int.natCast_ediv m4 m2).symm
 have e2:(m4:Int).tdiv (m2:Int)=((m4 / m2:Nat):Int):=by rw [Int.tdiv_eq_ediv_of_nonneg (by omega),e1]
 have hdl:m4 / m2≤m4:=Nat.div_le_self _ _
 have hdq:m4 / m2=rowsV N u:=by rw [HK.out.2.1,Nat.mul_div_cancel _ (by omega)]
 have d6:¬ (m2:Int)=0:=by omega
 have hpe:=HP2.out
 have HQ:=Lib.hid hdq
 generalize m4 / m2=y at *
 have HP3:=Lib.hid hpe
 have d9:¬ m2=0:=by omega
 have hwy:IntKind.i64.wrap (y:Int)=(y:Int):=by rw [IntKind.wrap_i64];omega
 clear hpe hdq HP2 hr0
 by_cases hr1:(y:Int)≤(r:Int)
 ·as_aux_lemma =>
  have HE:=Lib.hid (show P=3 by rw [HP3.out,if_pos (.inr (.inr (.inl hr1)))])
  have hr2:y≤r:=by omega
  refine wp_region_held_drew (S:=fun w'=>w'.cell? ⟨w.heap.size,4,none⟩=some (.slice (some ⟨b4,o4,none⟩) N.tables.length c4)∧w'.cell? ⟨b4,o4 + u,none⟩=some (.slice B4 m4 d4)∧w'.cell? ⟨w.heap.size,2,none⟩=some (.slice (some ⟨b2,o2,none⟩) N.values.length c2)∧w'.cell? ⟨b2,o2 + u,none⟩=some (.slice B2 m2 d2)) (by kernel_rfl) ?hS35 (fun hHeld=>?rest35)
  case hS35=>(first | exact ⟨r4,g4,r2,g2⟩ | assumption | go_keep)
  refine tk 0 rfl ?_
  try simp only [Act.put,sp]
  refine tk 1 rfl ?_
  try simp only [Act.put,sp]
  refine tk 2 rfl ?_
  try simp only [Act.put,sp]
  refine tk 3 rfl ?_
  try simp only [Act.put,sp]
  refine tk 4 rfl ?_
  try simp only [Act.put,sp]
  refine tk 5 rfl ?_
  try simp only [Act.put,sp]
  refine tk 6 rfl ?_
  try simp only [Act.put,sp]
  refine tk 7 rfl ?_
  try simp only [Act.put,sp]
  refine tk 8 rfl ?_
  try simp only [Act.put,sp]
  refine tk 9 rfl ?_
  try simp only [Act.put,sp]
  refine tk 10 rfl ?_
  try simp only [Act.put,sp]
  refine tk 11 rfl ?_
  try simp only [Act.put,sp]
  refine tk 12 rfl ?_
  try simp only [Act.put,sp]
  refine tk 13 rfl ?_
  try simp only [Act.put,sp]
  refine tk 14 rfl ?_
  try simp only [Act.put,sp]
  refine tk 15 rfl ?_
  try simp only [Act.put,sp]
  refine tk 16 rfl ?_
  try simp only [Act.put,sp]
  refine tk 17 rfl ?_
  try simp only [Act.put,sp]
  refine tk 18 rfl ?_
  try simp only [Act.put,sp]
  refine tk 19 rfl ?_
  try simp only [Act.put,sp]
  refine sk 20 rfl ?_
  try simp only [Act.put,sp]
  refine sk 21 rfl ?_
  try simp only [Act.put,sp]
  refine tk 22 rfl ?_
  try simp only [Act.put,sp]
  refine tk 23 rfl ?_
  try simp only [Act.put,sp]
  refine sk 24 rfl ?_
  try simp only [Act.put,sp]
  refine sk 25 rfl ?_
  try simp only [Act.put,sp]
  refine sk 26 rfl ?_
  try simp only [Act.put,sp]
  refine sk 27 rfl ?_
  try simp only [Act.put,sp]
  refine sk 28 rfl ?_
  try simp only [Act.put,sp]
  refine sk 29 rfl ?_
  try simp only [Act.put,sp]
  refine sk 30 rfl ?_
  try simp only [Act.put,sp]
  refine sk 31 rfl ?_
  try simp only [Act.put,sp]
  refine tk 32 rfl ?_
  try simp only [Act.put,sp]
  refine wpAnyH_done (by kernel_rfl) ?_ _
  go_simp
  go_simp
  (try go_wp2_with fail)
  go_ret
  exact ⟨by rw [HE.out];rfl,HYY.out.bel.trans (below_refl_drewN _ _ 1)⟩
 have d7:decide ((y:Int)≤(r:Int))=false:=decide_eq_false hr1
 have d8:decide (y≤r)=false:=decide_eq_false (by omega)
 have hry:r < y:=by omega
 have HRY:=Lib.hid hry
 clear hr1 hry
 by_cases hx0:value < 0
 ·as_aux_lemma =>
  have HE:=Lib.hid (show P=3 by rw [HP3.out,if_pos (.inr (.inr (.inr (.inl hx0))))])
  refine wp_region_held_drew (S:=fun w'=>w'.cell? ⟨w.heap.size,4,none⟩=some (.slice (some ⟨b4,o4,none⟩) N.tables.length c4)∧w'.cell? ⟨b4,o4 + u,none⟩=some (.slice B4 m4 d4)∧w'.cell? ⟨w.heap.size,2,none⟩=some (.slice (some ⟨b2,o2,none⟩) N.values.length c2)∧w'.cell? ⟨b2,o2 + u,none⟩=some (.slice B2 m2 d2)) (by kernel_rfl) ?hS69 (fun hHeld=>?rest69)
  case hS69=>(first | exact ⟨r4,g4,r2,g2⟩ | assumption | go_keep)
  refine tk 0 rfl ?_
  try simp only [Act.put,sp]
  refine tk 1 rfl ?_
  try simp only [Act.put,sp]
  refine tk 2 rfl ?_
  try simp only [Act.put,sp]
  refine tk 3 rfl ?_
  try simp only [Act.put,sp]
  refine tk 4 rfl ?_
  try simp only [Act.put,sp]
  refine tk 5 rfl ?_
  try simp only [Act.put,sp]
  refine tk 6 rfl ?_
  try simp only [Act.put,sp]
  refine tk 7 rfl ?_
  try simp only [Act.put,sp]
  refine tk 8 rfl ?_
  try simp only [Act.put,sp]
  refine tk 9 rfl ?_
  try simp only [Act.put,sp]
  refine tk 10 rfl ?_
  try simp only [Act.put,sp]
  refine tk 11 rfl ?_
  try simp only [Act.put,sp]
  refine tk 12 rfl ?_
  try simp only [Act.put,sp]
  refine tk 13 rfl ?_
  try simp only [Act.put,sp]
  refine tk 14 rfl ?_
  try simp only [Act.put,sp]
  refine tk 15 rfl ?_
  try simp only [Act.put,sp]
  refine tk 16 rfl ?_
  try simp only [Act.put,sp]
  refine tk 17 rfl ?_
  try simp only [Act.put,sp]
  refine tk 18 rfl ?_
  try simp only [Act.put,sp]
  refine tk 19 rfl ?_
  try simp only [Act.put,sp]
  refine tk 20 rfl ?_
  try simp only [Act.put,sp]
  refine tk 21 rfl ?_
  try simp only [Act.put,sp]
  refine tk 22 rfl ?_
  try simp only [Act.put,sp]
  refine tk 23 rfl ?_
  try simp only [Act.put,sp]
  refine sk 24 rfl ?_
  try simp only [Act.put,sp]
  refine sk 25 rfl ?_
  try simp only [Act.put,sp]
  refine sk 26 rfl ?_
  try simp only [Act.put,sp]
  refine sk 27 rfl ?_
  try simp only [Act.put,sp]
  refine sk 28 rfl ?_
  try simp only [Act.put,sp]
  refine sk 29 rfl ?_
  try simp only [Act.put,sp]
  refine sk 30 rfl ?_
  try simp only [Act.put,sp]
  refine sk 31 rfl ?_
  try simp only [Act.put,sp]
  refine tk 32 rfl ?_
  try simp only [Act.put,sp]
  refine wpAnyH_done (by kernel_rfl) ?_ _
  go_simp
  go_simp
  (try go_wp2_with fail)
  go_ret
  exact ⟨by rw [HE.out];rfl,HYY.out.bel.trans (below_refl_drewN _ _ 1)⟩
 obtain ⟨x,rfl⟩:∃ r:Nat,value=r:=⟨value.toNat,by omega⟩
 by_cases hx1:(m2:Int)≤(x:Int)
 ·as_aux_lemma =>
  have HE:=Lib.hid (show P=3 by rw [HP3.out,if_pos (.inr (.inr (.inr (.inr hx1))))])
  have hx2:m2≤x:=by omega
  refine wp_region_held_drew (S:=fun w'=>w'.cell? ⟨w.heap.size,4,none⟩=some (.slice (some ⟨b4,o4,none⟩) N.tables.length c4)∧w'.cell? ⟨b4,o4 + u,none⟩=some (.slice B4 m4 d4)∧w'.cell? ⟨w.heap.size,2,none⟩=some (.slice (some ⟨b2,o2,none⟩) N.values.length c2)∧w'.cell? ⟨b2,o2 + u,none⟩=some (.slice B2 m2 d2)) (by kernel_rfl) ?hS103 (fun hHeld=>?rest103)
  case hS103=>(first | exact ⟨r4,g4,r2,g2⟩ | assumption | go_keep)
  refine tk 0 rfl ?_
  try simp only [Act.put,sp]
  refine tk 1 rfl ?_
  try simp only [Act.put,sp]
  refine tk 2 rfl ?_
  try simp only [Act.put,sp]
  refine tk 3 rfl ?_
  try simp only [Act.put,sp]
  refine tk 4 rfl ?_
  try simp only [Act.put,sp]
  refine tk 5 rfl ?_
  try simp only [Act.put,sp]
  refine tk 6 rfl ?_
  try simp only [Act.put,sp]
  refine tk 7 rfl ?_
  try simp only [Act.put,sp]
  refine tk 8 rfl ?_
  try simp only [Act.put,sp]
  refine tk 9 rfl ?_
  try simp only [Act.put,sp]
  refine tk 10 rfl ?_
  try simp only [Act.put,sp]
  refine tk 11 rfl ?_
  try simp only [Act.put,sp]
  refine tk 12 rfl ?_
  try simp only [Act.put,sp]
  refine tk 13 rfl ?_
  try simp only [Act.put,sp]
  refine tk 14 rfl ?_
  try simp only [Act.put,sp]
  refine tk 15 rfl ?_
  try simp only [Act.put,sp]
  refine tk 16 rfl ?_
  try simp only [Act.put,sp]
  refine tk 17 rfl ?_
  try simp only [Act.put,sp]
  refine tk 18 rfl ?_
  try simp only [Act.put,sp]
  refine tk 19 rfl ?_
  try simp only [Act.put,sp]
  refine tk 20 rfl ?_
  try simp only [Act.put,sp]
  refine tk 21 rfl ?_
  try simp only [Act.put,sp]
  refine tk 22 rfl ?_
  try simp only [Act.put,sp]
  refine tk 23 rfl ?_
  try simp only [Act.put,sp]
  refine tk 24 rfl ?_
  try simp only [Act.put,sp]
  refine tk 25 rfl ?_
  try simp only [Act.put,sp]
  refine tk 26 rfl ?_
  try simp only [Act.put,sp]
  refine tk 27 rfl ?_
  try simp only [Act.put,sp]
  refine tk 28 rfl ?_
  try simp only [Act.put,sp]
  refine tk 29 rfl ?_
  try simp only [Act.put,sp]
  refine tk 30 rfl ?_
  try simp only [Act.put,sp]
  refine tk 31 rfl ?_
  try simp only [Act.put,sp]
  refine tk 32 rfl ?_
  try simp only [Act.put,sp]
  refine wpAnyH_done (by kernel_rfl) ?_ _
  go_simp
  go_simp
  (try go_wp2_with fail)
  go_ret
  exact ⟨by rw [HE.out];rfl,HYY.out.bel.trans (below_refl_drewN _ _ 1)⟩
 have HE:=Lib.hid (show P=0 by rw [HP3.out,if_neg (by have:=HRY.out;omega)])
 have hx2:¬ m2≤x:=by omega
 refine wp_region_held_drew (S:=fun w'=>w'.cell? ⟨w.heap.size,4,none⟩=some (.slice (some ⟨b4,o4,none⟩) N.tables.length c4)∧w'.cell? ⟨b4,o4 + u,none⟩=some (.slice B4 m4 d4)∧w'.cell? ⟨w.heap.size,2,none⟩=some (.slice (some ⟨b2,o2,none⟩) N.values.length c2)∧w'.cell? ⟨b2,o2 + u,none⟩=some (.slice B2 m2 d2)) (by kernel_rfl) ?hS137 (fun hHeld=>?rest137)
 case hS137=>(first | exact ⟨r4,g4,r2,g2⟩ | assumption | go_keep)
 refine tk 0 rfl ?_
 try simp only [Act.put,sp]
 refine tk 1 rfl ?_
 try simp only [Act.put,sp]
 refine tk 2 rfl ?_
 try simp only [Act.put,sp]
 refine tk 3 rfl ?_
 try simp only [Act.put,sp]
 refine tk 4 rfl ?_
 try simp only [Act.put,sp]
 refine tk 5 rfl ?_
 try simp only [Act.put,sp]
 refine tk 6 rfl ?_
 try simp only [Act.put,sp]
 refine tk 7 rfl ?_
 try simp only [Act.put,sp]
 refine tk 8 rfl ?_
 try simp only [Act.put,sp]
 refine tk 9 rfl ?_
 try simp only [Act.put,sp]
 refine tk 10 rfl ?_
 try simp only [Act.put,sp]
 refine tk 11 rfl ?_
 try simp only [Act.put,sp]
 refine tk 12 rfl ?_
 try simp only [Act.put,sp]
 refine tk 13 rfl ?_
 try simp only [Act.put,sp]
 refine tk 14 rfl ?_
 try simp only [Act.put,sp]
 refine tk 15 rfl ?_
 try simp only [Act.put,sp]
 refine tk 16 rfl ?_
 try simp only [Act.put,sp]
 refine tk 17 rfl ?_
 try simp only [Act.put,sp]
 refine tk 18 rfl ?_
 try simp only [Act.put,sp]
 refine tk 19 rfl ?_
 try simp only [Act.put,sp]
 refine tk 20 rfl ?_
 try simp only [Act.put,sp]
 refine tk 21 rfl ?_
 try simp only [Act.put,sp]
 refine tk 22 rfl ?_
 try simp only [Act.put,sp]
 refine tk 23 rfl ?_
 try simp only [Act.put,sp]
 refine tk 24 rfl ?_
 try simp only [Act.put,sp]
 refine tk 25 rfl ?_
 try simp only [Act.put,sp]
 refine tk 26 rfl ?_
 try simp only [Act.put,sp]
 refine tk 27 rfl ?_
 try simp only [Act.put,sp]
 refine tk 28 rfl ?_
 try simp only [Act.put,sp]
 refine tk 29 rfl ?_
 try simp only [Act.put,sp]
 refine tk 30 rfl ?_
 try simp only [Act.put,sp]
 refine tk 31 rfl ?_
 try simp only [Act.put,sp]
 refine tk 32 rfl ?_
 try simp only [Act.put,sp]
 refine wpAnyH_done (by kernel_rfl) ?_ _
 go_simp
 go_simp
 (try go_wp2_with fail)
 go_loopw [12] (fun i wr=>i=.int .i64 0∧Below w.heap.size w wr) (fun _ _=>0)
 case atStart=>exact ⟨rfl,HYY.out.bel.trans (below_refl_drewN _ _ 1)⟩
 case round =>
  obtain ⟨rfl,hbr⟩:=hrel
  go_wp2_with fail
  go_loopw [14] (fun i wr=>i=.int .i64 0∧Below w.heap.size w wr) (fun _ _=>0)
  case atStart=>exact ⟨rfl,hbr⟩
  case round =>
   obtain ⟨rfl,hbr⟩:=hrel
   go_wp2_with fail
   go_ret
   exact ⟨by rw [HE.out];rfl,hbr⟩
end Go.Proofs.YtmncjibcoffmfaaGreat
