/- credenceref29.Turn, walked. Conditions: the network reads, within Go's bound. Printed by wip/gen/srturn.py. -/
import Derived.Test.YtmncjibcoffmfaaGreatSWith
set_option linter.unusedVariables false
set_option linter.unusedSimpArgs false
namespace Go.Proofs.YtmncjibcoffmfaaGreat
open Go.RowKit

def RTurnPost (N:NetV) (v row value:Int) (x:Rat) (w:World) (e:Ending) (w':World):Prop:=
 ∃ B1 B2 B3 B4 d1 d2 d3 d4,e=.returned (.tuple #[.agg (netC (turnA N v row value x) B1 B2 B3 B4 d1 d2 d3 d4).toArray,.int .i64 (turnE N v row value x)])∧NetAt w' (turnA N v row value x) B1 B2 B3 B4 d1 d2 d3 d4∧Below w.heap.size w w'
theorem empty_at (w:World):NetAt w emptyN none none none none 0 0 0 0:=
 ⟨Sl.nil _ _ _,⟨⟨[],Sl.nil _ _ _,fun i hi=>absurd hi (Nat.not_lt_zero _)⟩,rfl⟩,⟨⟨[],Sl.nil _ _ _,fun i hi=>absurd hi (Nat.not_lt_zero _)⟩,rfl⟩,⟨⟨[],Sl.nil _ _ _,fun i hi=>absurd hi (Nat.not_lt_zero _)⟩,rfl⟩,Nat.le_refl _,Nat.le_refl _,Nat.le_refl _,Nat.le_refl _⟩
theorem rturn_wrong {N:NetV} {v row value:Int} {x:Rat} {w w':World} {E:Int} (hE:turnE N v row value x=E) (h0:E ≠ 0) (hb:Below w.heap.size w w') :
 RTurnPost N v row value x w (.returned (.tuple #[.agg #[.string ⟨#[]⟩,.slice none 0 0,.slice none 0 0,.slice none 0 0,.slice none 0 0],.int .i64 E])) w':=by
 subst hE
 have e:turnA N v row value x=emptyN:=if_pos h0
 unfold RTurnPost
 rw [e]
 exact ⟨none,none,none,none,0,0,0,0,rfl,empty_at _,hb⟩
theorem rturn_right {N:NetV} {v row value:Nat} {x:Rat} {w w':World} {B1 B2 B3 B4:Option Addr} {d1 d2 d3 d4:Nat} (hE:turnE N v row value x=0) (h:NetAt w' (turnN N v row value x) B1 B2 B3 B4 d1 d2 d3 d4) (hb:Below w.heap.size w w') :
 RTurnPost N v row value x w (.returned (.tuple #[.agg (netC (turnN N v row value x) B1 B2 B3 B4 d1 d2 d3 d4).toArray,.int .i64 0])) w':=by
 have e:turnA N v row value x=turnN N v row value x:=if_neg (by rw [hE];decide)
 unfold RTurnPost
 rw [e,hE]
 exact ⟨_,_,_,_,_,_,_,_,rfl,h,hb⟩
set_option maxRecDepth 100000 in
set_option maxHeartbeats 4000000 in
theorem rturn_any (N:NetV) (A1 A2 A3 A4:Option Addr) (c1 c2 c3 c4:Nat) (v row value:Int) (u:Value) (x:Rat) (KX:Nat) (w:World) (h:NetAt w N A1 A2 A3 A4 c1 c2 c3 c4) (hB:NetB N) (hu:RatAt w u x KX) (hK:KX≤100000000) :
 Calls Tryz.prog 5 #[.agg (netC N A1 A2 A3 A4 c1 c2 c3 c4).toArray,.int .i64 v,.int .i64 row,.int .i64 value,u] w (RTurnPost N v row value x w):=by
 obtain ⟨s,A,n,c,xs,D,k',e,ds,rfl,hx⟩:=hu.ex
 clear hx
 have H1:=(Held.and (Q:=fun w=>RatAt w (.agg #[.bool s,.slice A n c,.slice D k' e]) x KX) (Held.and (Q:=fun w=>NetAt w N A1 A2 A3 A4 c1 c2 c3 c4) (Held.init w) h) hu).new 27 (netC N A1 A2 A3 A4 c1 c2 c3 c4)
 have H2:=H1.new 36 [.bool s,.slice A n c,.slice D k' e]
 have H3:=H2.new 27 [.string ⟨#[]⟩,.slice none 0 0,.slice none 0 0,.slice none 0 0,.slice none 0 0]
 rw [show (w.alloc (.cells (netC N A1 A2 A3 A4 c1 c2 c3 c4).toArray 27)).heap.size=w.heap.size + 1 from by simp] at H2 H3
 rw [show ((w.alloc (.cells (netC N A1 A2 A3 A4 c1 c2 c3 c4).toArray 27)).alloc (.cells [.bool s,.slice A n c,.slice D k' e].toArray 36)).heap.size=w.heap.size + 1 + 1 from by simp] at H3
 unfold netC at H3 ⊢
 have HIN:=Lib.hid (And.intro h hu)
 clear H1 H2 h hu
 obtain ⟨wq,hwq⟩:∃ wq:World,wq=((w.alloc (.cells #[.string N.name,.slice A1 N.names.length c1,.slice A2 N.values.length c2,.slice A3 N.parents.length c3,.slice A4 N.tables.length c4] 27)).alloc (.cells #[.bool s,.slice A n c,.slice D k' e] 36)).alloc (.cells #[.string ⟨#[]⟩,.slice none 0 0,.slice none 0 0,.slice none 0 0,.slice none 0 0] 27):=⟨_,rfl⟩
 rw [← hwq] at H3
 have HB:=Lib.hid hB
 have hfind:=check_place N A1 A2 A3 A4 c1 c2 c3 c4 v row value wq (bg H3) hB
 unfold netC at hfind
 have HF:=Lib.hid hfind
 obtain ⟨P,hP⟩:∃ P,P=placeE N v row value:=⟨_,rfl⟩
 have hTE:turnE N v row value x=if P ≠ 0 then P else if outQ x then 45 else 0:=by rw [hP];rfl
 have HTE:=Lib.hid hTE
 have HP:=Lib.hid hP
 clear hfind hB hTE hP
 have rn:RowC wq w.heap.size 27 [.string N.name,.slice A1 N.names.length c1,.slice A2 N.values.length c2,.slice A3 N.parents.length c3,.slice A4 N.tables.length c4]:=(bg H3)
 have r0:=rn.cell 0
 have r1:=rn.cell 1
 have r2:=rn.cell 2
 have r3:=rn.cell 3
 have r4:=rn.cell 4
 go_enter Tryz.func5,Tryz.ntmps5
 go_upto_region 1 with fail
 rw [← hwq]
 clear hwq
 go_wp2_with fail
 refine HF.out.mono ?_
 rintro e1 w2 ⟨rfl,hb1⟩
 have HG:=H3.step hb1
 rw [← HP.out]
 clear H3 hb1 rn r0 r1 r2 r3 r4
 go_upto_region 2 with fail
 have hR:RowC w2 (w.heap.size + 1 + 1) 27 [.string ⟨#[]⟩,.slice none 0 0,.slice none 0 0,.slice none 0 0,.slice none 0 0]:=(bg HG)
 by_cases hP0:P=0
 case neg =>
  have HE:=Lib.hid (show turnE N v row value x=P by rw [HTE.out,if_pos hP0])
  have HN:=Lib.hid hP0
  have HRR:=Lib.hid (And.intro hR HG.bel)
  clear HG
  go_wp2_with (first | refine wpL_atBuild rfl ?_;refine wpList_plain rfl fun K7 hK7=>?_;go_simp;refine hK7 _ _ ?_;clear hK7 K7;refine wpList_plain rfl fun K7 hK7=>?_;go_simp;refine hK7 _ _ ?_;clear hK7 K7;go_loud (refine wpL_store_row rfl _ _ _ rfl (w.heap.size + 1 + 1) 0 zeroC rfl rfl hR (by decide) (by kernel_rfl) (by simp [zeroC,Value.oneCell']) ?_) | fail)
  obtain ⟨w7,hw7⟩:∃ w7:World,w7=w2.setCells (w.heap.size + 1 + 1) 0 zeroC:=⟨_,rfl⟩
  rw [← hw7]
  obtain ⟨z0,z1,z2,z3,z4,hbz⟩:=zero_box HRR.out.1 HRR.out.2 (by omega) hw7
  go_wp2_with fail
  exact bodyPost_ret (v:=.tuple #[.agg #[.string ⟨#[]⟩,.slice none 0 0,.slice none 0 0,.slice none 0 0,.slice none 0 0],.int .i64 P]) (by simp [results,Tryz.results5,go_sem,z0,z1,z2,z3,z4]) rfl (rturn_wrong HE.out HN.out hbz)
 case pos =>
  subst hP0
  have hpl:=place_ok HP.out.symm
  obtain ⟨v,row,value,rfl,rfl,rfl,hpo⟩:=hpl
  have hO:outQ x=(decide (sgnQ x < 0) || decide (0 < cmpQ x 1)):=rfl
  generalize hsg:sgnQ x=sg at *
  generalize hcm:cmpQ x 1=cm at *
  have HSG:=Lib.hid hsg
  have HCM:=Lib.hid hcm
  have HO:=Lib.hid hO
  have HPO:=Lib.hid hpo
  clear hsg hcm hO hpo HP
  have ra:RowC _ (w.heap.size + 1) 36 [.bool s,.slice A n c,.slice D k' e]:=(bg HG)
  go_upto_region 4 with fail
  have HG:=HG.drew
  clear hR
  by_cases hs:sg < 0
  case pos=>as_aux_lemma =>
   have d1:decide (sg < 0)=true:=decide_eq_true hs
   refine wp_region_held_drew (S:=fun w'=>w'.cell? ⟨w.heap.size + 1,0,none⟩=some (.bool s)∧w'.cell? ⟨w.heap.size + 1,1,none⟩=some (.slice A n c)∧w'.cell? ⟨w.heap.size + 1,2,none⟩=some (.slice D k' e)) (by kernel_rfl) ?hS1 (fun hHeld=>?rest1)
   case hS1=>(first | exact ⟨ra.cell 0,ra.cell 1,ra.cell 2⟩ | assumption | go_keep)
   refine tk 0 rfl ?_
   try simp only [Act.put,sp]
   refine wpAnyH_ready (rs:=[1]) (by kernel_rfl) (by simp) (consL rfl (fun K hK=>?step3))
   (go_simp;(refine (rfrac_sign _ x KX _ (bg HG) (by omega)).mono ?_);(rintro e1 w2 ⟨rfl,hb1⟩);(rw [HSG.out]);(have HG:=HG.step hb1);(clear hb1);(have ra:RowC _ (w.heap.size + 1) 36 [.bool s,.slice A n c,.slice D k' e]:=(bg HG)))
   refine hK.out _ _ ?hS3 (fun hHeld=>?rest3)
   case hS3=>(first | exact ⟨ra.cell 0,ra.cell 1,ra.cell 2⟩ | assumption | go_keep)
   clear hK K
   try simp only [Act.put,sp]
   refine tk 2 rfl ?_
   try simp only [Act.put,sp]
   refine tk 3 rfl ?_
   try simp only [Act.put,sp]
   refine sk 4 rfl ?_
   try simp only [Act.put,sp]
   refine sk 5 rfl ?_
   try simp only [Act.put,sp]
   refine sk 6 rfl ?_
   try simp only [Act.put,sp]
   refine sk 7 rfl ?_
   try simp only [Act.put,sp]
   refine tk 8 rfl ?_
   try simp only [Act.put,sp]
   refine wpAnyH_done (by kernel_rfl) ?_ _
   go_simp
   go_simp
   have hR:RowC w2 (w.heap.size + 1 + 1) 27 [.string ⟨#[]⟩,.slice none 0 0,.slice none 0 0,.slice none 0 0,.slice none 0 0]:=(bg HG)
   have HE:=Lib.hid (show turnE N v row value x=45 by rw [HTE.out];simp [HO.out,d1])
   have HRR:=Lib.hid (And.intro hR HG.bel)
   have hR:RowC w2 (w.heap.size + 1 + 1) 27 zeroC:=hR
   clear HG
   go_wp2_with (first | refine wpL_atBuild rfl ?_;refine wpList_plain rfl fun K7 hK7=>?_;go_simp;refine hK7 _ _ ?_;clear hK7 K7;go_loud (refine wpL_store_row rfl _ _ _ rfl (w.heap.size + 1 + 1) 0 zeroC rfl rfl hR (by decide) (by kernel_rfl) (by simp [zeroC,Value.oneCell']) ?_) | fail)
   obtain ⟨w7,hw7⟩:∃ w7:World,w7=w2.setCells (w.heap.size + 1 + 1) 0 zeroC:=⟨_,rfl⟩
   rw [← hw7]
   obtain ⟨z0,z1,z2,z3,z4,hbz⟩:=zero_box HRR.out.1 HRR.out.2 (by omega) hw7
   go_wp2_with fail
   exact bodyPost_ret (v:=.tuple #[.agg #[.string ⟨#[]⟩,.slice none 0 0,.slice none 0 0,.slice none 0 0,.slice none 0 0],.int .i64 45]) (by simp [results,Tryz.results5,go_sem,z0,z1,z2,z3,z4]) rfl (rturn_wrong HE.out (by decide) hbz)
  case neg =>
   have d1:decide (sg < 0)=false:=decide_eq_false hs
   refine wp_region_held_drew (S:=fun w'=>w'.cell? ⟨w.heap.size + 1,0,none⟩=some (.bool s)∧w'.cell? ⟨w.heap.size + 1,1,none⟩=some (.slice A n c)∧w'.cell? ⟨w.heap.size + 1,2,none⟩=some (.slice D k' e)) (by kernel_rfl) ?hS11 (fun hHeld=>?rest11)
   case hS11=>(first | exact ⟨ra.cell 0,ra.cell 1,ra.cell 2⟩ | assumption | go_keep)
   refine tk 0 rfl ?_
   try simp only [Act.put,sp]
   refine wpAnyH_ready (rs:=[1]) (by kernel_rfl) (by simp) (consL rfl (fun K hK=>?step13))
   (go_simp;(refine (rfrac_sign _ x KX _ (bg HG) (by omega)).mono ?_);(rintro e1 w2 ⟨rfl,hb1⟩);(rw [HSG.out]);(have HG:=HG.step hb1);(clear hb1);(have ra:RowC _ (w.heap.size + 1) 36 [.bool s,.slice A n c,.slice D k' e]:=(bg HG)))
   refine hK.out _ _ ?hS13 (fun hHeld=>?rest13)
   case hS13=>(first | exact ⟨ra.cell 0,ra.cell 1,ra.cell 2⟩ | assumption | go_keep)
   clear hK K
   try simp only [Act.put,sp]
   refine tk 2 rfl ?_
   try simp only [Act.put,sp]
   refine tk 3 rfl ?_
   try simp only [Act.put,sp]
   refine tk 4 rfl ?_
   try simp only [Act.put,sp]
   refine wpAnyH_ready (rs:=[5]) (by kernel_rfl) (by simp) (consL rfl (fun K hK=>?step17))
   (go_simp;(refine (rfrac_small 1 1 _ (by decide) (by decide) (by decide)).mono ?_);(intro e1 w3 hp);(rw [show mkRat ((1:Nat):Int) 1=1 from by decide] at hp);(obtain ⟨v1,rfl,hv1,hb1⟩:=hp.at (by rw [ratLen_one];decide));(have HG:=Held.and (Q:=fun w=>RatAt w v1 1 (ratLen 1)) (HG.step hb1) hv1);(clear hb1 hv1 hp);(have ra:RowC _ (w.heap.size + 1) 36 [.bool s,.slice A n c,.slice D k' e]:=(bg HG)))
   refine hK.out _ _ ?hS17 (fun hHeld=>?rest17)
   case hS17=>(first | exact ⟨ra.cell 0,ra.cell 1,ra.cell 2⟩ | assumption | go_keep)
   clear hK K
   try simp only [Act.put,sp]
   refine wpAnyH_ready (rs:=[6]) (by kernel_rfl) (by simp) (consL rfl (fun K hK=>?step18))
   (go_simp;(refine (rfrac_cmp _ _ x 1 KX (ratLen 1) _ (bg HG) (bg HG) (by rw [ratLen_one];omega)).mono ?_);(rintro e1 w4 ⟨rfl,hb1⟩);(rw [HCM.out]);(have HG:=HG.step hb1);(clear hb1);(have ra:RowC _ (w.heap.size + 1) 36 [.bool s,.slice A n c,.slice D k' e]:=(bg HG)))
   refine hK.out _ _ ?hS18 (fun hHeld=>?rest18)
   case hS18=>(first | exact ⟨ra.cell 0,ra.cell 1,ra.cell 2⟩ | assumption | go_keep)
   clear hK K
   try simp only [Act.put,sp]
   refine tk 7 rfl ?_
   try simp only [Act.put,sp]
   refine tk 8 rfl ?_
   try simp only [Act.put,sp]
   refine wpAnyH_done (by kernel_rfl) ?_ _
   go_simp
   go_simp
   by_cases hc:0 < cm
   case pos=>as_aux_lemma =>
    have d2:decide (0 < cm)=true:=decide_eq_true hc
    have hR:RowC w4 (w.heap.size + 1 + 1) 27 [.string ⟨#[]⟩,.slice none 0 0,.slice none 0 0,.slice none 0 0,.slice none 0 0]:=(bg HG)
    have HE:=Lib.hid (show turnE N v row value x=45 by rw [HTE.out];simp [HO.out,d2])
    have HRR:=Lib.hid (And.intro hR HG.bel)
    have hR:RowC w4 (w.heap.size + 1 + 1) 27 zeroC:=hR
    clear HG
    go_wp2_with (first | refine wpL_atBuild rfl ?_;refine wpList_plain rfl fun K7 hK7=>?_;go_simp;refine hK7 _ _ ?_;clear hK7 K7;go_loud (refine wpL_store_row rfl _ _ _ rfl (w.heap.size + 1 + 1) 0 zeroC rfl rfl hR (by decide) (by kernel_rfl) (by simp [zeroC,Value.oneCell']) ?_) | fail)
    obtain ⟨w7,hw7⟩:∃ w7:World,w7=w4.setCells (w.heap.size + 1 + 1) 0 zeroC:=⟨_,rfl⟩
    rw [← hw7]
    obtain ⟨z0,z1,z2,z3,z4,hbz⟩:=zero_box HRR.out.1 HRR.out.2 (by omega) hw7
    go_wp2_with fail
    exact bodyPost_ret (v:=.tuple #[.agg #[.string ⟨#[]⟩,.slice none 0 0,.slice none 0 0,.slice none 0 0,.slice none 0 0],.int .i64 45]) (by simp [results,Tryz.results5,go_sem,z0,z1,z2,z3,z4]) rfl (rturn_wrong HE.out (by decide) hbz)
   case neg =>
    have d2:decide (0 < cm)=false:=decide_eq_false hc
    have HE:=Lib.hid (show turnE N v row value x=0 by rw [HTE.out];simp [HO.out,d1,d2])
    have hwith:=with_any N A1 A2 A3 A4 c1 c2 c3 c4 v row value (.agg #[.bool s,.slice A n c,.slice D k' e]) x KX w4 (bg HG) HB.out HPO.out (bg HG) hK
    unfold netC at hwith
    have HWI:=Lib.hid hwith
    have rn:RowC w4 w.heap.size 27 [.string N.name,.slice A1 N.names.length c1,.slice A2 N.values.length c2,.slice A3 N.parents.length c3,.slice A4 N.tables.length c4]:=(bg HG)
    have r0:=rn.cell 0
    have r1:=rn.cell 1
    have r2:=rn.cell 2
    have r3:=rn.cell 3
    have r4:=rn.cell 4
    have u0:=ra.cell 0
    have u1:=ra.cell 1
    have u2:=ra.cell 2
    have hR4:RowC w4 (w.heap.size + 1 + 1) 27 [.string ⟨#[]⟩,.slice none 0 0,.slice none 0 0,.slice none 0 0,.slice none 0 0]:=(bg HG)
    have HRR:=Lib.hid (And.intro hR4 HG.bel)
    rw [d2]
    clear hwith HG hR4 d2 hc d1 hs rn ra
    go_upto_region 6 with fail
    go_wp2_with fail
    refine HWI.out.mono ?_
    rintro e1 w5 ⟨M,rfl,hF,hL,hb5⟩
    have hR5:=HRR.out.1.below' hb5
    have hbel5:=HRR.out.2.trans (hb5.mono HRR.out.2.size)
    have hgr5:=hR5.lt
    have hge:=HRR.out.1.lt
    have hend:=end_box (w7:=w5.setCells (w.heap.size + 1 + 1) 0 [.string N.name,.slice A1 N.names.length c1,.slice A2 N.values.length c2,.slice A3 N.parents.length c3,.slice (M kT).A N.tables.length (M kT).c]) hR5 rfl hbel5 (by omega) hge hF [.string N.name,.slice A1 N.names.length c1,.slice A2 N.values.length c2,.slice A3 N.parents.length c3,.slice (M kT).A N.tables.length (M kT).c] rfl rfl
    have hnet:=with_net HIN.out.1 HB.out HPO.out (by have:=HIN.out.2.len;omega) hend.2.1 hend.2.2 hL
    have HFI:=Lib.hid (And.intro hnet hend.2.1)
    have HR5:=Lib.hid hR5
    have HEN:=Lib.hid hend.1
    have htl2:(turnN N v row value x).tables.length=N.tables.length:=by simp [turnN]
    have HTL:=Lib.hid htl2
    clear hnet hend hbel5 hb5 hR5 hF hL htl2
    go_wp2_with (first | go_loud (refine wpL_store_row rfl 27 _ _ rfl (w.heap.size + 1 + 1) 0 [.string N.name,.slice A1 N.names.length c1,.slice A2 N.values.length c2,.slice A3 N.parents.length c3,.slice (M kT).A N.tables.length (M kT).c] rfl rfl HR5.out (by simp) (by kernel_rfl) (by simp [Value.oneCell']) ?_) | fail)
    have z0:(w5.setCells (w.heap.size + 1 + 1) 0 [.string N.name,.slice A1 N.names.length c1,.slice A2 N.values.length c2,.slice A3 N.parents.length c3,.slice (M kT).A N.tables.length (M kT).c]).cell? ⟨w.heap.size + 1 + 1,0,none⟩=some (.string N.name):=HEN.out.cell 0
    have z1:(w5.setCells (w.heap.size + 1 + 1) 0 [.string N.name,.slice A1 N.names.length c1,.slice A2 N.values.length c2,.slice A3 N.parents.length c3,.slice (M kT).A N.tables.length (M kT).c]).cell? ⟨w.heap.size + 1 + 1,1,none⟩=some (.slice A1 N.names.length c1):=HEN.out.cell 1
    have z2:(w5.setCells (w.heap.size + 1 + 1) 0 [.string N.name,.slice A1 N.names.length c1,.slice A2 N.values.length c2,.slice A3 N.parents.length c3,.slice (M kT).A N.tables.length (M kT).c]).cell? ⟨w.heap.size + 1 + 1,2,none⟩=some (.slice A2 N.values.length c2):=HEN.out.cell 2
    have z3:(w5.setCells (w.heap.size + 1 + 1) 0 [.string N.name,.slice A1 N.names.length c1,.slice A2 N.values.length c2,.slice A3 N.parents.length c3,.slice (M kT).A N.tables.length (M kT).c]).cell? ⟨w.heap.size + 1 + 1,3,none⟩=some (.slice A3 N.parents.length c3):=HEN.out.cell 3
    have z4:(w5.setCells (w.heap.size + 1 + 1) 0 [.string N.name,.slice A1 N.names.length c1,.slice A2 N.values.length c2,.slice A3 N.parents.length c3,.slice (M kT).A N.tables.length (M kT).c]).cell? ⟨w.heap.size + 1 + 1,4,none⟩=some (.slice (M kT).A N.tables.length (M kT).c):=HEN.out.cell 4
    have hpost:=rturn_right HE.out HFI.out.1 HFI.out.2
    unfold netC at hpost
    rw [HTL.out] at hpost
    exact bodyPost_ret (v:=.tuple #[.agg #[.string N.name,.slice A1 N.names.length c1,.slice A2 N.values.length c2,.slice A3 N.parents.length c3,.slice (M kT).A N.tables.length (M kT).c],.int .i64 0]) (by simp [results,Tryz.results5,go_sem,z0,z1,z2,z3,z4]) rfl hpost
end Go.Proofs.YtmncjibcoffmfaaGreat
