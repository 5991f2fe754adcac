/- sense.Turn, walked: the network with one number turned, in memory of its own. Conditions: the network reads, within Go's bound. Printed by wip/gen/sturn.py. -/
import Derived.Test.YtmncjibcoffmfaaGreatTurnFind
import Derived.Test.YtmncjibcoffmfaaGreatTurnLines
import Derived.Test.YtmncjibcoffmfaaGreatJ22
set_option linter.unusedVariables false
set_option linter.unusedSimpArgs false
namespace Go.Proofs.YtmncjibcoffmfaaGreat
open Go.RowKit

noncomputable def turnB (N:NetV) (v row value:Int) (x:Rat):NetV:=if turnE N v row value x ≠ 0 then emptyN else N
def TurnPost (N:NetV) (v row value:Int) (x:Rat) (w:World) (e:Ending) (w':World):Prop:=
 ∃ M,e=.returned (.tuple #[.agg (boxCs M (turnB N v row value x).name).toArray,.int .i64 (turnE N v row value x)])∧Fam w' w.heap.size M ∧
  Link M (turnB N v row value x) (turnQ N v.toNat row.toNat value.toNat x) (turnB N v row value x).values.length (turnB N v row value x).parents.length (turnB N v row value x).tables.length∧Below w.heap.size w w'
theorem turn_wrong {N:NetV} {v row value:Int} {x:Rat} {w w':World} {E:Int} (hE:turnE N v row value x=E) (h0:E ≠ 0) (hb:Below w.heap.size w w') :
 TurnPost N v row value x w (.returned (.tuple #[.agg #[.string ⟨#[]⟩,.slice none 0 0,.slice none 0 0,.slice none 0 0,.slice none 0 0],.int .i64 E])) w':=by
 subst hE
 have e:turnB N v row value x=emptyN:=if_pos h0
 unfold TurnPost
 rw [e]
 exact ⟨m0,rfl,m0_fam _ _,m0_link _,hb⟩
theorem turn_right {N:NetV} {v row value n:Nat} {x:Rat} {w w':World} {M:Key→Lst} (hE:turnE N v row value x=0) (hF:Fam w' w.heap.size M) (hL:Link M N (turnQ N v row value x) n n n) (h1:N.values.length=n) (h2:N.parents.length=n) (h3:N.tables.length=n) (hb:Below w.heap.size w w') :
 TurnPost N v row value x w (.returned (.tuple #[.agg (boxCs M N.name).toArray,.int .i64 0])) w':=by
 have e:turnB N v row value x=N:=if_neg (by rw [hE];decide)
 unfold TurnPost
 rw [e,hE,h1,h2,h3]
 exact ⟨M,rfl,hF,hL,hb⟩
set_option maxRecDepth 100000 in
set_option maxHeartbeats 4000000 in
theorem turn_any (N:NetV) (A1 A2 A3 A4:Option Addr) (c1 c2 c3 c4:Nat) (v row value:Int) (u:Value) (x:Rat) (KX:Nat) (w:World) (h:NetAt w N A1 A2 A3 A4 c1 c2 c3 c4) (hB:NetB N) (hu:RatAt w u x KX) (hK:KX≤100000000) :
 Calls Tryz.prog 8 #[.agg (netC N A1 A2 A3 A4 c1 c2 c3 c4).toArray,.int .i64 v,.int .i64 row,.int .i64 value,u] w (TurnPost N v row value x w):=by
 obtain ⟨s,A,n,c,xs,D,k',e,ds,rfl,hx⟩:=hu.ex
 clear hx
 have H1:=(Held.and (Q:=fun w=>RatAt w (.agg #[.bool s,.slice A n c,.slice D k' e]) x KX) (Held.and (Q:=fun w=>NetAt w N A1 A2 A3 A4 c1 c2 c3 c4) (Held.init w) h) hu).new 27 (netC N A1 A2 A3 A4 c1 c2 c3 c4)
 have H2:=H1.new 36 [.bool s,.slice A n c,.slice D k' e]
 have H3:=H2.new 27 [.string ⟨#[]⟩,.slice none 0 0,.slice none 0 0,.slice none 0 0,.slice none 0 0]
 rw [show (w.alloc (.cells (netC N A1 A2 A3 A4 c1 c2 c3 c4).toArray 27)).heap.size=w.heap.size + 1 from by simp] at H2 H3
 rw [show ((w.alloc (.cells (netC N A1 A2 A3 A4 c1 c2 c3 c4).toArray 27)).alloc (.cells [.bool s,.slice A n c,.slice D k' e].toArray 36)).heap.size=w.heap.size + 1 + 1 from by simp] at H3
 unfold netC at H3 ⊢
 have HXL:=Lib.hid hu.len
 clear H1 H2 h hu
 obtain ⟨wq,hwq⟩:∃ wq:World,wq=((w.alloc (.cells #[.string N.name,.slice A1 N.names.length c1,.slice A2 N.values.length c2,.slice A3 N.parents.length c3,.slice A4 N.tables.length c4] 27)).alloc (.cells #[.bool s,.slice A n c,.slice D k' e] 36)).alloc (.cells #[.string ⟨#[]⟩,.slice none 0 0,.slice none 0 0,.slice none 0 0,.slice none 0 0] 27):=⟨_,rfl⟩
 rw [← hwq] at H3
 have HB:=Lib.hid hB
 have hfind:=find_place N A1 A2 A3 A4 c1 c2 c3 c4 v row value wq (bg H3) hB
 unfold netC at hfind
 have HF:=Lib.hid hfind
 obtain ⟨P,hP⟩:∃ P,P=placeE N v row value:=⟨_,rfl⟩
 have hTE:turnE N v row value x=if P ≠ 0 then P else if outQ x then 45 else 0:=by rw [hP];rfl
 have HTE:=Lib.hid hTE
 have HP:=Lib.hid hP
 clear hfind hB hTE hP
 have rn:RowC wq w.heap.size 27 [.string N.name,.slice A1 N.names.length c1,.slice A2 N.values.length c2,.slice A3 N.parents.length c3,.slice A4 N.tables.length c4]:=(bg H3)
 have r0:=rn.cell 0
 have r1:=rn.cell 1
 have r2:=rn.cell 2
 have r3:=rn.cell 3
 have r4:=rn.cell 4
 go_enter Tryz.func8,Tryz.ntmps8
 go_upto_region 1 with fail
 rw [← hwq]
 clear hwq
 go_wp2_with fail
 refine HF.out.mono ?_
 rintro e1 w1 ⟨p0,p1,p2,p3,rfl,hp,hb1⟩
 have HG:=H3.step hb1
 rw [← HP.out] at hp ⊢
 have HPP:=Lib.hid hp
 have HG2:=HG.new 56 [.int .i64 p0,.int .i64 p1,.int .i64 p2,.int .i64 p3]
 obtain ⟨g2,hg2⟩:∃ g,g=w1.heap.size:=⟨_,rfl⟩
 obtain ⟨w2,hw2⟩:∃ y,y=w1.alloc (.cells #[.int .i64 p0,.int .i64 p1,.int .i64 p2,.int .i64 p3] 56):=⟨_,rfl⟩
 rw [← hg2,← hw2] at HG2
 have hgl:w.heap.size + 1 + 1 < g2:=by rw [hg2];exact (show RowC w1 (w.heap.size + 1 + 1) _ _ from (bg HG)).lt
 clear H3 hb1 hp rn r0 r1 r2 r3 r4 HG
 go_upto_region 2 with fail
 rw [← hw2,← hg2]
 clear hw2 hg2
 have HG:=HG2
 clear HG2
 have hR:RowC w2 (w.heap.size + 1 + 1) 27 [.string ⟨#[]⟩,.slice none 0 0,.slice none 0 0,.slice none 0 0,.slice none 0 0]:=(bg HG)
 by_cases hP0:P=0
 case neg =>
  have HE:=Lib.hid (show turnE N v row value x=P by rw [HTE.out,if_pos hP0])
  have HN:=Lib.hid hP0
  have HRR:=Lib.hid (And.intro hR HG.bel)
  clear HG
  go_wp2_with (first | refine wpL_atBuild rfl ?_;refine wpList_plain rfl fun K7 hK7=>?_;go_simp;refine hK7 _ _ ?_;clear hK7 K7;refine wpList_plain rfl fun K7 hK7=>?_;go_simp;refine hK7 _ _ ?_;clear hK7 K7;go_loud (refine wpL_store_row rfl _ _ _ rfl (w.heap.size + 1 + 1) 0 zeroC rfl rfl hR (by decide) (by kernel_rfl) (by simp [zeroC,Value.oneCell']) ?_) | fail)
  obtain ⟨w7,hw7⟩:∃ w7:World,w7=w2.setCells (w.heap.size + 1 + 1) 0 zeroC:=⟨_,rfl⟩
  rw [← hw7]
  obtain ⟨z0,z1,z2,z3,z4,hbz⟩:=zero_box HRR.out.1 HRR.out.2 (by omega) hw7
  go_wp2_with fail
  exact bodyPost_ret (v:=.tuple #[.agg #[.string ⟨#[]⟩,.slice none 0 0,.slice none 0 0,.slice none 0 0,.slice none 0 0],.int .i64 P]) (by simp [results,Tryz.results8,go_sem,z0,z1,z2,z3,z4]) rfl (turn_wrong HE.out HN.out hbz)
 case pos =>
  subst hP0
  have hpl:=place_ok HP.out.symm
  obtain ⟨v,row,value,rfl,rfl,rfl,hpo⟩:=hpl
  have hpp:=HPP.out rfl
  simp only [Int.toNat_natCast] at hpp
  obtain ⟨rfl,rfl,rfl,rfl⟩:=hpp
  have hO:outQ x=(decide (sgnQ x < 0) || decide (0 < cmpQ x 1)):=rfl
  generalize hsg:sgnQ x=sg at *
  generalize hcm:cmpQ x 1=cm at *
  have HSG:=Lib.hid hsg
  have HCM:=Lib.hid hcm
  have HO:=Lib.hid hO
  have HPO:=Lib.hid hpo
  clear hsg hcm hO hpo HP HPP
  have ra:RowC _ (w.heap.size + 1) 36 [.bool s,.slice A n c,.slice D k' e]:=(bg HG)
  go_upto_region 4 with fail
  have HG:=HG.drew
  clear hR
  by_cases hs:sg < 0
  case pos=>as_aux_lemma =>
   have d1:decide (sg < 0)=true:=decide_eq_true hs
   refine wp_region_held_drew (S:=fun w'=>w'.cell? ⟨w.heap.size + 1,0,none⟩=some (.bool s)∧w'.cell? ⟨w.heap.size + 1,1,none⟩=some (.slice A n c)∧w'.cell? ⟨w.heap.size + 1,2,none⟩=some (.slice D k' e)) (by kernel_rfl) ?hS1 (fun hHeld=>?rest1)
   case hS1=>(first | exact ⟨ra.cell 0,ra.cell 1,ra.cell 2⟩ | assumption | go_keep)
   refine tk 0 rfl ?_
   try simp only [Act.put,sp]
   refine wpAnyH_ready (rs:=[1]) (by kernel_rfl) (by simp) (consL rfl (fun K hK=>?step3))
   (go_simp;(refine (frac_sign _ x KX _ (bg HG)).mono ?_);(rintro e1 w2 ⟨rfl,hb1⟩);(rw [HSG.out]);(have HG:=HG.step hb1);(clear hb1);(have ra:RowC _ (w.heap.size + 1) 36 [.bool s,.slice A n c,.slice D k' e]:=(bg HG)))
   refine hK.out _ _ ?hS3 (fun hHeld=>?rest3)
   case hS3=>(first | exact ⟨ra.cell 0,ra.cell 1,ra.cell 2⟩ | assumption | go_keep)
   clear hK K
   try simp only [Act.put,sp]
   refine tk 2 rfl ?_
   try simp only [Act.put,sp]
   refine tk 3 rfl ?_
   try simp only [Act.put,sp]
   refine sk 4 rfl ?_
   try simp only [Act.put,sp]
   refine sk 5 rfl ?_
   try simp only [Act.put,sp]
   refine sk 6 rfl ?_
   try simp only [Act.put,sp]
   refine sk 7 rfl ?_
   try simp only [Act.put,sp]
   refine tk 8 rfl ?_
   try simp only [Act.put,sp]
   refine wpAnyH_done (by kernel_rfl) ?_ _
   go_simp
   go_simp
   have hR:RowC w2 (w.heap.size + 1 + 1) 27 [.string ⟨#[]⟩,.slice none 0 0,.slice none 0 0,.slice none 0 0,.slice none 0 0]:=(bg HG)
   have HE:=Lib.hid (show turnE N v row value x=45 by rw [HTE.out];simp [HO.out,d1])
   have HRR:=Lib.hid (And.intro hR HG.bel)
   have hR:RowC w2 (w.heap.size + 1 + 1) 27 zeroC:=hR
   clear HG
   go_wp2_with (first | refine wpL_atBuild rfl ?_;refine wpList_plain rfl fun K7 hK7=>?_;go_simp;refine hK7 _ _ ?_;clear hK7 K7;go_loud (refine wpL_store_row rfl _ _ _ rfl (w.heap.size + 1 + 1) 0 zeroC rfl rfl hR (by decide) (by kernel_rfl) (by simp [zeroC,Value.oneCell']) ?_) | fail)
   obtain ⟨w7,hw7⟩:∃ w7:World,w7=w2.setCells (w.heap.size + 1 + 1) 0 zeroC:=⟨_,rfl⟩
   rw [← hw7]
   obtain ⟨z0,z1,z2,z3,z4,hbz⟩:=zero_box HRR.out.1 HRR.out.2 (by omega) hw7
   go_wp2_with fail
   exact bodyPost_ret (v:=.tuple #[.agg #[.string ⟨#[]⟩,.slice none 0 0,.slice none 0 0,.slice none 0 0,.slice none 0 0],.int .i64 45]) (by simp [results,Tryz.results8,go_sem,z0,z1,z2,z3,z4]) rfl (turn_wrong HE.out (by decide) hbz)
  case neg =>
   have d1:decide (sg < 0)=false:=decide_eq_false hs
   refine wp_region_held_drew (S:=fun w'=>w'.cell? ⟨w.heap.size + 1,0,none⟩=some (.bool s)∧w'.cell? ⟨w.heap.size + 1,1,none⟩=some (.slice A n c)∧w'.cell? ⟨w.heap.size + 1,2,none⟩=some (.slice D k' e)) (by kernel_rfl) ?hS11 (fun hHeld=>?rest11)
   case hS11=>(first | exact ⟨ra.cell 0,ra.cell 1,ra.cell 2⟩ | assumption | go_keep)
   refine tk 0 rfl ?_
   try simp only [Act.put,sp]
   refine wpAnyH_ready (rs:=[1]) (by kernel_rfl) (by simp) (consL rfl (fun K hK=>?step13))
   (go_simp;(refine (frac_sign _ x KX _ (bg HG)).mono ?_);(rintro e1 w2 ⟨rfl,hb1⟩);(rw [HSG.out]);(have HG:=HG.step hb1);(clear hb1);(have ra:RowC _ (w.heap.size + 1) 36 [.bool s,.slice A n c,.slice D k' e]:=(bg HG)))
   refine hK.out _ _ ?hS13 (fun hHeld=>?rest13)
   case hS13=>(first | exact ⟨ra.cell 0,ra.cell 1,ra.cell 2⟩ | assumption | go_keep)
   clear hK K
   try simp only [Act.put,sp]
   refine tk 2 rfl ?_
   try simp only [Act.put,sp]
   refine tk 3 rfl ?_
   try simp only [Act.put,sp]
   refine tk 4 rfl ?_
   try simp only [Act.put,sp]
   refine wpAnyH_ready (rs:=[5]) (by kernel_rfl) (by simp) (consL rfl (fun K hK=>?step17))
   (go_simp;(refine (one_sense _).mono ?_);(intro e1 w3 hp);(obtain ⟨v1,rfl,hv1,hb1⟩:=hp.at (by rw [ratLen_one];decide));(have HG:=Held.and (Q:=fun w=>RatAt w v1 1 (ratLen 1)) (HG.step hb1) hv1);(clear hb1 hv1 hp);(have ra:RowC _ (w.heap.size + 1) 36 [.bool s,.slice A n c,.slice D k' e]:=(bg HG)))
   refine hK.out _ _ ?hS17 (fun hHeld=>?rest17)
   case hS17=>(first | exact ⟨ra.cell 0,ra.cell 1,ra.cell 2⟩ | assumption | go_keep)
   clear hK K
   try simp only [Act.put,sp]
   refine wpAnyH_ready (rs:=[6]) (by kernel_rfl) (by simp) (consL rfl (fun K hK=>?step18))
   (go_simp;(refine (frac_cmp _ _ x 1 KX (ratLen 1) _ (bg HG) (bg HG) (by rw [ratLen_one];omega)).mono ?_);(rintro e1 w4 ⟨rfl,hb1⟩);(rw [HCM.out]);(have HG:=HG.step hb1);(clear hb1);(have ra:RowC _ (w.heap.size + 1) 36 [.bool s,.slice A n c,.slice D k' e]:=(bg HG)))
   refine hK.out _ _ ?hS18 (fun hHeld=>?rest18)
   case hS18=>(first | exact ⟨ra.cell 0,ra.cell 1,ra.cell 2⟩ | assumption | go_keep)
   clear hK K
   try simp only [Act.put,sp]
   refine tk 7 rfl ?_
   try simp only [Act.put,sp]
   refine tk 8 rfl ?_
   try simp only [Act.put,sp]
   refine wpAnyH_done (by kernel_rfl) ?_ _
   go_simp
   go_simp
   by_cases hc:0 < cm
   case pos=>as_aux_lemma =>
    have d2:decide (0 < cm)=true:=decide_eq_true hc
    have hR:RowC w4 (w.heap.size + 1 + 1) 27 [.string ⟨#[]⟩,.slice none 0 0,.slice none 0 0,.slice none 0 0,.slice none 0 0]:=(bg HG)
    have HE:=Lib.hid (show turnE N v row value x=45 by rw [HTE.out];simp [HO.out,d2])
    have HRR:=Lib.hid (And.intro hR HG.bel)
    have hR:RowC w4 (w.heap.size + 1 + 1) 27 zeroC:=hR
    clear HG
    go_wp2_with (first | refine wpL_atBuild rfl ?_;refine wpList_plain rfl fun K7 hK7=>?_;go_simp;refine hK7 _ _ ?_;clear hK7 K7;go_loud (refine wpL_store_row rfl _ _ _ rfl (w.heap.size + 1 + 1) 0 zeroC rfl rfl hR (by decide) (by kernel_rfl) (by simp [zeroC,Value.oneCell']) ?_) | fail)
    obtain ⟨w7,hw7⟩:∃ w7:World,w7=w4.setCells (w.heap.size + 1 + 1) 0 zeroC:=⟨_,rfl⟩
    rw [← hw7]
    obtain ⟨z0,z1,z2,z3,z4,hbz⟩:=zero_box HRR.out.1 HRR.out.2 (by omega) hw7
    go_wp2_with fail
    exact bodyPost_ret (v:=.tuple #[.agg #[.string ⟨#[]⟩,.slice none 0 0,.slice none 0 0,.slice none 0 0,.slice none 0 0],.int .i64 45]) (by simp [results,Tryz.results8,go_sem,z0,z1,z2,z3,z4]) rfl (turn_wrong HE.out (by decide) hbz)
   case neg =>
    have d2:decide (0 < cm)=false:=decide_eq_false hc
    have HE:=Lib.hid (show turnE N v row value x=0 by rw [HTE.out];simp [HO.out,d1,d2])
    have hB:=HB.out
    have hnb:=hB.names
    have hq8:(0 + N.names.length) * 16≤140737488355328:=by omega
    have hNA:NetAt w4 N A1 A2 A3 A4 c1 c2 c3 c4:=(bg HG)
    have hsN:=hNA.n1
    have rn:RowC w4 w.heap.size 27 [.string N.name,.slice A1 N.names.length c1,.slice A2 N.values.length c2,.slice A3 N.parents.length c3,.slice A4 N.tables.length c4]:=(bg HG)
    have r0:=rn.cell 0
    have r1:=rn.cell 1
    rw [d2]
    clear ra d2 hc d1 hs
    go_upto_region 6 with fail
    go_cut [14] from 43 to 48 (fun p wx=>∃ g,p=.pointer (some ⟨g,0,none⟩)∧Below w4.heap.size w4 wx∧∃ M,Fam wx w4.heap.size M∧Link M N (stepQ N v row value x 0) 0 0 0∧BoxM M g N.name)
    case first=>as_aux_lemma =>
     have HU:=HG
     have HG:=HG.drew
     refine wp_region_lastL (S:=fun w'=>w'.cell? ⟨w.heap.size,0,none⟩=some (.string N.name)∧w'.cell? ⟨w.heap.size,1,none⟩=some (.slice A1 N.names.length c1)) 7 7 (by kernel_rfl) rfl rfl rfl (by kernel_rfl) ?hS21 (fun hHeld=>?rest21)
     case hS21=>(first | exact ⟨r0,r1⟩ | assumption | go_keep)
     refine tk 0 rfl ?_
     try simp only [Act.put,sp]
     refine tk 1 rfl ?_
     try simp only [Act.put,sp]
     refine tk 2 rfl ?_
     try simp only [Act.put,sp]
     refine tk 3 rfl ?_
     try simp only [Act.put,sp]
     refine wpAnyH_ready (rs:=[4,6]) (by kernel_rfl) (by simp) (consM rfl (fun K hK=>?step27) (consL rfl (fun K hK=>?step28)))
     case step27 =>
      (refine step_appR _ eiTxt Value.string (fun _=>rfl) (by rfl) (.const (.slice none 0 0)) (.tmp 46) (by rfl) w4.heap.size none 0 0 [] (by rfl) (OwnR.nil _ _ _ _) A1 N.names.length c1 N.names (by rfl) ((bg HG):NetAt _ N A1 A2 A3 A4 c1 c2 c3 c4).n1 hq8 (Nat.le_refl _) ?_;(rw [Nat.zero_add]);(intro C9 k9 w9 ho9 _ hb9 hd9);(have ho9:OwnR Value.string w9 w4.heap.size 9 C9 N.names.length k9 N.names:=ho9);(have ho9':(⟨9,1,C9,N.names.length,k9,N.names.map .string⟩:Lst).own w9 w4.heap.size:=ho9);(have HG:=HG.step hb9);(have rn:RowC _ w.heap.size 27 [.string N.name,.slice A1 N.names.length c1,.slice A2 N.values.length c2,.slice A3 N.parents.length c3,.slice A4 N.tables.length c4]:=(bg HG));(have r0:=rn.cell 0);(have r1:=rn.cell 1))
      refine hK.out _ _ ?hS27 (fun hHeld=>?rest27)
      case hS27=>(first | exact ⟨r0,r1⟩ | assumption | go_keep)
      clear hK K
      try simp only [Act.put,sp]
      refine wpAnyH_takeL (i:=5) (v:=.agg #[.string N.name,.slice C9 N.names.length k9,.slice none 0 0,.slice none 0 0,.slice none 0 0]) rfl (by kernel_rfl) (by kernel_rfl) (by kernel_rfl) (fun _ _ _ h=>h) (by rfl) ?hy29 (by assumption) ?rest29
      case hy29=>(refine run_build_op 27 _ rfl _ ?_;go_simp;kernel_rfl)
      try simp only [Act.put,sp]
      refine wpAnyH_ready (rs:=[6]) (by kernel_rfl) (by simp) (consL rfl (fun K hK=>?step30))
      (go_simp;(have hbx:RowC (w9.alloc (.cells #[.string ⟨#[]⟩,.slice none 0 0,.slice none 0 0,.slice none 0 0,.slice none 0 0] 27)) w9.heap.size 27 [.string ⟨#[]⟩,.slice none 0 0,.slice none 0 0,.slice none 0 0,.slice none 0 0]:=heap_alloc_new _ _);(have hbl:Below w4.heap.size w4 (w9.alloc (.cells #[.string ⟨#[]⟩,.slice none 0 0,.slice none 0 0,.slice none 0 0,.slice none 0 0] 27)):=(below_refl_drewN _ _ 1).trans (hb9.alloc hb9.size (.cells #[.string ⟨#[]⟩,.slice none 0 0,.slice none 0 0,.slice none 0 0,.slice none 0 0] 27)));(have ho9:=ho9.alloc (.cells #[.string ⟨#[]⟩,.slice none 0 0,.slice none 0 0,.slice none 0 0,.slice none 0 0] 27));(have HG:=HG.new 27 [.string ⟨#[]⟩,.slice none 0 0,.slice none 0 0,.slice none 0 0,.slice none 0 0]);(have hgb:w4.heap.size≤w9.heap.size:=hb9.size);(have hne:∀ b,(Value.slice C9 N.names.length k9).ownBlock=some b→b ≠ w9.heap.size:=fun b e=>by have:=(ho9'.lt (l:=⟨9,1,C9,N.names.length,k9,N.names.map .string⟩) e).2;omega);(obtain ⟨gb,hge⟩:∃ gb,gb=w9.heap.size:=⟨_,rfl⟩);(rw [← hge] at hbx hgb hne ⊢);(clear hge);(have rn:RowC _ w.heap.size 27 [.string N.name,.slice A1 N.names.length c1,.slice A2 N.values.length c2,.slice A3 N.parents.length c3,.slice A4 N.tables.length c4]:=(bg HG));(have r0:=rn.cell 0);(have r1:=rn.cell 1))
      refine hK.out _ _ ?hS30 (fun hHeld=>?rest30)
      case hS30=>(first | exact ⟨r0,r1⟩ | assumption | go_keep)
      clear hK K
      try simp only [Act.put,sp]
      refine wpAnyH_done (by kernel_rfl) ?_ _
      unfold AheadOf
      refine wp_store_row 27 (.tmp 14) (.tmp 48) rfl gb 0 [.string N.name,.slice C9 N.names.length k9,.slice none 0 0,.slice none 0 0,.slice none 0 0] rfl rfl hbx (by simp) (by kernel_rfl) (by simp [Value.oneCell']) ?_
      intro w7 hw7
      have hbx7:RowC w7 gb 27 [.string N.name,.slice C9 N.names.length k9,.slice none 0 0,.slice none 0 0,.slice none 0 0]:=by rw [hw7];exact hbx.setL _ 0
      have ho7:OwnR Value.string w7 w4.heap.size 9 C9 N.names.length k9 N.names:=by rw [hw7];exact ho9.farS (fun b e=>hne b (by rw [e];rfl)) _ _
      have hbl7:Below w4.heap.size w4 w7:=by rw [hw7];exact belowS hbl hgb _ _
      have hst:=fam_start (T:=stepQ N v row value x 0) ho7 hbx7 hgb hne
      have HX:=Lib.hid (And.intro hbl7 hst)
      clear hbx7 ho7 hbl7 hst hw7 hbx ho9 hbl hne
      (try go_wp2_with fail)
      go_meet
      case rel=>exact ⟨gb,rfl,HX.out.1,HX.out.2⟩
     case step28 =>
      (go_simp;(have hbx:RowC (w4.alloc (.cells #[.string ⟨#[]⟩,.slice none 0 0,.slice none 0 0,.slice none 0 0,.slice none 0 0] 27)).drew w4.heap.size 27 [.string ⟨#[]⟩,.slice none 0 0,.slice none 0 0,.slice none 0 0,.slice none 0 0]:=heap_alloc_new _ _);(have HG:=(HU.new 27 [.string ⟨#[]⟩,.slice none 0 0,.slice none 0 0,.slice none 0 0,.slice none 0 0]).drew);(obtain ⟨gb,hge⟩:∃ gb,gb=w4.heap.size:=⟨_,rfl⟩);(obtain ⟨ya,hya⟩:∃ y,y=(w4.alloc (.cells #[.string ⟨#[]⟩,.slice none 0 0,.slice none 0 0,.slice none 0 0,.slice none 0 0] 27)).drew:=⟨_,rfl⟩);(have hsz:ya.heap.size=w4.heap.size + 1:=by rw [hya];simp [World.drew]);(have hbl:Below w4.heap.size w4 ya:=by rw [hya];exact ((Below.refl _ _).alloc (Nat.le_refl _) _).trans (below_refl_drewN _ _ _));(rw [← hya,← hge] at hbx HG ⊢);(clear hya);(have rn:RowC _ w.heap.size 27 [.string N.name,.slice A1 N.names.length c1,.slice A2 N.values.length c2,.slice A3 N.parents.length c3,.slice A4 N.tables.length c4]:=(bg HG));(have r0:=rn.cell 0);(have r1:=rn.cell 1))
      refine hK.out _ _ ?hS28 (fun hHeld=>?rest28)
      case hS28=>(first | exact ⟨r0,r1⟩ | assumption | go_keep)
      clear hK K
      try simp only [Act.put,sp]
      refine wpAnyH_ready (rs:=[4]) (by kernel_rfl) (by simp) (consL rfl (fun K hK=>?step31))
      (refine step_appR _ eiTxt Value.string (fun _=>rfl) (by rfl) (.const (.slice none 0 0)) (.tmp 46) (by rfl) ya.heap.size none 0 0 [] (by rfl) (OwnR.nil _ _ _ _) A1 N.names.length c1 N.names (by rfl) ((bg HG):NetAt _ N A1 A2 A3 A4 c1 c2 c3 c4).n1 hq8 (Nat.le_refl _) ?_;(rw [Nat.zero_add]);(intro C9 k9 w9 ho9 _ hb9 hd9);(have ho9:OwnR Value.string w9 w4.heap.size 9 C9 N.names.length k9 N.names:=ho9.mono (by omega));(have HG:=HG.step hb9);(have hbx:=hbx.below' hb9);(have hbl:Below w4.heap.size w4 w9:=hbl.trans (hb9.mono (by omega)));(have hgb:w4.heap.size≤gb:=by omega);(have hne:∀ b,(Value.slice C9 N.names.length k9).ownBlock=some b→b ≠ gb:=fun b e=>by (rcases hd9 with hd | hd <;> (rw [hd] at e));(exact absurd e (by simp [Value.ownBlock]));(injection e with e;omega));(clear hge);(have rn:RowC _ w.heap.size 27 [.string N.name,.slice A1 N.names.length c1,.slice A2 N.values.length c2,.slice A3 N.parents.length c3,.slice A4 N.tables.length c4]:=(bg HG));(have r0:=rn.cell 0);(have r1:=rn.cell 1))
      refine hK.out _ _ ?hS31 (fun hHeld=>?rest31)
      case hS31=>(first | exact ⟨r0,r1⟩ | assumption | go_keep)
      clear hK K
      try simp only [Act.put,sp]
      refine wpAnyH_takeL (i:=5) (v:=.agg #[.string N.name,.slice C9 N.names.length k9,.slice none 0 0,.slice none 0 0,.slice none 0 0]) rfl (by kernel_rfl) (by kernel_rfl) (by kernel_rfl) (fun _ _ _ h=>h) (by rfl) ?hy32 (by assumption) ?rest32
      case hy32=>(refine run_build_op 27 _ rfl _ ?_;go_simp;kernel_rfl)
      try simp only [Act.put,sp]
      refine wpAnyH_done (by kernel_rfl) ?_ _
      unfold AheadOf
      refine wp_store_row 27 (.tmp 14) (.tmp 48) rfl gb 0 [.string N.name,.slice C9 N.names.length k9,.slice none 0 0,.slice none 0 0,.slice none 0 0] rfl rfl hbx (by simp) (by kernel_rfl) (by simp [Value.oneCell']) ?_
      intro w7 hw7
      have hbx7:RowC w7 gb 27 [.string N.name,.slice C9 N.names.length k9,.slice none 0 0,.slice none 0 0,.slice none 0 0]:=by rw [hw7];exact hbx.setL _ 0
      have ho7:OwnR Value.string w7 w4.heap.size 9 C9 N.names.length k9 N.names:=by rw [hw7];exact ho9.farS (fun b e=>hne b (by rw [e];rfl)) _ _
      have hbl7:Below w4.heap.size w4 w7:=by rw [hw7];exact belowS hbl hgb _ _
      have hst:=fam_start (T:=stepQ N v row value x 0) ho7 hbx7 hgb hne
      have HX:=Lib.hid (And.intro hbl7 hst)
      clear hbx7 ho7 hbl7 hst hw7 hbx ho9 hbl hne
      (try go_wp2_with fail)
      go_meet
      case rel=>exact ⟨gb,rfl,HX.out.1,HX.out.2⟩
    case rest =>
     obtain ⟨g,rfl,hbel,M0,hF0,hL0,hM0⟩:=hcut
     obtain ⟨T,hT⟩:∃ T,T=stepQ N v row value x 0:=⟨_,rfl⟩
     rw [← hT] at hL0
     have HT:=Lib.hid hT
     have HPK:=HPO.out
     have hlv:=HPK.hv
     have hlp:=HPK.hp
     have hlt:=HPK.ht
     have HLN:=Lib.hid (And.intro hlv (And.intro hlp hlt))
     have rn:RowC wc w.heap.size 27 [.string N.name,.slice A1 N.names.length c1,.slice A2 N.values.length c2,.slice A3 N.parents.length c3,.slice A4 N.tables.length c4]:=(show RowC w4 _ _ _ from (bg HG)).below' hbel
     have r1:=rn.cell 1
     obtain ⟨nn,hnn⟩:∃ q,q=N.names.length:=⟨_,rfl⟩
     have HNN:=Lib.hid hnn
     have hnl:(nn:Int)≤1048576:=by omega
     clear hT HPK hlv hlp hlt rn hNA hsN
     go_wp2_with fail
     go_loopw [52] (fun i wr=>∃ (j:Nat) (M:Key→Lst),j≤N.names.length∧i=.int .i64 (j:Nat)∧Below w4.heap.size w4 wr∧Fam wr w4.heap.size M∧Link M N T j j j∧BoxM M g N.name) (fun i _=>N.names.length - (intOf i).toNat)
     case atStart=>exact ⟨0,M0,by omega,rfl,hbel,hF0,hL0,hM0⟩
     case round =>
      clear hbel hF0 hL0 hM0 r1 M0
      obtain ⟨j,M,hj,rfl,hbel,hF,hL,hM⟩:=hrel
      by_cases hjn:j < N.names.length
      case pos =>
       have hd:decide ((j:Int) < (N.names.length:Int))=true:=decide_eq_true (by omega)
       go_upto_region 10 with fail
       go_cut [15] from 55 to 65 (fun u wx=>∃ M':Key→Lst,u=.int .i64 (j:Nat)∧Below w4.heap.size w4 wx∧Fam wx w4.heap.size M'∧Link M' N T (j + 1) j j∧BoxM M' g N.name)
       case first=>as_aux_lemma =>
        have hjl:j < N.values.length:=by have:=HLN.out;omega
        have hNr:NetAt wr N A1 A2 A3 A4 c1 c2 c3 c4:=(show NetAt w4 N A1 A2 A3 A4 c1 c2 c3 c4 from (bg HG)).below (Nat.le_refl _) hbel
        have hbz:(nth N.values j).length≤1048576:=(hB.val _ (nth_mem (by omega))).1
        obtain ⟨b2,off2,B2,m2,d2,eA,hb2,q1,hsl,_⟩:=hNr.n2.rowC (i:=j) (by omega)
        have hb24:b2 < w4.heap.size:=by
         obtain ⟨b3,_,_,_,_,e3,hb3',_⟩:=(show NetAt w4 N A1 A2 A3 A4 c1 c2 c3 c4 from (bg HG)).n2.rowC (i:=j) (by omega)
         rw [eA] at e3
         injection e3 with e3
         injection e3 with e3
         omega
        subst eA
        have hm2:=hsl.len
        have hq8:(0 + m2) * 16≤140737488355328:=by omega
        have hlo:=hM.lt hF
        have hsz:=hbel.size
        have rb:RowC wr g 27 (boxCs M N.name):=hM.row' rfl hF
        have q2:wr.cell? ⟨g,2,none⟩=some (.slice (M kV).A (M kV).n (M kV).c):=rb.cell 2
        have rn:RowC wr w.heap.size 27 [.string N.name,.slice A1 N.names.length c1,.slice (some ⟨b2,off2,none⟩) N.values.length c2,.slice A3 N.parents.length c3,.slice A4 N.tables.length c4]:=(show RowC w4 _ _ _ from (bg HG)).below' hbel
        have q3:wr.cell? ⟨w.heap.size,2,none⟩=some (.slice (some ⟨b2,off2,none⟩) N.values.length c2):=rn.cell 2
        have HNK:=Lib.hid hL.vals.out.n
        have hlj:(j:Int) < (N.values.length:Int):=by omega
        have hwlt:w.heap.size < w4.heap.size:=(show RowC w4 w.heap.size _ _ from (bg HG)).lt
        refine wp_region_lastL (S:=fun w'=>w'.cell? ⟨g,2,none⟩=some (.slice (M kV).A (M kV).n (M kV).c)∧w'.cell? ⟨w.heap.size,2,none⟩=some (.slice (some ⟨b2,off2,none⟩) N.values.length c2)∧w'.cell? ⟨b2,off2 + j,none⟩=some (.slice B2 m2 d2)) 11 11 (by kernel_rfl) rfl rfl rfl (by kernel_rfl) ?hS33 (fun hHeld=>?rest33)
        case hS33=>(first | exact ⟨q2,q3,q1⟩ | assumption | go_keep)
        refine tk 0 rfl ?_
        try simp only [Act.put,sp]
        refine tk 1 rfl ?_
        try simp only [Act.put,sp]
        refine tk 2 rfl ?_
        try simp only [Act.put,sp]
        refine tk 3 rfl ?_
        try simp only [Act.put,sp]
        refine tk 4 rfl ?_
        try simp only [Act.put,sp]
        refine tk 5 rfl ?_
        try simp only [Act.put,sp]
        refine tk 6 rfl ?_
        try simp only [Act.put,sp]
        refine wpAnyH_ready (rs:=[7]) (by kernel_rfl) (by simp) (consL rfl (fun K hK=>?step41))
        (refine step_appR _ eiTxt Value.string (fun _=>rfl) (by rfl) (.const (.slice none 0 0)) (.tmp 61) (by rfl) wr.heap.size none 0 0 [] (by rfl) (OwnR.nil _ _ _ _) B2 m2 d2 (nth N.values j) (by rfl) (hsl.drewN 1) hq8 (Nat.le_refl _) ?_;(rw [Nat.zero_add]);(intro C9 k9 w9 ho9 _ hb9 _);(have hb1:Below wr.heap.size wr w9:=(below_refl_drewN _ _ 1).trans hb9);(have ho9:OwnR Value.string w9 wr.heap.size 9 C9 m2 k9 (nth N.values j):=ho9);(clear hb9);(have q2:=bc hb1 q2 hlo.2);(have q3:=bc hb1 q3 rn.lt);(have q1:=bc hb1 q1 hb2))
        refine hK.out _ _ ?hS41 (fun hHeld=>?rest41)
        case hS41=>(first | exact ⟨q2,q3,q1⟩ | assumption | go_keep)
        clear hK K
        try simp only [Act.put,sp]
        refine wpAnyH_ready (rs:=[8]) (by kernel_rfl) (by simp) (consL rfl (fun K hK=>?step42))
        (go_simp;(obtain ⟨yb,hyb⟩:∃ y,y=w9.alloc (.cells #[.slice C9 m2 k9] 22):=⟨_,rfl⟩);(rw [← hyb]);(have hb2':Below w9.heap.size w9 yb:=by rw [hyb];exact (Below.refl _ _).alloc (Nat.le_refl _) _);(have hnew:∀ q u,[Value.slice C9 m2 k9][q]?=some u→yb.cell? ((⟨w9.heap.size,0,none⟩:Addr).add q)=some u:=by rw [hyb];exact newCells w9 22 [.slice C9 m2 k9]);(clear hyb);(have hsz9:=hb1.size);(have q2:=(hb2'.cell (p:=⟨g,2,none⟩) (Nat.lt_of_lt_of_le hlo.2 hsz9)).trans q2);(have q3:=(hb2'.cell (p:=⟨w.heap.size,2,none⟩) (Nat.lt_of_lt_of_le rn.lt hsz9)).trans q3);(have q1:=(hb2'.cell (p:=⟨b2,off2 + j,none⟩) (Nat.lt_of_lt_of_le hb2 hsz9)).trans q1))
        refine hK.out _ _ ?hS42 (fun hHeld=>?rest42)
        case hS42=>(first | exact ⟨q2,q3,q1⟩ | assumption | go_keep)
        clear hK K
        try simp only [Act.put,sp]
        refine wpAnyH_ready (rs:=[9]) (by kernel_rfl) (by simp) (consL rfl (fun K hK=>?step43))
        (refine step_app_raw _ (L:=M kV) (t:=23) (z:=.slice none 0 0) (bytes:=24) (by rw [hL.vals.out.e,hL.vals.out.s];exact eimSS) (by rfl) (.tmp 56) (.tmp 63) (by rfl) w4.heap.size (by rfl) (((hF.below hb1).below hb2').own kV) ⟨w9.heap.size,0,none⟩ 1 1 [.slice C9 m2 k9] (by rfl) (by rw [hL.vals.out.s];rfl) hnew (by simp [Value.oneCell']) (by have:=HNK.out;omega) (by have:=hb2'.size;omega) (by omega) ?_;(intro A' c' w3' ho3 hg3 hb3 hd3);(have HR:=roundV hF hL hM hsz (hsl.len.symm) hb1 ho9 hb2' hg3 ho3 hd3);(have hT3:Below w4.heap.size w4 w3':=((hbel.trans (hb1.mono hsz)).trans (hb2'.mono (by omega))).trans hb3);(have q2:w3'.cell? ⟨g,2,none⟩=some (.slice (M kV).A (M kV).n (M kV).c):=HR.1.cell 2);(have f2:w3'.frozen? ⟨g,2,none⟩=false:=HR.1.frozen 2);(have q3:=bc hb3 q3 hwlt);(have q1:=bc hb3 q1 hb24))
        refine hK.out _ _ ?hS43 (fun hHeld=>?rest43)
        case hS43=>(first | exact ⟨q2,q3,q1⟩ | assumption | go_keep)
        clear hK K
        try simp only [Act.put,sp]
        refine tk 10 rfl ?_
        try simp only [Act.put,sp]
        refine wpAnyH_done (by kernel_rfl) ?_ _
        unfold AheadOf
        go_simp
        obtain ⟨w5,hw5⟩:∃ y:World,y=w3'.setCell ⟨g,2,none⟩ (.slice A' ((M kV).n + 1) c'):=⟨_,rfl⟩
        rw [← hw5]
        obtain ⟨M',hF',hL',hM'⟩:=HR.2 w5 hw5
        have hb5:Below w4.heap.size w4 w5:=by rw [hw5];exact hT3.setCell (p:=⟨g,2,none⟩) hlo.1 _
        have HX:=Lib.hid (And.intro hb5 (And.intro hF' (And.intro hL' hM')))
        clear hw5 hb5 hF' hL' hM' HR hT3 q1 q2 q3
        (try go_wp2_with fail)
        go_meet
        case rel=>exact ⟨M',rfl,HX.out.1,HX.out.2.1,HX.out.2.2.1,HX.out.2.2.2⟩
       case rest =>
        clear hF hL hM hbel M
        obtain ⟨M,rfl,hbel,hF,hL,hM⟩:=hcut
        go_upto_region 11 with fail
        go_cut [15] from 66 to 76 (fun u wx=>∃ M':Key→Lst,u=.int .i64 (j:Nat)∧Below w4.heap.size w4 wx∧Fam wx w4.heap.size M'∧Link M' N T (j + 1) (j + 1) j∧BoxM M' g N.name)
        case first=>as_aux_lemma =>
         have hjl:j < N.parents.length:=by have:=HLN.out;omega
         have hNr:NetAt wc N A1 A2 A3 A4 c1 c2 c3 c4:=(show NetAt w4 N A1 A2 A3 A4 c1 c2 c3 c4 from (bg HG)).below (Nat.le_refl _) hbel
         have hbz:(nth N.parents j).length≤1048576:=hB.par _ (nth_mem (by omega))
         obtain ⟨b2,off2,B2,m2,d2,eA,hb2,q1,hsl,_⟩:=hNr.n3.rowC (i:=j) (by omega)
         have hb24:b2 < w4.heap.size:=by
          obtain ⟨b3,_,_,_,_,e3,hb3',_⟩:=(show NetAt w4 N A1 A2 A3 A4 c1 c2 c3 c4 from (bg HG)).n3.rowC (i:=j) (by omega)
          rw [eA] at e3
          injection e3 with e3
          injection e3 with e3
          omega
         subst eA
         have hm2:=hsl.len
         have hq8:(0 + m2) * 8≤140737488355328:=by omega
         have hlo:=hM.lt hF
         have hsz:=hbel.size
         have rb:RowC wc g 27 (boxCs M N.name):=hM.row' rfl hF
         have q2:wc.cell? ⟨g,3,none⟩=some (.slice (M kP).A (M kP).n (M kP).c):=rb.cell 3
         have rn:RowC wc w.heap.size 27 [.string N.name,.slice A1 N.names.length c1,.slice A2 N.values.length c2,.slice (some ⟨b2,off2,none⟩) N.parents.length c3,.slice A4 N.tables.length c4]:=(show RowC w4 _ _ _ from (bg HG)).below' hbel
         have q3:wc.cell? ⟨w.heap.size,3,none⟩=some (.slice (some ⟨b2,off2,none⟩) N.parents.length c3):=rn.cell 3
         have HNK:=Lib.hid hL.pars.out.n
         have hlj:(j:Int) < (N.parents.length:Int):=by omega
         have hwlt:w.heap.size < w4.heap.size:=(show RowC w4 w.heap.size _ _ from (bg HG)).lt
         refine wp_region_lastL (S:=fun w'=>w'.cell? ⟨g,3,none⟩=some (.slice (M kP).A (M kP).n (M kP).c)∧w'.cell? ⟨w.heap.size,3,none⟩=some (.slice (some ⟨b2,off2,none⟩) N.parents.length c3)∧w'.cell? ⟨b2,off2 + j,none⟩=some (.slice B2 m2 d2)) 11 11 (by kernel_rfl) rfl rfl rfl (by kernel_rfl) ?hS45 (fun hHeld=>?rest45)
         case hS45=>(first | exact ⟨q2,q3,q1⟩ | assumption | go_keep)
         refine tk 0 rfl ?_
         try simp only [Act.put,sp]
         refine tk 1 rfl ?_
         try simp only [Act.put,sp]
         refine tk 2 rfl ?_
         try simp only [Act.put,sp]
         refine tk 3 rfl ?_
         try simp only [Act.put,sp]
         refine tk 4 rfl ?_
         try simp only [Act.put,sp]
         refine tk 5 rfl ?_
         try simp only [Act.put,sp]
         refine tk 6 rfl ?_
         try simp only [Act.put,sp]
         refine wpAnyH_ready (rs:=[7]) (by kernel_rfl) (by simp) (consL rfl (fun K hK=>?step53))
         (refine step_appR _ eiNum (Value.int .i64) (fun _=>rfl) (by rfl) (.const (.slice none 0 0)) (.tmp 72) (by rfl) wc.heap.size none 0 0 [] (by rfl) (OwnR.nil _ _ _ _) B2 m2 d2 (nth N.parents j) (by rfl) (hsl.drewN 1) hq8 (Nat.le_refl _) ?_;(rw [Nat.zero_add]);(intro C9 k9 w9 ho9 _ hb9 _);(have hb1:Below wc.heap.size wc w9:=(below_refl_drewN _ _ 1).trans hb9);(have ho9:OwnR (Value.int .i64) w9 wc.heap.size 3 C9 m2 k9 (nth N.parents j):=ho9);(clear hb9);(have q2:=bc hb1 q2 hlo.2);(have q3:=bc hb1 q3 rn.lt);(have q1:=bc hb1 q1 hb2))
         refine hK.out _ _ ?hS53 (fun hHeld=>?rest53)
         case hS53=>(first | exact ⟨q2,q3,q1⟩ | assumption | go_keep)
         clear hK K
         try simp only [Act.put,sp]
         refine wpAnyH_ready (rs:=[8]) (by kernel_rfl) (by simp) (consL rfl (fun K hK=>?step54))
         (go_simp;(obtain ⟨yb,hyb⟩:∃ y,y=w9.alloc (.cells #[.slice C9 m2 k9] 53):=⟨_,rfl⟩);(rw [← hyb]);(have hb2':Below w9.heap.size w9 yb:=by rw [hyb];exact (Below.refl _ _).alloc (Nat.le_refl _) _);(have hnew:∀ q u,[Value.slice C9 m2 k9][q]?=some u→yb.cell? ((⟨w9.heap.size,0,none⟩:Addr).add q)=some u:=by rw [hyb];exact newCells w9 53 [.slice C9 m2 k9]);(clear hyb);(have hsz9:=hb1.size);(have q2:=(hb2'.cell (p:=⟨g,3,none⟩) (Nat.lt_of_lt_of_le hlo.2 hsz9)).trans q2);(have q3:=(hb2'.cell (p:=⟨w.heap.size,3,none⟩) (Nat.lt_of_lt_of_le rn.lt hsz9)).trans q3);(have q1:=(hb2'.cell (p:=⟨b2,off2 + j,none⟩) (Nat.lt_of_lt_of_le hb2 hsz9)).trans q1))
         refine hK.out _ _ ?hS54 (fun hHeld=>?rest54)
         case hS54=>(first | exact ⟨q2,q3,q1⟩ | assumption | go_keep)
         clear hK K
         try simp only [Act.put,sp]
         refine wpAnyH_ready (rs:=[9]) (by kernel_rfl) (by simp) (consL rfl (fun K hK=>?step55))
         (refine step_app_raw _ (L:=M kP) (t:=24) (z:=.slice none 0 0) (bytes:=24) (by rw [hL.pars.out.e,hL.pars.out.s];exact eimII) (by rfl) (.tmp 67) (.tmp 74) (by rfl) w4.heap.size (by rfl) (((hF.below hb1).below hb2').own kP) ⟨w9.heap.size,0,none⟩ 1 1 [.slice C9 m2 k9] (by rfl) (by rw [hL.pars.out.s];rfl) hnew (by simp [Value.oneCell']) (by have:=HNK.out;omega) (by have:=hb2'.size;omega) (by omega) ?_;(intro A' c' w3' ho3 hg3 hb3 hd3);(have HR:=roundP hF hL hM hsz (hsl.len.symm) hb1 ho9 hb2' hg3 ho3 hd3);(have hT3:Below w4.heap.size w4 w3':=((hbel.trans (hb1.mono hsz)).trans (hb2'.mono (by omega))).trans hb3);(have q2:w3'.cell? ⟨g,3,none⟩=some (.slice (M kP).A (M kP).n (M kP).c):=HR.1.cell 3);(have f2:w3'.frozen? ⟨g,3,none⟩=false:=HR.1.frozen 3);(have q3:=bc hb3 q3 hwlt);(have q1:=bc hb3 q1 hb24))
         refine hK.out _ _ ?hS55 (fun hHeld=>?rest55)
         case hS55=>(first | exact ⟨q2,q3,q1⟩ | assumption | go_keep)
         clear hK K
         try simp only [Act.put,sp]
         refine tk 10 rfl ?_
         try simp only [Act.put,sp]
         refine wpAnyH_done (by kernel_rfl) ?_ _
         unfold AheadOf
         go_simp
         obtain ⟨w5,hw5⟩:∃ y:World,y=w3'.setCell ⟨g,3,none⟩ (.slice A' ((M kP).n + 1) c'):=⟨_,rfl⟩
         rw [← hw5]
         obtain ⟨M',hF',hL',hM'⟩:=HR.2 w5 hw5
         have hb5:Below w4.heap.size w4 w5:=by rw [hw5];exact hT3.setCell (p:=⟨g,3,none⟩) hlo.1 _
         have HX:=Lib.hid (And.intro hb5 (And.intro hF' (And.intro hL' hM')))
         clear hw5 hb5 hF' hL' hM' HR hT3 q1 q2 q3
         (try go_wp2_with fail)
         go_meet
         case rel=>exact ⟨M',rfl,HX.out.1,HX.out.2.1,HX.out.2.2.1,HX.out.2.2.2⟩
        case rest =>
         clear hF hL hM hbel M
         obtain ⟨M,rfl,hbel,hF,hL,hM⟩:=hcut
         have hjt:j < N.tables.length:=by have:=HLN.out;omega
         have hN4:NetAt w4 N A1 A2 A3 A4 c1 c2 c3 c4:=(bg HG)
         have hlj:(j:Int) < (N.tables.length:Int):=by omega
         obtain ⟨b4,off4,B4,m4,d4,rfl,hb44,q14,hrow,_⟩:=hN4.n4.row hjt
         have q1:=bc hbel q14 hb44
         clear q14 hN4
         have htb:=hB.tab _ (nth_mem hjt)
         have hm4:=hrow.len
         have HMB:=Lib.hid (And.intro htb hm4)
         have hsz:=hbel.size
         have rn:RowC wc w.heap.size 27 [.string N.name,.slice A1 N.names.length c1,.slice A2 N.values.length c2,.slice A3 N.parents.length c3,.slice (some ⟨b4,off4,none⟩) N.tables.length c4]:=(show RowC w4 _ _ _ from (bg HG)).below' hbel
         have r4:=rn.cell 4
         obtain ⟨M',hF',hL',hM',hT',hv'⟩:=round0 hF hL hM
         clear hF hL hM M rn htb hm4
         have HR0:=Lib.hid (And.intro hF' (And.intro hL' (And.intro hM' (And.intro hT' hv'))))
         have HROW:=Lib.hid hrow
         clear hF' hL' hM' hT' hv' hrow
         have hmm:m4≤1048576:=by have:=HMB.out;omega
         go_wp2_with fail
         go_loopw [16,83] (fun s i wr=>∃ (q:Nat) (M:Key→Lst),q≤m4∧i=.int .i64 (q:Nat)∧s=.slice (M (kt j)).A (M (kt j)).n (M (kt j)).c∧Below w4.heap.size w4 wr∧Fam wr w4.heap.size M∧Link M N T (j + 1) (j + 1) j∧BoxM M g N.name∧Tab M T j q) (fun _ i _=>m4 - (intOf i).toNat)
         case atStart=>exact ⟨0,M',by omega,rfl,HR0.out.2.2.2.2.symm,hbel,HR0.out.1,HR0.out.2.1,HR0.out.2.2.1,HR0.out.2.2.2.1⟩
         case round =>
          clear hbel r4 q1 HR0 M'
          obtain ⟨q,M,hq,rfl,rfl,hbel,hF,hL,hM,hTb⟩:=hrel
          by_cases hqn:q < m4
          case pos=>as_aux_lemma =>
           have hd2:decide ((q:Int) < (m4:Int))=true:=decide_eq_true (by omega)
           obtain ⟨b5,off5,hd5,rfl,hb5,g0,g1,g2',hraw⟩:=(HROW.out.below (Nat.le_refl _) hbel).at hqn
           have hsz5:(nth (nth N.tables j) q).sz≤8388608:=by have h1:=HMB.out.1.2;have h2:=totTo_at (nth N.tables j) (i:=q) (j:=(nth N.tables j).length) (by have:=HMB.out.2;omega);omega
           have hRA:RatAt wr (.agg #[.bool hd5.neg,.slice hd5.A hd5.n hd5.c,.slice hd5.D hd5.k hd5.e]) (nth (nth N.tables j) q).q (nth (nth N.tables j) q).sz:=hraw.at
           have hTq:T j q=(nth (nth N.tables j) q).q:=by rw [HT.out];exact stepQ_zero _ _ _ _ _ _ _
           have hnT:(M (kt j)).n=q:=hTb.row.n
           obtain ⟨y1,hy1⟩:∃ y,y=wr.alloc (.cells #[.bool hd5.neg,.slice hd5.A hd5.n hd5.c,.slice hd5.D hd5.k hd5.e] 36):=⟨_,rfl⟩
           have hb1:Below wr.heap.size wr y1:=by rw [hy1];exact (Below.refl _ _).alloc (Nat.le_refl _) _
           have hadd:=frac_add _ _ _ 0 _ 0 y1 (hRA.below (Nat.le_refl _) hb1) (ratAt_zero y1) (by omega)
           rw [Rat.add_zero,← hTq] at hadd
           have hsz1:=hbel.size
           have HK:=Lib.hid (And.intro hbel (And.intro hb1 (And.intro hnT (And.intro hTb hsz5))))
           have HFF:=Lib.hid (And.intro (hF.below hb1) (And.intro hL hM))
           have hbx:RowC y1 wr.heap.size 36 [.bool hd5.neg,.slice hd5.A hd5.n hd5.c,.slice hd5.D hd5.k hd5.e]:=by rw [hy1];exact heap_alloc_new _ _
           have x0:=hbx.cell 0
           have x1:=hbx.cell 1
           have x2:=hbx.cell 2
           clear hb1 hbel hTb hnT hF hL hM hsz5 hbx hTq hRA hraw hb5
           go_upto_region 16 with fail
           rw [← hy1]
           clear hy1 g0 g1 g2'
           go_wp2_with fail
           refine hadd.mono ?_
           rintro e1 y2 ⟨R,c5,D5,d5,rfl,h1,h2,hs,hb2⟩
           have hsz2:=hb2.size
           have hnew:=newCells y2 36 (rhL R c5 D5 d5 (T j q)).cells
           have hb3:Below y2.heap.size y2 (y2.alloc (.cells (rhL R c5 D5 d5 (T j q)).cells.toArray 36)):=(Below.refl _ _).alloc (Nat.le_refl _) _
           have hsz3:=hb3.size
           have hw4y:w4.heap.size≤(y2.alloc (.cells (rhL R c5 D5 d5 (T j q)).cells.toArray 36)).heap.size:=by have:=HK.out.2.1.size;omega
           have hown:=((HFF.out.1.below hb2).below hb3).own (kt j)
           have hI:EIM Tryz.prog 45 (M (kt j)).e (.agg #[.bool false,.slice none 0 0,.slice none 0 0]) (M (kt j)).s 56:=by rw [HK.out.2.2.2.1.row.e,HK.out.2.2.2.1.row.s];exact eiRat
           have hl3:(rhL R c5 D5 d5 (T j q)).cells.length=1 * (M (kt j)).s:=by rw [HK.out.2.2.2.1.row.s];rfl
           have hby:((M (kt j)).n + 1) * 56≤140737488355328:=by have:=HK.out.2.2.1;omega
           unfold rhL RH.cells at hnew hl3 hown hw4y hb3
           have HH:=Lib.hid (And.intro hI (And.intro hl3 (And.intro hnew (And.intro hby (And.intro hown (And.intro hw4y hb3))))))
           clear hadd x0 x1 x2 hI hl3 hnew hby hown hw4y hb3 hsz3
           go_wp2_with (first | (at_builtin;go_loud (refine wpList_app_raw _ (L:=M (kt j)) HH.out.1 rfl _ _ rfl w4.heap.size rfl HH.out.2.2.2.2.1 ⟨y2.heap.size,0,none⟩ 1 1 _ rfl HH.out.2.1 HH.out.2.2.1 (by simp [Value.oneCell']) HH.out.2.2.2.1 HH.out.2.2.2.2.2.1 (by omega) ?_)) | fail)
           intro A' c' y4 ho4 hg4 hb4' hd4
           have hs1:=HK.out.2.1.size
           have hbel4:Below w4.heap.size w4 y4:=(((HK.out.1.trans (HK.out.2.1.mono hsz1)).trans (hb2.mono (by omega))).trans (HH.out.2.2.2.2.2.2.mono (by omega))).trans hb4'
           obtain ⟨M',hF',hL',hM',hT',hv'⟩:=roundN HFF.out.1 HFF.out.2.1 HFF.out.2.2 HK.out.2.2.2.1 (by omega) hb2 h1 h2 hs HH.out.2.2.2.2.2.2 hg4 ho4 (hd4.imp_right fun h=>h.trans (by simp))
           have HX:=Lib.hid (And.intro hbel4 (And.intro hF' (And.intro hL' (And.intro hM' (And.intro hT' hv')))))
           clear hbel4 hF' hL' hM' hT' hv' ho4 hg4 hb4' hd4 hb2 h1 h2 hs
           go_wp2_with fail
           exact ⟨⟨q + 1,M',by omega,by go_num,HX.out.2.2.2.2.2.symm,HX.out.1,HX.out.2.1,HX.out.2.2.1,HX.out.2.2.2.1,HX.out.2.2.2.2.1⟩,by simp [intOf];omega⟩
          case neg=>as_aux_lemma =>
           obtain rfl:m4=q:=by omega
           have hnT:(M kT).n=j:=hL.tO.n
           have hlo:=hM.lt hF
           have hszr:=hbel.size
           have hbx:=hM.row' rfl hF
           have x4:wr.cell? ⟨g,4,none⟩=some (.slice (M kT).A (M kT).n (M kT).c):=hbx.cell 4
           have hnew:=newCells wr 45 [(M (kt j)).val]
           have hb3:Below wr.heap.size wr (wr.alloc (.cells [(M (kt j)).val].toArray 45)):=(Below.refl _ _).alloc (Nat.le_refl _) _
           have hw4y:w4.heap.size≤(wr.alloc (.cells [(M (kt j)).val].toArray 45)).heap.size:=by have:=hb3.size;omega
           have hown:=(hF.below hb3).own kT
           have hI:EIM Tryz.prog 25 (M kT).e (.slice none 0 0) (M kT).s 24:=by rw [hL.tO.e,hL.tO.s];exact eimRR
           have hl3:[(M (kt j)).val].length=1 * (M kT).s:=by rw [hL.tO.s];rfl
           have hby:((M kT).n + 1) * 24≤140737488355328:=by omega
           have hTm:Tab M T j (nth N.tables j).length:=by rw [HMB.out.2];exact hTb
           have HH:=Lib.hid (And.intro hI (And.intro hl3 (And.intro hnew (And.intro hby (And.intro hown (And.intro hw4y hb3))))))
           unfold Lst.val at HH
           have HFF:=Lib.hid (And.intro hF (And.intro hL (And.intro hM (And.intro hTm (And.intro hbel hlo)))))
           clear hI hl3 hnew hby hown hw4y hb3 hTb hF hL hM hTm hnT hbel hlo hbx hq
           go_wp2_with (first | (at_builtin;go_loud (refine wpList_app_raw _ (L:=M kT) HH.out.1 rfl _ _ rfl w4.heap.size rfl HH.out.2.2.2.2.1 ⟨wr.heap.size,0,none⟩ 1 1 _ rfl HH.out.2.1 HH.out.2.2.1 (by simp [Value.oneCell']) HH.out.2.2.2.1 HH.out.2.2.2.2.2.1 (by omega) ?_)) | fail)
           intro A' c' y4 ho4 hg4 hb4' hd4
           have HR:=roundT HFF.out.1 HFF.out.2.1 HFF.out.2.2.1 HFF.out.2.2.2.1 HH.out.2.2.2.2.2.2 hg4 ho4 (hd4.imp_right fun h=>h.trans (by simp))
           have hbel4:Below w4.heap.size w4 y4:=(HFF.out.2.2.2.2.1.trans (HH.out.2.2.2.2.2.2.mono hszr)).trans hb4'
           have x4:y4.cell? ⟨g,4,none⟩=some (.slice (M kT).A (M kT).n (M kT).c):=HR.1.cell 4
           have f4:y4.frozen? ⟨g,4,none⟩=false:=HR.1.frozen 4
           obtain ⟨y5,hy5⟩:∃ y:World,y=y4.setCell ⟨g,4,none⟩ (.slice A' ((M kT).n + 1) c'):=⟨_,rfl⟩
           obtain ⟨M',hF',hL',hM'⟩:=HR.2 y5 hy5
           have hbel5:Below w4.heap.size w4 y5:=by rw [hy5];exact hbel4.setCell (p:=⟨g,4,none⟩) HFF.out.2.2.2.2.2.1 _
           have HX:=Lib.hid (And.intro hbel5 (And.intro hF' (And.intro hL' hM')))
           rw [hy5] at HX
           clear hbel5 hF' hL' hM' HR hy5 hbel4 ho4 hg4 hb4' hd4
           go_wp2_with fail
           exact ⟨⟨j + 1,M',by omega,by go_num,HX.out.1,HX.out.2.1,HX.out.2.2.1,HX.out.2.2.2⟩,by simp [intOf];omega⟩
      case neg =>
       obtain rfl:N.names.length=j:=by omega
       have HPK:=HPO.out
       have hvt:v < N.tables.length:=by have:=HPK.lt;have:=HLN.out;omega
       have hvn:v < N.names.length:=HPK.lt
       have hwz:nth N.Z v≤1048576:=hB.z v
       have hN4:NetAt w4 N A1 A2 A3 A4 c1 c2 c3 c4:=(bg HG)
       have hlj:(v:Int) < (N.tables.length:Int):=by omega
       obtain ⟨b4,off4,B4,m4,d4,rfl,hb44,q14,hrow,_⟩:=hN4.n4.row hvt
       have q1:=bc hbel q14 hb44
       clear q14 hN4
       have htb:=hB.tab _ (nth_mem hvt)
       have hm4:=hrow.len
       have rn:RowC wr w.heap.size 27 [.string N.name,.slice A1 N.names.length c1,.slice A2 N.values.length c2,.slice A3 N.parents.length c3,.slice (some ⟨b4,off4,none⟩) N.tables.length c4]:=(show RowC w4 _ _ _ from (bg HG)).below' hbel
       have r4:=rn.cell 4
       have rp:RowC w4 g2 56 [.int .i64 (v:Int),.int .i64 ((row:Int) * ((nth N.Z v:Nat):Int) + (value:Int)),.int .i64 ((row:Int) * ((nth N.Z v:Nat):Int)),.int .i64 ((nth N.Z v:Nat):Int)]:=(bg HG)
       have hrwr:=hrow.below (Nat.le_refl _) hbel
       have hlines:=lines_any N v row value HPK B4 m4 d4 wr.drew (hrwr.below (Nat.le_refl _) (below_refl_drewN _ _ 1)) (by rw [← hm4];exact htb.2) hwz
       rw [Int.natCast_add,Int.natCast_mul] at hlines
       have rpr:=rp.below' hbel
       have p0:=rpr.cell 0
       have p1:=rpr.cell 1
       have p2:=rpr.cell 2
       have p3:=rpr.cell 3
       have hszr:=hbel.size
       have HBW:=Lib.hid (And.intro hbel (And.intro hF (And.intro hL (And.intro hM (And.intro rp (And.intro htb hm4))))))
       clear hbel hF hL hM rp rn htb hm4 HPK hrwr
       go_upto_region 20 with fail
       go_cut [107,108,109] from 101 to 109 (fun s l i wx=>∃ gl cs,s=.slice (some ⟨gl,0,none⟩) (nth N.Z v) (nth N.Z v)∧l=.int .i64 ((nth N.Z v:Nat):Int)∧i=.int .i64 0∧wr.heap.size≤gl∧LinesTo wx gl cs N v row value (nth N.Z v)∧Below wr.heap.size wr wx)
       case first=>as_aux_lemma =>
        have hwl:w.heap.size < wr.heap.size:=Nat.lt_of_lt_of_le (show RowC w4 w.heap.size _ _ from (bg HG)).lt hszr
        have hbl4:b4 < wr.heap.size:=by omega
        refine wp_region_held_drew (S:=fun w'=>w'.cell? ⟨g2,0,none⟩=some (.int .i64 (v:Int))∧w'.cell? ⟨g2,1,none⟩=some (.int .i64 ((row:Int) * ((nth N.Z v:Nat):Int) + (value:Int)))∧w'.cell? ⟨g2,2,none⟩=some (.int .i64 ((row:Int) * ((nth N.Z v:Nat):Int)))∧w'.cell? ⟨g2,3,none⟩=some (.int .i64 ((nth N.Z v:Nat):Int))∧w'.cell? ⟨w.heap.size,4,none⟩=some (.slice (some ⟨b4,off4,none⟩) N.tables.length c4)∧w'.cell? ⟨b4,off4 + v,none⟩=some (.slice B4 m4 d4)) (by kernel_rfl) ?hS57 (fun hHeld=>?rest57)
        case hS57=>(first | exact ⟨p0,p1,p2,p3,r4,q1⟩ | assumption | go_keep)
        refine tk 0 rfl ?_
        try simp only [Act.put,sp]
        refine tk 1 rfl ?_
        try simp only [Act.put,sp]
        refine tk 2 rfl ?_
        try simp only [Act.put,sp]
        refine tk 3 rfl ?_
        try simp only [Act.put,sp]
        refine tk 4 rfl ?_
        try simp only [Act.put,sp]
        refine tk 5 rfl ?_
        try simp only [Act.put,sp]
        refine tk 8 rfl ?_
        try simp only [Act.put,sp]
        refine wpAnyH_ready (rs:=[6]) (by kernel_rfl) (by simp) (consL rfl (fun K hK=>?step65))
        (go_simp;(refine hlines.mono ?_);(rintro e1 w8 ⟨gl,cs,rfl,hgl,hLn,hb8⟩);(have hbw:Below wr.heap.size wr w8:=(below_refl_drewN _ _ 1).trans hb8);(have p0:=bc hbw p0 (rpr.lt));(have p1:=bc hbw p1 (rpr.lt));(have p2:=bc hbw p2 (rpr.lt));(have p3:=bc hbw p3 (rpr.lt));(have r4:=bc hbw r4 hwl);(have q1:=bc hbw q1 hbl4))
        refine hK.out _ _ ?hS65 (fun hHeld=>?rest65)
        case hS65=>(first | exact ⟨p0,p1,p2,p3,r4,q1⟩ | assumption | go_keep)
        clear hK K
        try simp only [Act.put,sp]
        refine tk 7 rfl ?_
        try simp only [Act.put,sp]
        refine wpAnyH_done (by kernel_rfl) ?_ _
        go_simp
        (try go_wp2_with fail)
        go_meet
        case rel=>exact ⟨gl,cs,rfl,rfl,rfl,hgl,hLn,hbw⟩
       case rest =>
        obtain ⟨gl,cs,rfl,rfl,rfl,hgl,hLn,hbw⟩:=hcut
        have hbel:Below w4.heap.size w4 wc:=HBW.out.1.trans (hbw.mono hszr)
        have hF:=HBW.out.2.1.below hbw
        have hL:=HBW.out.2.2.1
        have hM:=HBW.out.2.2.2.1
        have HT6:=HBW.out.2.2.2.2.2
        have hfit:=HPO.out.fits
        have hZ2:=HPO.out.wide
        have hTl:=(hL.tab v hvn).row.n
        have hrA:=(hF.own (kt v)).addr
        obtain ⟨gt,hgA,hgB⟩:∃ gt,(M (kt v)).A=some ⟨gt,0,none⟩∧gt < gl:=by
         rcases hrA with ⟨_,h1,_⟩ | ⟨gt,h1,h2,_⟩
         ·omega
         ·exact ⟨gt,h1,by have:=(HBW.out.2.1.lt h2).2;omega⟩
        rw [HT.out] at hL
        have HGA:=Lib.hid hgA
        have HFT:=Lib.hid (And.intro hfit hgB)
        have HS:=Lib.hid (And.intro hbel (And.intro hF (And.intro hL (And.intro hM hLn))))
        clear hgA hgB hfit hTl hrA hF hL hM HT6 hbel hLn HBW HT hbw q1 r4 p0 p1 p2 p3 rpr hlines
        go_wp2_with fail
        go_loopw [109] (fun i wr=>∃ (k:Nat) (M:Key→Lst),k≤nth N.Z v∧i=.int .i64 (k:Nat)∧Below w4.heap.size w4 wr∧Fam wr w4.heap.size M∧Link M N (stepQ N v row value x k) N.names.length N.names.length N.names.length∧BoxM M g N.name∧LinesTo wr gl cs N v row value (nth N.Z v)∧(M (kt v)).A=some ⟨gt,0,none⟩) (fun i _=>nth N.Z v - (intOf i).toNat)
        case atStart=>exact ⟨0,M,by omega,rfl,HS.out.1,HS.out.2.1,HS.out.2.2.1,HS.out.2.2.2.1,HS.out.2.2.2.2,HGA.out⟩
        case round =>
         clear HS HGA M
         obtain ⟨k,M,hk,rfl,hbel,hF,hL,hM,hLn,hgA⟩:=hrel
         by_cases hkz:k < nth N.Z v
         case pos =>
          have hd3:decide ((k:Int) < ((nth N.Z v:Nat):Int))=true:=decide_eq_true (by omega)
          obtain ⟨ha,hb,hcs,hqa,hqb⟩:=hLn.at' k hkz
          have l0:wr.cell? ⟨gl,k * 6,none⟩=some (.bool ha.neg):=by rw [hLn.box.cell];exact hcs 0 (by omega)
          have l1:wr.cell? ⟨gl,k * 6 + 1,none⟩=some (.slice ha.A ha.n ha.c):=by rw [hLn.box.cell];exact hcs 1 (by omega)
          have l2:wr.cell? ⟨gl,k * 6 + 2,none⟩=some (.slice ha.D ha.k ha.e):=by rw [hLn.box.cell];exact hcs 2 (by omega)
          have l3:wr.cell? ⟨gl,k * 6 + 3,none⟩=some (.bool hb.neg):=by rw [hLn.box.cell];exact hcs 3 (by omega)
          have l4:wr.cell? ⟨gl,k * 6 + 4,none⟩=some (.slice hb.A hb.n hb.c):=by rw [hLn.box.cell];exact hcs 4 (by omega)
          have l5:wr.cell? ⟨gl,k * 6 + 5,none⟩=some (.slice hb.D hb.k hb.e):=by rw [hLn.box.cell];exact hcs 5 (by omega)
          have HK:=Lib.hid (And.intro hbel (And.intro hF (And.intro hL (And.intro hM (And.intro hLn (And.intro hgA (And.intro hqa hqb)))))))
          clear hbel hF hL hM hLn hgA hqa hqb hcs
          go_upto_region 23 with fail
          obtain ⟨y1,hy1⟩:∃ y,y=wr.alloc (.cells #[.bool ha.neg,.slice ha.A ha.n ha.c,.slice ha.D ha.k ha.e,.bool hb.neg,.slice hb.A hb.n hb.c,.slice hb.D hb.k hb.e] 64):=⟨_,rfl⟩
          rw [← hy1]
          obtain ⟨hbel,hF,hL,hM,hLn,hgA,hqa,hqb⟩:=HK.out
          have hb1:Below wr.heap.size wr y1:=by rw [hy1];exact (Below.refl _ _).alloc (Nat.le_refl _) _
          have hsb:RowC y1 wr.heap.size 64 [.bool ha.neg,.slice ha.A ha.n ha.c,.slice ha.D ha.k ha.e,.bool hb.neg,.slice hb.A hb.n hb.c,.slice hb.D hb.k hb.e]:=by rw [hy1];exact heap_alloc_new _ _
          have hszw:=hbel.size
          have hbel1:=hbel.trans (hb1.mono hszw)
          have hF1:=hF.below hb1
          have hLn1:=hLn.below hb1
          have hqa1:=hqa.below hb1
          have hqb1:=hqb.below hb1
          clear hy1 l0 l1 l2 l3 l4 l5 hqa hqb hLn hF hbel HK
          have hgbx:=hM.lt hF1
          have hLL:=line_len HPO.out (row_len hrow (hB.tab _ (nth_mem hvt)).2) hwz hkz
          obtain ⟨gT,hgT,hgTl,xv⟩:=tab_head hF1 hL hvn
          have hTn:(M (kt v)).n=m4:=by rw [(hL.tab v hvn).row.n];exact hrow.len
          have hTc:(M (kt v)).val=.slice (some ⟨gt,0,none⟩) m4 (M (kt v)).c:=by unfold Lst.val;rw [hgA,hTn]
          rw [hTc] at xv
          obtain ⟨cT,hcT⟩:∃ q,q=(M (kt v)).c:=⟨_,rfl⟩
          rw [← hcT] at xv
          have x4:y1.cell? ⟨g,4,none⟩=some (.slice (M kT).A (M kT).n (M kT).c):=(hM.row' rfl hF1).cell 4
          rw [hgT,hL.tO.n] at x4
          obtain ⟨cTT,hcTT⟩:∃ q,q=(M kT).c:=⟨_,rfl⟩
          rw [← hcTT] at x4
          obtain ⟨fst,hfst⟩:∃ f:Nat,f=row * nth N.Z v:=⟨_,rfl⟩
          have rp:RowC y1 g2 56 [.int .i64 (v:Int),.int .i64 ((row:Int) * ((nth N.Z v:Nat):Int) + (value:Int)),.int .i64 ((row:Int) * ((nth N.Z v:Nat):Int)),.int .i64 ((nth N.Z v:Nat):Int)]:=(show RowC w4 _ _ _ from (bg HG)).below' hbel1
          have p2:y1.cell? ⟨g2,2,none⟩=some (.int .i64 (fst:Int)):=by rw [hfst,Int.natCast_mul];exact rp.cell 2
          have rx:RowC y1 (w.heap.size + 1) 36 [.bool s,.slice A n c,.slice D k' e]:=(show RowC w4 _ _ _ from (bg HG)).below' hbel1
          have hx1:RatAt y1 (.agg #[.bool s,.slice A n c,.slice D k' e]) x KX:=(show RatAt w4 _ _ _ from (bg HG)).below (Nat.le_refl _) hbel1
          have u0:=rx.cell 0
          have u1:=rx.cell 1
          have u2:=rx.cell 2
          have s0:=hsb.cell 0
          have s1:=hsb.cell 1
          have s2:=hsb.cell 2
          have s3:=hsb.cell 3
          have s4:=hsb.cell 4
          have s5:=hsb.cell 5
          obtain ⟨at',hat⟩:∃ a:Nat,a=fst + k:=⟨_,rfl⟩
          have hadd:(fst:Int) + (k:Int)=(at':Int):=by rw [hat];exact (Int.natCast_add _ _).symm
          have hatm:at' < m4:=by have h1:=HFT.out.1;have h2:=hrow.len;rw [← hfst] at h1;omega
          have hatI:(at':Int) < (m4:Int):=by omega
          have hatw:IntKind.i64.wrap (at':Int)=(at':Int):=by have:=hrow.big;rw [IntKind.wrap_i64];omega
          have hnI:(v:Int) < (N.names.length:Int):=by omega
          obtain ⟨Aq,hAq⟩:∃ q,q=lineA N v row value k:=⟨_,rfl⟩
          obtain ⟨Bq,hBq⟩:∃ q,q=lineB N v row value k:=⟨_,rfl⟩
          obtain ⟨nq,hnq⟩:∃ q,q=newQ N v row value x k:=⟨_,rfl⟩
          have hline:Aq + Bq * x=nq:=by rw [hAq,hBq,hnq];exact line_new _ _ _ _ _ _
          rw [← hAq,← hBq] at hLL
          rw [← hAq] at hqa1
          rw [← hBq] at hqb1
          have hra:RatAt y1 (.agg #[.bool ha.neg,.slice ha.A ha.n ha.c,.slice ha.D ha.k ha.e]) Aq (ratLen Aq):=hqa1.at (by omega)
          have hrb:RatAt y1 (.agg #[.bool hb.neg,.slice hb.A hb.n hb.c,.slice hb.D hb.k hb.e]) Bq (ratLen Bq):=hqb1.at (by omega)
          have hxl:=HXL.out
          have hml:=mul_len Bq x
          have HEQ:=Lib.hid (And.intro hat (And.intro hfst (And.intro hnq hline)))
          have HM:=Lib.hid (And.intro hbel1 (And.intro hF1 (And.intro hL (And.intro hM (And.intro hLn1 (And.intro hgA (And.intro hgT (And.intro hgTl hTc))))))))
          clear hat hfst hnq hline hAq hBq hbel1 hF1 hL hM hLn1 hgA hTc hgT hTn hcT hcTT hqa1 hqb1
          have hgTlt:gT < y1.heap.size:=(HM.out.2.1.lt (k:=kT) (b:=gT) (by unfold Lst.val;rw [HM.out.2.2.2.2.2.2.1];rfl)).2
          refine wp_region_lastL (S:=fun w'=>w'.cell? ⟨g,4,none⟩=some (.slice (some ⟨gT,0,none⟩) N.names.length cTT)∧w'.cell? ⟨gT,v,none⟩=some (.slice (some ⟨gt,0,none⟩) m4 cT)∧w'.cell? ⟨g2,2,none⟩=some (.int .i64 (fst:Int))∧w'.cell? ⟨wr.heap.size,0,none⟩=some (.bool ha.neg)∧w'.cell? ⟨wr.heap.size,1,none⟩=some (.slice ha.A ha.n ha.c)∧w'.cell? ⟨wr.heap.size,2,none⟩=some (.slice ha.D ha.k ha.e)∧w'.cell? ⟨wr.heap.size,3,none⟩=some (.bool hb.neg)∧w'.cell? ⟨wr.heap.size,4,none⟩=some (.slice hb.A hb.n hb.c)∧w'.cell? ⟨wr.heap.size,5,none⟩=some (.slice hb.D hb.k hb.e)∧w'.cell? ⟨w.heap.size + 1,0,none⟩=some (.bool s)∧w'.cell? ⟨w.heap.size + 1,1,none⟩=some (.slice A n c)∧w'.cell? ⟨w.heap.size + 1,2,none⟩=some (.slice D k' e)) 17 17 (by kernel_rfl) rfl rfl rfl (by kernel_rfl) ?hS67 (fun hHeld=>?rest67)
          case hS67=>(first | exact ⟨x4,xv,p2,s0,s1,s2,s3,s4,s5,u0,u1,u2⟩ | assumption | go_keep)
          refine tk 0 rfl ?_
          try simp only [Act.put,sp]
          refine tk 1 rfl ?_
          try simp only [Act.put,sp]
          refine tk 2 rfl ?_
          try simp only [Act.put,sp]
          refine tk 3 rfl ?_
          try simp only [Act.put,sp]
          refine tk 4 rfl ?_
          try simp only [Act.put,sp]
          refine tk 5 rfl ?_
          try simp only [Act.put,sp]
          refine tk 6 rfl ?_
          try simp only [Act.put,sp]
          refine tk 7 rfl ?_
          try simp only [Act.put,sp]
          refine tk 8 rfl ?_
          try simp only [Act.put,sp]
          refine tk 9 rfl ?_
          try simp only [Act.put,sp]
          refine tk 10 rfl ?_
          try simp only [Act.put,sp]
          refine tk 11 rfl ?_
          try simp only [Act.put,sp]
          refine tk 12 rfl ?_
          try simp only [Act.put,sp]
          refine tk 13 rfl ?_
          try simp only [Act.put,sp]
          refine wpAnyH_ready (rs:=[14]) (by kernel_rfl) (by simp) (consL rfl (fun K hK=>?step82))
          (go_simp;(refine (frac_mul _ _ Bq x (ratLen Bq) KX _ (hrb.below (Nat.le_refl _) (below_refl_drewN _ _ 1)) (hx1.below (Nat.le_refl _) (below_refl_drewN _ _ 1)) (by omega)).mono ?_);(intro e1 y2 hp);(obtain ⟨v2,rfl,hv2,hb2⟩:=hp.at (by omega));(have hb2:Below y1.heap.size y1 y2:=(below_refl_drewN _ _ 1).trans hb2);(have hra2:=hra.below (Nat.le_refl _) hb2);(have hs2:=hb2.size);(clear hp);(have x4:=bc hb2 x4 hgbx.2);(have xv:=bc hb2 xv hgTlt);(have p2:=bc hb2 p2 rp.lt);(have s0:=bc hb2 s0 hsb.lt);(have s1:=bc hb2 s1 hsb.lt);(have s2:=bc hb2 s2 hsb.lt);(have s3:=bc hb2 s3 hsb.lt);(have s4:=bc hb2 s4 hsb.lt);(have s5:=bc hb2 s5 hsb.lt);(have u0:=bc hb2 u0 rx.lt);(have u1:=bc hb2 u1 rx.lt);(have u2:=bc hb2 u2 rx.lt))
          refine hK.out _ _ ?hS82 (fun hHeld=>?rest82)
          case hS82=>(first | exact ⟨x4,xv,p2,s0,s1,s2,s3,s4,s5,u0,u1,u2⟩ | assumption | go_keep)
          clear hK K
          try simp only [Act.put,sp]
          refine wpAnyH_ready (rs:=[15]) (by kernel_rfl) (by simp) (consL rfl (fun K hK=>?step83))
          (go_simp;(refine (frac_add _ _ Aq (Bq * x) (ratLen Aq) (ratLen (Bq * x)) _ hra2 hv2 (by omega)).mono ?_);(rintro e1 y3 ⟨R,c5,D5,d5,rfl,h1,h2,hs,hb3⟩);(rw [HEQ.out.2.2.2] at h1 h2 ⊢);(have hbw:Below y1.heap.size y1 y3:=hb2.trans (hb3.mono hs2));(have HQ:=Lib.hid (And.intro (h1.mono hs2) (And.intro (h2.mono hs2) (And.intro hs hbw))));(have x4:=bc hb3 x4 (Nat.lt_of_lt_of_le (hgbx.2) hs2));(have xv:=bc hb3 xv (Nat.lt_of_lt_of_le (hgTlt) hs2));(have p2:=bc hb3 p2 (Nat.lt_of_lt_of_le (rp.lt) hs2));(have s0:=bc hb3 s0 (Nat.lt_of_lt_of_le (hsb.lt) hs2));(have s1:=bc hb3 s1 (Nat.lt_of_lt_of_le (hsb.lt) hs2));(have s2:=bc hb3 s2 (Nat.lt_of_lt_of_le (hsb.lt) hs2));(have s3:=bc hb3 s3 (Nat.lt_of_lt_of_le (hsb.lt) hs2));(have s4:=bc hb3 s4 (Nat.lt_of_lt_of_le (hsb.lt) hs2));(have s5:=bc hb3 s5 (Nat.lt_of_lt_of_le (hsb.lt) hs2));(have u0:=bc hb3 u0 (Nat.lt_of_lt_of_le (rx.lt) hs2));(have u1:=bc hb3 u1 (Nat.lt_of_lt_of_le (rx.lt) hs2));(have u2:=bc hb3 u2 (Nat.lt_of_lt_of_le (rx.lt) hs2));(clear h1 h2 hs hb3 hv2 hra2 hbw))
          refine hK.out _ _ ?hS83 (fun hHeld=>?rest83)
          case hS83=>(first | exact ⟨x4,xv,p2,s0,s1,s2,s3,s4,s5,u0,u1,u2⟩ | assumption | go_keep)
          clear hK K
          try simp only [Act.put,sp]
          refine tk 16 rfl ?_
          try simp only [Act.put,sp]
          refine wpAnyH_done (by kernel_rfl) ?_ _
          unfold AheadOf
          have hRS:=roundS (T':=stepQ N v row value x (k + 1)) (v:=v) (at':=at') (q:=nq) HM.out.2.1 HM.out.2.2.1 HM.out.2.2.2.1 hvn (by rw [hrow.len];exact hatm) HM.out.1.size HQ.out.2.2.2 HQ.out.1 HQ.out.2.1 HQ.out.2.2.1 (by rw [HEQ.out.1,HEQ.out.2.1,HEQ.out.2.2.1];exact stepQ_at _ _ _ _ _ _) (fun i j hij=>by
           by_cases hi:i=v
           ·subst hi
            exact stepQ_else (by have h1:=HEQ.out.1;have h2:=HEQ.out.2.1;omega)
           ·exact stepQ_other hi j)
          obtain ⟨gt2,cs2,hA2,hgtl,hrT,hlT,hR2⟩:=hRS
          obtain rfl:gt=gt2:=by have h1:=HM.out.2.2.2.2.2.1;rw [h1] at hA2;injection hA2 with hA2;injection hA2
          refine wp_store_row 36 (.tmp 130) (.tmp 129) rfl gt (at' * 3) (rhL R c5 D5 d5 nq).cells rfl rfl hrT hlT (by kernel_rfl) (by simp [rhL,RH.cells,Value.oneCell']) ?_
          intro w7 hw7
          obtain ⟨M7,hF7,hL7,hM7,hv7⟩:=hR2 w7 hw7
          have hA7:(M7 (kt v)).A=some ⟨gt,0,none⟩:=by
           have h1:=hv7.trans HM.out.2.2.2.2.2.2.2.2
           unfold Lst.val at h1
           injection h1
          have hbel7:Below w4.heap.size w4 w7:=by rw [hw7];exact belowS (HM.out.1.trans (HQ.out.2.2.2.mono HM.out.1.size)) hgtl _ _
          have hLn7:LinesTo w7 gl cs N v row value (nth N.Z v):=by rw [hw7];exact (HM.out.2.2.2.2.1.below HQ.out.2.2.2).farS HFT.out.2 _ _
          have HX:=Lib.hid (And.intro hbel7 (And.intro hF7 (And.intro hL7 (And.intro hM7 (And.intro hLn7 hA7)))))
          clear hbel7 hF7 hL7 hM7 hLn7 hA7 hv7 hw7 hR2 hrT hlT hA2 hHeld x4 xv p2 s0 s1 s2 s3 s4 s5 u0 u1 u2
          go_wp2_with fail
          exact ⟨⟨k + 1,M7,by omega,by go_num,HX.out.1,HX.out.2.1,HX.out.2.2.1,HX.out.2.2.2.1,HX.out.2.2.2.2.1,HX.out.2.2.2.2.2⟩,by simp [intOf];omega⟩
         case neg =>
          obtain rfl:nth N.Z v=k:=by omega
          rw [stepQ_all] at hL
          have hgbx:=hM.lt hF
          have hbx:=hM.row' rfl hF
          have x0:wr.cell? ⟨g,0,none⟩=some (.string N.name):=hbx.cell 0
          have x1:wr.cell? ⟨g,1,none⟩=some (.slice (M kN).A (M kN).n (M kN).c):=hbx.cell 1
          have x2:wr.cell? ⟨g,2,none⟩=some (.slice (M kV).A (M kV).n (M kV).c):=hbx.cell 2
          have x3:wr.cell? ⟨g,3,none⟩=some (.slice (M kP).A (M kP).n (M kP).c):=hbx.cell 3
          have x4:wr.cell? ⟨g,4,none⟩=some (.slice (M kT).A (M kT).n (M kT).c):=hbx.cell 4
          have hR4:RowC w4 (w.heap.size + 1 + 1) 27 [.string ⟨#[]⟩,.slice none 0 0,.slice none 0 0,.slice none 0 0,.slice none 0 0]:=(bg HG)
          have hR:=hR4.below' hbel
          have hbel0:=HG.bel.trans (hbel.mono (Nat.le_trans (Nat.le_of_lt (Nat.lt_of_le_of_lt (by omega) hR4.lt)) (Nat.le_refl _)))
          have hlo4:w.heap.size≤w4.heap.size:=by have:=hR4.lt;omega
          have hend:=end_box (w7:=wr.setCells (w.heap.size + 1 + 1) 0 (boxCs M N.name)) hR rfl hbel0 (by omega) hR4.lt hF (boxCs M N.name) rfl rfl
          have HL:=Lib.hid (And.intro hL (And.intro hend.2.1 (hend.2.2.mono hlo4)))
          have HRR:=Lib.hid hR
          have HRW:=Lib.hid hend.1
          clear hL hend hF hM hLn hgA hbx hbel0 hbel hlo4 hR4 HG
          go_wp2_with (first | refine wpL_atLoad (t:=27) rfl ?_;refine wpList_plain rfl fun K7 hK7=>?_;go_simp;refine hK7 _ _ ?_;clear hK7 K7;go_loud (refine wpL_store_row rfl _ _ _ rfl (w.heap.size + 1 + 1) 0 (boxCs M N.name) rfl rfl HRR.out (by simp [boxCs]) (by kernel_rfl) (by simp [boxCs,Value.oneCell']) ?_) | fail)
          have z0:(wr.setCells (w.heap.size + 1 + 1) 0 (boxCs M N.name)).cell? ⟨w.heap.size + 1 + 1,0,none⟩=some (.string N.name):=HRW.out.cell 0
          have z1:(wr.setCells (w.heap.size + 1 + 1) 0 (boxCs M N.name)).cell? ⟨w.heap.size + 1 + 1,1,none⟩=some (.slice (M kN).A (M kN).n (M kN).c):=HRW.out.cell 1
          have z2:(wr.setCells (w.heap.size + 1 + 1) 0 (boxCs M N.name)).cell? ⟨w.heap.size + 1 + 1,2,none⟩=some (.slice (M kV).A (M kV).n (M kV).c):=HRW.out.cell 2
          have z3:(wr.setCells (w.heap.size + 1 + 1) 0 (boxCs M N.name)).cell? ⟨w.heap.size + 1 + 1,3,none⟩=some (.slice (M kP).A (M kP).n (M kP).c):=HRW.out.cell 3
          have z4:(wr.setCells (w.heap.size + 1 + 1) 0 (boxCs M N.name)).cell? ⟨w.heap.size + 1 + 1,4,none⟩=some (.slice (M kT).A (M kT).n (M kT).c):=HRW.out.cell 4
          exact bodyPost_ret (v:=.tuple #[.agg #[.string N.name,.slice (M kN).A (M kN).n (M kN).c,.slice (M kV).A (M kV).n (M kV).c,.slice (M kP).A (M kP).n (M kP).c,.slice (M kT).A (M kT).n (M kT).c],.int .i64 0]) (by simp [results,Tryz.results8,go_sem,z0,z1,z2,z3,z4]) rfl (turn_right HE.out HL.out.2.2 HL.out.1 HLN.out.1 HLN.out.2.1 HLN.out.2.2 HL.out.2.1)
end Go.Proofs.YtmncjibcoffmfaaGreat
