/- prune.Kept's closures, walked: is a point barren; is a point apart from what is asked, a new point standing above it. Conditions: what they captured is the call's own; the parents read. -/
import Derived.Test.YtgbmnlmnhbkdbaaGreatFitsP
import Derived.Deep.RegionHeld3
set_option linter.unusedVariables false
set_option linter.unusedSimpArgs false
namespace Go.Proofs.YtgbmnlmnhbkdbaaGreat
open Go.RowKit

structure K1 (sb mb cnt:Nat) (l:List Int) (w:World):Prop where
 map:MapI Tryz.prog 3 3 w mb cnt (seenI l)
 sc:RowC w sb 50 [.map (some mb)]
theorem K1.below {sb mb cnt:Nat} {l:List Int} {w w':World} (h:K1 sb mb cnt l w) (hb:Below w.heap.size w w'):K1 sb mb cnt l w':=⟨h.map.below hb,h.sc.below' hb⟩
set_option maxRecDepth 100000 in
set_option maxHeartbeats 400000 in
theorem clo1_any (sb mb cnt:Nat) (l:List Int) (x:Int) (w:World) (h:K1 sb mb cnt l w) (hwf:(Lit.int .i64 x).wf=true) :
 Calls Tryz.prog 19 #[.int .i64 x,.pointer (some ⟨sb,0,none⟩)] w fun e w'=>e=.returned (.bool (l.contains x))∧w=w':=by
 obtain ⟨w0,hw0⟩:∃ w0:World,w0=w:=⟨_,rfl⟩
 subst hw0
 have r1:=h.sc.cell 0
 have hmap:=h.map
 have hval:=seenI_val l x
 simp only [List.getElem?_cons_zero] at r1
 clear h
 generalize hc:l.contains x=c at *
 have HH:=Lib.hid (And.intro hval hc);clear hval hc
 cases c with
 | true =>
   go_enter Tryz.func19,Tryz.ntmps19
   go_wp2_with (first
    | (at_lookup;refine wpList_look_I _ rfl _ _ 50 rfl 3 3 Tryz.underlying3 Tryz.underlying50 Tryz.underlying3 (zeroI _) mb cnt _ rfl hmap _ rfl hwf ?_;rw [HH.out.1])
    | fail)
   go_ret
   exact ⟨rfl,rfl⟩
 | false =>
   go_enter Tryz.func19,Tryz.ntmps19
   go_wp2_with (first
    | (at_lookup;refine wpList_look_I _ rfl _ _ 50 rfl 3 3 Tryz.underlying3 Tryz.underlying50 Tryz.underlying3 (zeroI _) mb cnt _ rfl hmap _ rfl hwf ?_;rw [HH.out.1])
    | fail)
   go_ret
   exact ⟨rfl,rfl⟩

structure K2 (w0:World) (rb wb nb ob gb cw:Nat) (Ps:List (List Int)) (op gv:List Int) (vs:List (Option Addr × Nat × Nat)) (rest:List Value) (O C:Option Addr) (ko co m2 d2:Nat) (w:World):Prop where
 bel:Below w0.heap.size w0 w
 hs:w0.heap.size≤rb
 row:RowAt eS w rb 23 vs rest
 len:vs.length=Ps.length + 1
 sub:∀ i,i < Ps.length + 1→Sl (Value.int .i64) w0 (nth vs i).1 (nth vs i).2.1 (nth (Ps ++ [[]]) i)∧(nth vs i).2.1≤(nth vs i).2.2
 o:OwnR (Value.int .i64) w 0 3 O ko co op
 ofar:∀ g,O=some ⟨g,0,none⟩→g ≠ rb
 g:Sl (Value.int .i64) w0 C m2 gv
 wc:RowC w wb 22 [.slice (some ⟨rb,0,none⟩) (Ps.length + 1) cw]
 nc:RowC w nb 3 [.int .i64 (Ps.length:Int)]
 oc:RowC w ob 23 [.slice O ko co]
 gc:RowC w gb 23 [.slice C m2 d2]
 n1:wb ≠ rb
 n2:nb ≠ rb
 n3:ob ≠ rb
 n4:gb ≠ rb
section
variable {w0 w w':World} {rb wb nb ob gb cw:Nat} {Ps:List (List Int)} {op gv:List Int} {vs:List (Option Addr × Nat × Nat)} {rest:List Value} {O C:Option Addr} {ko co m2 d2:Nat}
theorem K2.below (h:K2 w0 rb wb nb ob gb cw Ps op gv vs rest O C ko co m2 d2 w) (hb:Below w.heap.size w w'):K2 w0 rb wb nb ob gb cw Ps op gv vs rest O C ko co m2 d2 w':=
 ⟨h.bel.trans (hb.mono h.bel.size),h.hs,h.row.below hb h.row.lt,h.len,h.sub,h.o.below (Nat.le_refl _) hb,h.ofar,h.g,h.wc.below' hb,h.nc.below' hb,h.oc.below' hb,h.gc.below' hb,h.n1,h.n2,h.n3,h.n4⟩
theorem K2.rows (h:K2 w0 rb wb nb ob gb cw Ps op gv vs rest O C ko co m2 d2 w) {w1:World} {v:Nat} (hv:v < Ps.length) (hbig:Ps.length≤1000) {A9:Option Addr} {m9 c9:Nat} (hr:RowAt eS w1 rb 23 (vs.set v (A9,m9,c9)) rest) (hb:Below rb w w1) (ho:Sl (Value.int .i64) w1 A9 m9 (nth Ps v ++ [(Ps.length:Int)])) (hc:m9≤c9) :
 Rows (Value.int .i64) w1 (some ⟨rb,0,none⟩) (Ps.length + 1) (widerP Ps v):=by
 have hl:(vs.set v (A9,m9,c9)).length=Ps.length + 1:=by rw [List.length_set,h.len]
 refine ⟨⟨_,by have:=hr.sl (by rw [hl];omega);rw [hl] at this;exact this,fun i hi=>?_⟩,widerP_length⟩
 by_cases e:i=v
 ·subst e
  rw [nth_set_same (by rw [h.len];exact hi),nth_widerP_v hv]
  exact ⟨ho,hc⟩
 ·rw [nth_set_other (fun h=>e h.symm)]
  have e2:nth (widerP Ps v) i=nth (Ps ++ [[]]) i:=by
   unfold widerP
   rcases Nat.lt_or_ge i Ps.length with h1 | h1
   ·rw [nth_append_left (by simpa using h1),nth_set_other (fun h=>e h.symm),nth_append_left h1]
   ·rw [nth_append_right (by simpa using h1),nth_append_right h1,List.length_set]
  rw [e2]
  exact ⟨((h.sub i hi).1.below (Nat.le_refl _) (h.bel.trans (hb.mono h.hs))),(h.sub i hi).2⟩
end
theorem below_of_grown {w w':World} (h:w.grownBy w' none):Below w.heap.size w w':=⟨h.os,h.tape,h.output,h.size,fun k hk=>h.block k hk (by simp)⟩
theorem set_back {α:Type} [Inhabited α] {xs:List α} {v:Nat} {x y:α} (h:nth xs v=y):(xs.set v x).set v y=xs:=by
 rw [List.set_set]
 rcases Nat.lt_or_ge v xs.length with h1 | h1
 ·refine nth_ext (by simp) fun j hj=>?_
  rw [List.length_set] at hj
  by_cases e:v=j
  ·subst e;rw [nth_set_same h1,h]
  ·rw [nth_set_other e]
 ·exact List.set_eq_of_length_le h1
theorem below_back {w w':World} {g:Nat} (hg:w.grownBy w' (some g)) (h:w'.heap[g]?=w.heap[g]?):Below w.heap.size w w':=
 ⟨hg.os,hg.tape,hg.output,hg.size,fun k hk=>by
   by_cases e:k=g
   ·subst e;exact h
   ·exact hg.block k hk (by intro e2;injection e2 with e2;exact e e2)⟩
theorem cell_far (w:World) {g b o p:Nat} {u:Value} (h:b ≠ g):(w.setCell ⟨g,o,none⟩ u).cell? ⟨b,p,none⟩=w.cell? ⟨b,p,none⟩:=by
 simp only [World.cell?,Below.heap_setCell w ⟨g,o,none⟩ u b h]
set_option maxRecDepth 100000 in
set_option maxHeartbeats 1600000 in
theorem clo2_any (w0:World) (rb wb nb ob gb cw:Nat) (Ps:List (List Int)) (op gv:List Int) (vs:List (Option Addr × Nat × Nat)) (rest:List Value) (O C:Option Addr) (ko co m2 d2:Nat) (v:Nat) (w:World) (h:K2 w0 rb wb nb ob gb cw Ps op gv vs rest O C ko co m2 d2 w)
 (hv:v < Ps.length) (hn:Ps.length≤1000) (hrow:∀ i,i < Ps.length→(nth Ps i).length≤1000) (hk:ko≤1000) (hm:m2≤1000) :
 Calls Tryz.prog 20 #[.int .i64 (v:Int),.pointer (some ⟨wb,0,none⟩),.pointer (some ⟨nb,0,none⟩),.pointer (some ⟨ob,0,none⟩),.pointer (some ⟨gb,0,none⟩)] w fun e w'=>e=.returned (.bool (apartB (widerP Ps v) [(Ps.length:Int)] op gv))∧Below w.heap.size w w':=by
 obtain ⟨wa,hwa⟩:∃ wa:World,wa=w:=⟨_,rfl⟩
 subst hwa
 have r1:=h.wc.cell 0
 have r2:=h.nc.cell 0
 simp only [List.getElem?_cons_zero] at r1 r2
 have hvl:v < vs.length:=by rw [h.len];omega
 have r3:=h.row.cell hvl
 have f3:=h.row.frozen v
 obtain ⟨hs,hsc⟩:=h.sub v (by omega)
 have hs1:Sl (Value.int .i64) wa (nth vs v).1 (nth vs v).2.1 (nth Ps v):=by
  have:=hs.below (Nat.le_refl _) h.bel
  rwa [nth_append_left hv] at this
 have hol:=hs1.len
 have hrl:=hrow v hv
 have hvb:=h.wc.lt
 have hnbl:=h.nc.lt
 have hrbl:=h.row.lt
 obtain ⟨⟨Ao,lo,co'⟩,hvv⟩:∃ x,nth vs v=x:=⟨_,rfl⟩
 rw [hvv] at hs1 hsc r3 hol
 simp only at hs1 hsc r3 hol
 replace r3:wa.cell? ⟨rb,v,none⟩=some (.slice Ao lo co'):=r3
 have hlo:lo≤1000:=by omega
 generalize hnn:Ps.length=n at *
 have HH:=Lib.hid (And.intro h (And.intro hvv hnn))
 clear h hs hvv hnn hol hrl
 have hvi:(v:Int) < (n:Nat) + 1:=by omega
 go_enter Tryz.func20,Tryz.ntmps20
 obtain ⟨⟨ix,e1,e2,e3,e4,e5⟩,_,_⟩:=eiInt
 go_wp2_with fail
 have k1:0 + lo≤maxLen:=by unfold maxLen;omega
 have k2:(0 + lo) * 8≤140737488355328:=by omega
 have k3:0 + lo + 1≤maxLen:=by unfold maxLen;omega
 have k4:(0 + lo + 1) * 8≤140737488355328:=by omega
 have hnd:OwnR (Value.int .i64) wa.drew wa.heap.size 3 none 0 0 ([]:List Int):=OwnR.nil _ _ _ _
 have hsd:Sl (Value.int .i64) wa.drew Ao lo (nth Ps v):=hs1.drewN 1
 have hbd:Below wa.heap.size wa wa.drew:=below_refl_drewN _ wa 1
 have hb0:Below wa.heap.size wa (wa.drew.alloc (.cells #[.int .i64 (n:Int)] 3)):=hbd.alloc (Nat.le_refl wa.heap.size) _
 have hlit:Sl (Value.int .i64) (wa.drew.alloc (.cells #[.int .i64 (n:Int)] 3)) (some ⟨wa.heap.size,0,none⟩) 1 [(n:Int)]:=sl_lit wa.drew [(n:Int)] (by simp)
 have hz1:wa.heap.size≤wa.drew.heap.size:=hbd.size
 have hz0:wa.heap.size≤(wa.drew.alloc (.cells #[.int .i64 (n:Int)] 3)).heap.size:=hb0.size
 have q1:∀ (w:World) (u:Value),(w.setCell ⟨rb,v,none⟩ u).cell? ⟨wb,0,none⟩=w.cell? ⟨wb,0,none⟩:=fun w u=>cell_far w HH.out.1.n1
 have q2:∀ (w:World) (u:Value),(w.setCell ⟨rb,v,none⟩ u).cell? ⟨nb,0,none⟩=w.cell? ⟨nb,0,none⟩:=fun w u=>cell_far w HH.out.1.n2
 go_region_held3 (fun w'=>w'.cell? ⟨wb,0,none⟩=some (.slice (some ⟨rb,0,none⟩) (n + 1) cw)∧w'.cell? ⟨nb,0,none⟩=some (.int .i64 (n:Int))) (first | assumption | go_keep | exact ⟨(q1 _ _).trans s5,(q2 _ _).trans s6⟩)
  (first
    | (refine step_append_sl _ (Value.int .i64) (fun _=>rfl) (by rfl) (.const (.slice none 0 0)) (.tmp 16) 23 (by rfl) wa.heap.size 3 ix (.int .i64 0) 8 e1 e2 e3 e4 e5 (by rfl) none 0 0 [] (by rfl) (by first | exact hnd | exact hnd.alloc _) Ao lo co' (nth Ps v) (by rfl) (by first | exact hsd | exact hsd.alloc _) k1 k2 (by first | exact hz1 | exact hz0) ?_
       intro A7 c7 w7 ho7 hg7 hb7 _
       rw [List.nil_append] at ho7
       have hbb:Below wa.heap.size wa w7:=by first | exact hbd.trans hb7 | exact hb0.trans hb7
       have s1:=bc hbb r1 hvb
       have s2:=bc hbb r2 hnbl
       have s3:=bc hbb r3 hrbl)
    | (refine step_append_sl _ (Value.int .i64) (fun _=>rfl) (by rfl) (.tmp 17) (.tmp 19) 23 (by rfl) wa.heap.size 3 ix (.int .i64 0) 8 e1 e2 e3 e4 e5 (by rfl) A7 (0 + lo) c7 (nth Ps v) (by first | rfl | (rw [Nat.zero_add];rfl)) (by first | exact ho7 | exact ho7.alloc _) _ 1 1 [(n:Int)] (by rfl) (by first | exact sl_lit w7 [(n:Int)] (by simp) | exact hlit.below (Nat.le_refl _) (below_of_grown hg7)) k3 k4 (by first | exact hbb.size | (have:=hbb.size;simp;omega)) ?_
       intro A9 c9 w9 ho9 _ hb9 _
       have hbc:Below wa.heap.size wa w9:=by first | exact hbb.trans hb9 | exact (hbb.alloc hbb.size _).trans hb9
       have s5:=bc hbc r1 hvb
       have s6:=bc hbc r2 hnbl
       have s7:=bc hbc r3 hrbl
       have s8:=(hbc.frozen (p:=⟨rb,v,none⟩) hrbl).trans f3))
 all_goals
  clear r1 r2 r3 f3 s5 s6 s7 s8 q1 q2 hlit hnd hsd hb0 hz0 hz1 hbd hs1
  try clear s1 s2 s3
  try simp only [Nat.zero_add] at ho9
  try simp only [Nat.zero_add]
  have hK:=HH.out.1
  have hr9:RowAt eS (w9.setCell ⟨rb,v,none⟩ (.slice A9 (lo + 1) c9)) rb 23 (vs.set v (A9,lo + 1,c9)) rest:=(hK.row.below hbc hrbl).set hvl (A9,lo + 1,c9)
  have hg9:wa.grownBy (w9.setCell ⟨rb,v,none⟩ (.slice A9 (lo + 1) c9)) (some rb):=grown_setCell (below_grown hbc _) v _
  have hbr:Below rb wa (w9.setCell ⟨rb,v,none⟩ (.slice A9 (lo + 1) c9)):=(hbc.mono (Nat.le_of_lt hrbl)).setCell (p:=⟨rb,v,none⟩) (Nat.le_refl rb) _
  have hs9:=(ho9.setFar (p:=⟨rb,v,none⟩) (fun g e=>by
   rcases ho9.at_row with h1 | ⟨g',h1,h2,_⟩
   ·rw [e] at h1;cases h1
   ·rw [e] at h1;injection h1 with h1;injection h1 with h1;show g ≠ rb;omega) (.slice A9 (lo + 1) c9)).sl (by omega)
  have hrows:=hK.rows (by rw [HH.out.2.2];exact hv) (by rw [HH.out.2.2];exact hn) hr9 hbr (by rw [HH.out.2.2];exact hs9) ho9.cap
  rw [HH.out.2.2] at hrows
  have hwc:=(hK.wc.below' hbc).far (p:=⟨rb,v,none⟩) hK.n1 (.slice A9 (lo + 1) c9)
  have hnc:=(hK.nc.below' hbc).far (p:=⟨rb,v,none⟩) hK.n2 (.slice A9 (lo + 1) c9)
  have hoc:=(hK.oc.below' hbc).far (p:=⟨rb,v,none⟩) hK.n3 (.slice A9 (lo + 1) c9)
  have hgc:=(hK.gc.below' hbc).far (p:=⟨rb,v,none⟩) hK.n4 (.slice A9 (lo + 1) c9)
  have hko:=hK.o.cap
  have hO:=((hK.o.below (Nat.le_refl _) hbc).setFar (p:=⟨rb,v,none⟩) (fun g e=>hK.ofar g e) (.slice A9 (lo + 1) c9)).sl (by omega)
  have hG:=hK.g.below (Nat.le_refl _) (hK.bel.trans (hbr.mono hK.hs))
  rw [HH.out.2.2] at hwc hnc
  clear hbc hbr hs9 ho9 hK
  generalize w9.setCell ⟨rb,v,none⟩ (.slice A9 (lo + 1) c9)=wX at *
  have c1:=hwc.cell 0
  have c2:=hnc.cell 0
  have c3:=(hoc.alloc (.cells #[.int .i64 (n:Int)] 3)).cell 0
  have c4:=(hgc.alloc (.cells #[.int .i64 (n:Int)] 3)).cell 0
  simp only [List.getElem?_cons_zero] at c1 c2 c3 c4
  have hl1:Sl (Value.int .i64) (wX.alloc (.cells #[.int .i64 (n:Int)] 3)) (some ⟨wX.heap.size,0,none⟩) 1 [(n:Int)]:=sl_lit wX [(n:Int)] (by simp)
  have hO:=hO.alloc (.cells #[.int .i64 (n:Int)] 3)
  have hG:=hG.alloc (.cells #[.int .i64 (n:Int)] 3)
  have hrows:=hrows.below (Nat.le_refl _) ((Below.refl wX.heap.size wX).alloc (Nat.le_refl _) (.cells #[.int .i64 (n:Int)] 3))
  have HX:=Lib.hid (And.intro hr9 (And.intro hg9 (And.intro hwc hrows)))
  clear hr9 hg9 hnc hoc hgc hrows
  go_wp2_with fail
  refine (apart_any (some ⟨rb,0,none⟩) _ O C (n + 1) cw 1 1 ko co m2 d2 (widerP Ps v) [(n:Int)] op gv _ HX.out.2.2.2 hl1 hO hG (by omega) hko (by omega) (by omega) (by omega) (by omega)).mono ?_
  rintro e wY ⟨rfl,hbY⟩
  have hbY:=((Below.refl wX.heap.size wX).alloc (Nat.le_refl _) (.cells #[.int .i64 (n:Int)] 3)).trans (hbY.mono (by simp))
  have hrY:=HX.out.1.below hbY HX.out.1.lt
  have hgY:=grown_trans HX.out.2.1 (below_grown hbY (some rb))
  have c1:=(HX.out.2.2.1.below' hbY).cell 0
  simp only [List.getElem?_cons_zero] at c1
  have hvl2:v < (vs.set v (A9,lo + 1,c9)).length:=by rw [List.length_set];exact hvl
  have r3:=hrY.cell hvl2
  have f3:=hrY.frozen v
  have hzz:=hrY.set hvl2 (Ao,lo,co')
  rw [set_back HH.out.2.1] at hzz
  have hgz:=grown_setCell hgY v (.slice Ao lo co')
  have hfin:Below wa.heap.size wa (wY.setCell ⟨rb,v,none⟩ (.slice Ao lo co')):=below_back hgz (by
   have h1:=HH.out.1.row
   have h2:RowAt eS (wY.setCell ⟨rb,v,none⟩ (.slice Ao lo co')) rb 23 vs rest:=hzz
   unfold RowAt at h1 h2
   rw [h1,h2])
  have HF:=Lib.hid hfin
  clear hfin hzz hgz hgY hbY c2 c3 c4 hl1 hO hG
  go_wp2_with fail
  go_ret
  exact ⟨rfl,HF.out⟩
end Go.Proofs.YtgbmnlmnhbkdbaaGreat
