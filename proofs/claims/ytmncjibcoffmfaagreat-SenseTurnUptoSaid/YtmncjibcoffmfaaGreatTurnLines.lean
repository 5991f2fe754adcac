/- A place's lines, walked: each number of the row as what it is at 0 and how it grows. Conditions: the table reads, the row lies within it; within Go's bound. Printed by wip/gen/tlines.py. -/
import Derived.Test.YtmncjibcoffmfaaGreatJ21
import Derived.Test.YtmncjibcoffmfaaGreatJ3
set_option linter.unusedVariables false
set_option linter.unusedSimpArgs false
namespace Go.Proofs.YtmncjibcoffmfaaGreat
open Go.RowKit

set_option maxRecDepth 100000 in
set_option maxHeartbeats 8000000 in
theorem lines_any (N:NetV) (v row value:Nat) (hp:PlaceOk N v row value) (A:Option Addr) (n c:Nat) (w:World) (h:RRow w A n (nth N.tables v)) (hb:totTo (nth N.tables v) n≤8388608) (hw:nth N.Z v≤1048576) :
 Calls Tryz.prog 25 #[.agg #[.int .i64 (v:Nat),.int .i64 (row * nth N.Z v + value:Nat),.int .i64 (row * nth N.Z v:Nat),.int .i64 (nth N.Z v:Nat)],.slice A n c] w fun e w' =>
  ∃ g cs,e=.returned (.slice (some ⟨g,0,none⟩) (nth N.Z v) (nth N.Z v))∧w.heap.size≤g∧LinesTo w' g cs N v row value (nth N.Z v)∧Below w.heap.size w w':=by
 have hfit:=hp.fits
 have hval:=hp.val
 have hwide:=hp.wide
 obtain ⟨l,hl⟩:∃ l,l=nth N.tables v:=⟨_,rfl⟩
 obtain ⟨m,hm⟩:∃ m,m=nth N.Z v:=⟨_,rfl⟩
 obtain ⟨first,hfi⟩:∃ f,f=row * m:=⟨_,rfl⟩
 obtain ⟨at',hat⟩:∃ a,a=first + value:=⟨_,rfl⟩
 obtain ⟨left,hlf⟩:∃ q,q=leftQ N v (row * nth N.Z v + value):=⟨_,rfl⟩
 rw [← hl] at h hb hfit
 have hln:=h.len
 rw [← hm] at hfit hval hwide hw ⊢
 rw [← hfi] at hfit ⊢
 rw [← hat]
 have hleft:1 - (nth l at').q=left:=by rw [hlf,hl,hat,hfi,hm];rfl
 have HLF:=Lib.hid hleft
 have HM:=Lib.hid (And.intro hm (And.intro hl (And.intro hfi (And.intro hat hlf))))
 have hsz:∀ i,i < n→(nth l i).sz≤8388608:=fun i hi=>by have:=totTo_at l hi;omega
 have hlen:∀ i,i < n→ratLen (nth l i).q≤8388609:=fun i hi=>by obtain ⟨_,_,_,_,_,_,_,_,x⟩:=h.at hi;have:=(nth l i).lens x.nl x.dl;have:=hsz i hi;rw [ratLen_eq];omega
 have hll:ratLen left≤20000000:=by
  rw [← hleft]
  have:=sub_len 1 (nth l at').q
  have:=hlen at' (by omega)
  rw [ratLen_one] at *
  omega
 obtain ⟨b,off,hd,rfl,hb0,g0,g1,g2,hraw⟩:=h.at (i:=at') (by omega)
 have hsa:=hsz at' (by omega)
 have HZ:=Lib.hid (And.intro hsz (And.intro hlen hll))
 have HRW:=Lib.hid h
 have H1:=(Held.and (Q:=fun w=>RRow w (some ⟨b,off,none⟩) n l) (Held.and (Q:=fun w=>Hdr3 w b (off + at' * 3) hd) (Held.and (Q:=fun w=>RatAt w (.agg #[.bool hd.neg,.slice hd.A hd.n hd.c,.slice hd.D hd.k hd.e]) (nth l at').q (nth l at').sz) (Held.init w) hraw.at) ⟨hb0,g0,g1,g2⟩) h).new 56 [.int .i64 (v:Nat),.int .i64 (at':Nat),.int .i64 (first:Nat),.int .i64 (m:Nat)]
 have r3:=H1.has.1.cell 3
 have hq8:112 * m≤281474976710656:=by omega
 obtain ⟨wq,hwq⟩:∃ wq:World,wq=w.alloc (.cells #[.int .i64 (v:Nat),.int .i64 (at':Nat),.int .i64 (first:Nat),.int .i64 (m:Nat)] 56):=⟨_,rfl⟩
 rw [← hwq] at H1 r3
 have hatn:(at':Int) < (n:Int):=by omega
 have hatl:at' < n:=by omega
 clear hm hl hfi hat hlf hraw g0 g1 g2 hsz hlen hll hleft h hb hp
 go_enter Tryz.func25,Tryz.ntmps25
 go_upto_region 1 with fail
 rw [← hwq]
 have hwqs:w.heap.size < wq.heap.size:=H1.has.1.lt
 clear hwq
 go_wp2_with (first
  | (refine wpList_mkM _ eiSlope rfl _ _ rfl m rfl rfl hq8 ?_)
  | fail)
 intro w1 cs hrow hcsl hb1
 obtain ⟨g,hg⟩:∃ g,g=wq.heap.size:=⟨_,rfl⟩
 rw [← hg] at hrow hwqs ⊢
 have hgg:g < w1.heap.size:=hrow.lt
 have hL0:LinesTo w1 g cs N v row value 0:=⟨hrow,by rw [hcsl,HM.out.1],fun i hi=>absurd hi (by omega)⟩
 have HQ:=Held.and (Q:=fun w=>LinesTo w g cs N v row value 0) (H1.step hb1) hL0
 have HQ:=(HQ.imp (Q:=fun wx=>LinesTo wx g cs N v row value 0∧RowC wx w.heap.size 56 [.int .i64 (v:Nat),.int .i64 (at':Nat),.int .i64 (first:Nat),.int .i64 (m:Nat)]∧RRow wx (some ⟨b,off,none⟩) n l∧Hdr3 wx b (off + at' * 3) hd∧RatAt wx (.agg #[.bool hd.neg,.slice hd.A hd.n hd.c,.slice hd.D hd.k hd.e]) (nth l at').q (nth l at').sz∧True) id)
 clear hb1 hg H1 r3 hL0 hrow
 go_upto_region 2 with fail
 go_cut [6] from 16 to 22 (fun p wx=>∃ gl:Nat,p=.pointer (some ⟨gl,0,none⟩)∧g < gl∧BoxQ wx (g + 1) gl left∧Below w.heap.size w wx∧LinesTo wx g cs N v row value 0∧RowC wx w.heap.size 56 [.int .i64 (v:Nat),.int .i64 (at':Nat),.int .i64 (first:Nat),.int .i64 (m:Nat)]∧RRow wx (some ⟨b,off,none⟩) n l)
 case first=>as_aux_lemma =>
  have HG:=HQ.drew
  (have hgx:=(show LinesTo _ g cs N v row value 0 from (bg HG)).box.lt);(have rp:RowC w1.drew w.heap.size 56 [.int .i64 (v:Nat),.int .i64 (at':Nat),.int .i64 (first:Nat),.int .i64 (m:Nat)]:=(bg HG));(have rh:Hdr3 w1.drew b (off + at' * 3) hd:=(bg HG))
  refine wp_region_held_drew (S:=(fun w'=>w'.cell? ⟨w.heap.size,1,none⟩=some (.int .i64 (at':Nat))∧w'.cell? ⟨b,off + at' * 3,none⟩=some (.bool hd.neg)∧w'.cell? ⟨b,off + at' * 3 + 1,none⟩=some (.slice hd.A hd.n hd.c)∧w'.cell? ⟨b,off + at' * 3 + 2,none⟩=some (.slice hd.D hd.k hd.e))) (by kernel_rfl) ?hS1 (fun hHeld=>?rest1)
  case hS1=>(first | exact ⟨rp.cell 1,rh.c0,rh.c1,rh.c2⟩ | assumption | go_keep)
  refine tk 1 rfl ?_
  try simp only [Act.put,sp]
  refine tk 2 rfl ?_
  try simp only [Act.put,sp]
  refine tk 3 rfl ?_
  try simp only [Act.put,sp]
  refine tk 4 rfl ?_
  try simp only [Act.put,sp]
  refine tk 5 rfl ?_
  try simp only [Act.put,sp]
  refine wpAnyH_ready (rs:=[0,7]) (by kernel_rfl) (by simp) (consM rfl (fun K hK=>?step8) (consL rfl (fun K hK=>?step9)))
  case step8 =>
   (go_simp;(refine (one_sense _).mono ?_);(intro e y0 hp1;obtain ⟨u1,rfl,q1,hb1⟩:=hp1.at (by rw [ratLen_one];decide));(clear hp1);(have HG:=Held.and (Q:=fun w=>RatAt w u1 1 (ratLen 1)) (HG.step hb1) q1);(clear hb1);(have hgx:=(show LinesTo _ g cs N v row value 0 from (bg HG)).box.lt);(have rp:RowC _ w.heap.size 56 [.int .i64 (v:Nat),.int .i64 (at':Nat),.int .i64 (first:Nat),.int .i64 (m:Nat)]:=(bg HG));(have rh:Hdr3 _ b (off + at' * 3) hd:=(bg HG)))
   refine hK.out _ _ ?hS8 (fun hHeld=>?rest8)
   case hS8=>(first | exact ⟨rp.cell 1,rh.c0,rh.c1,rh.c2⟩ | assumption | go_keep)
   clear hK K
   try simp only [Act.put,sp]
   refine wpAnyH_ready (rs:=[6,7]) (by kernel_rfl) (by simp) (consM rfl (fun K hK=>?step11) (consL rfl (fun K hK=>?step12)))
   case step11 =>
    (go_simp;(refine (frac_sub _ _ 1 (nth l at').q (ratLen 1) (nth l at').sz _ (bg HG) (bg HG) (by rw [ratLen_one];omega)).mono ?_);(rintro e y1 ⟨R2,e2,D2,f2,rfl,p1,p2,sep2,hb1⟩);(rw [HLF.out] at p1 p2 ⊢);(have hp1:=hb1.size);(have HG:=HG.step hb1);(clear hb1);(have hgx:=(show LinesTo _ g cs N v row value 0 from (bg HG)).box.lt);(have rp:RowC _ w.heap.size 56 [.int .i64 (v:Nat),.int .i64 (at':Nat),.int .i64 (first:Nat),.int .i64 (m:Nat)]:=(bg HG));(have rh:Hdr3 _ b (off + at' * 3) hd:=(bg HG)))
    refine hK.out _ _ ?hS11 (fun hHeld=>?rest11)
    case hS11=>(first | exact ⟨rp.cell 1,rh.c0,rh.c1,rh.c2⟩ | assumption | go_keep)
    clear hK K
    try simp only [Act.put,sp]
    refine wpAnyH_ready (rs:=[7]) (by kernel_rfl) (by simp) (consL rfl (fun K hK=>?step13))
    (go_simp;(have hgw:g < y1.heap.size:=(by first | exact hgg | exact (show LinesTo _ g cs N v row value 0 from (bg HG)).box.lt));(have HI:=HG);(have HJ:=(Held.init y1).new 36 [.bool false,.slice none 0 0,.slice none 0 0]);(have HG:=HG.new 36 [.bool false,.slice none 0 0,.slice none 0 0]);(obtain ⟨gn,hge⟩:∃ gn,gn=y1.heap.size:=⟨_,rfl⟩);(obtain ⟨ya,hya⟩:∃ y,y=y1.alloc (.cells #[.bool false,.slice none 0 0,.slice none 0 0] 36):=⟨_,rfl⟩);(rw [← hge] at HJ HG hgw ⊢);(rw [← hya] at HJ HG ⊢);(have HGE:=Lib.hid hge);(have hgl:=HJ.has.1.lt);(clear hge hya);(have hgx:=(show LinesTo _ g cs N v row value 0 from (bg HG)).box.lt);(have rp:RowC _ w.heap.size 56 [.int .i64 (v:Nat),.int .i64 (at':Nat),.int .i64 (first:Nat),.int .i64 (m:Nat)]:=(bg HG));(have rh:Hdr3 _ b (off + at' * 3) hd:=(bg HG)))
    refine hK.out _ _ ?hS13 (fun hHeld=>?rest13)
    case hS13=>(first | exact ⟨rp.cell 1,rh.c0,rh.c1,rh.c2⟩ | assumption | go_keep)
    clear hK K
    try simp only [Act.put,sp]
    refine wpAnyH_ready (rs:=[8]) (by kernel_rfl) (by simp) (consL rfl (fun K hK=>?step14))
    ((have t0:=HJ.has.1.cell 0);(have t1:=HJ.has.1.cell 1);(have t2:=HJ.has.1.cell 2);(have f0:=HJ.has.1.frozen 0);(have f1':=HJ.has.1.frozen 1);(have f2':=HJ.has.1.frozen 2);go_simp;(clear t0 t1 t2 f0 f1' f2');(obtain ⟨wz,hwz⟩:∃ wz,wz=(((ya.setCell ⟨gn,0,none⟩ (.bool (isNeg left.num))).setCell ⟨gn,1,none⟩ (.slice R2 (limbs left.num.natAbs).length e2)).setCell ⟨gn,2,none⟩ (.slice D2 (limbs left.den).length f2)):=⟨_,rfl⟩);(rw [← hwz]);(have hq:=box3_put (v0:=.bool (isNeg left.num)) (v1:=.slice R2 (limbs left.num.natAbs).length e2) (v2:=.slice D2 (limbs left.den).length f2) (Nat.le_of_eq HGE.out.symm) HJ.has.1 HJ.bel);(rw [← hwz] at hq);(have HF:=HI.step hq.2);(have hbx:BoxQ wz (g + 1) gn left:=⟨R2,e2,D2,f2,hq.1,(p1.below (Nat.le_refl _) hq.2).mono (by omega),(p2.below (Nat.le_refl _) hq.2).mono (by omega),sep2⟩);(clear hwz);(have rp:RowC wz w.heap.size 56 [.int .i64 (v:Nat),.int .i64 (at':Nat),.int .i64 (first:Nat),.int .i64 (m:Nat)]:=(bg HF));(have rh:Hdr3 wz b (off + at' * 3) hd:=(bg HF)))
    refine hK.out _ _ ?hS14 (fun hHeld=>?rest14)
    case hS14=>(first | exact ⟨rp.cell 1,rh.c0,rh.c1,rh.c2⟩ | assumption | go_keep)
    clear hK K
    try simp only [Act.put,sp]
    refine wpAnyH_done (by kernel_rfl) ?_ _
    go_simp
    go_simp
    (try go_wp2_with fail)
    go_meet
    case rel=>exact ⟨gn,rfl,hgw,hbx,HF.bel,(bg HF),(bg HF),(bg HF)⟩
   case step12 =>
    (go_simp;(have hgw:g < y0.heap.size:=(by first | exact hgg | exact (show LinesTo _ g cs N v row value 0 from (bg HG)).box.lt));(have HI:=HG);(have HJ:=(Held.init y0).new 36 [.bool false,.slice none 0 0,.slice none 0 0]);(have HG:=HG.new 36 [.bool false,.slice none 0 0,.slice none 0 0]);(obtain ⟨gn,hge⟩:∃ gn,gn=y0.heap.size:=⟨_,rfl⟩);(obtain ⟨ya,hya⟩:∃ y,y=y0.alloc (.cells #[.bool false,.slice none 0 0,.slice none 0 0] 36):=⟨_,rfl⟩);(rw [← hge] at HJ HG hgw ⊢);(rw [← hya] at HJ HG ⊢);(have HGE:=Lib.hid hge);(have hgl:=HJ.has.1.lt);(clear hge hya);(have hgx:=(show LinesTo _ g cs N v row value 0 from (bg HG)).box.lt);(have rp:RowC _ w.heap.size 56 [.int .i64 (v:Nat),.int .i64 (at':Nat),.int .i64 (first:Nat),.int .i64 (m:Nat)]:=(bg HG));(have rh:Hdr3 _ b (off + at' * 3) hd:=(bg HG)))
    refine hK.out _ _ ?hS12 (fun hHeld=>?rest12)
    case hS12=>(first | exact ⟨rp.cell 1,rh.c0,rh.c1,rh.c2⟩ | assumption | go_keep)
    clear hK K
    try simp only [Act.put,sp]
    refine wpAnyH_ready (rs:=[6]) (by kernel_rfl) (by simp) (consL rfl (fun K hK=>?step15))
    (go_simp;(refine (frac_sub _ _ 1 (nth l at').q (ratLen 1) (nth l at').sz _ (bg HG) (bg HG) (by rw [ratLen_one];omega)).mono ?_);(rintro e y1 ⟨R2,e2,D2,f2,rfl,p1,p2,sep2,hb1⟩);(rw [HLF.out] at p1 p2 ⊢);(have hp1:=hb1.size);(have HG:=HG.step hb1);(have HJ:=HJ.step hb1);(have hgl:=HJ.has.1.lt);(clear hb1);(have hgx:=(show LinesTo _ g cs N v row value 0 from (bg HG)).box.lt);(have rp:RowC _ w.heap.size 56 [.int .i64 (v:Nat),.int .i64 (at':Nat),.int .i64 (first:Nat),.int .i64 (m:Nat)]:=(bg HG));(have rh:Hdr3 _ b (off + at' * 3) hd:=(bg HG)))
    refine hK.out _ _ ?hS15 (fun hHeld=>?rest15)
    case hS15=>(first | exact ⟨rp.cell 1,rh.c0,rh.c1,rh.c2⟩ | assumption | go_keep)
    clear hK K
    try simp only [Act.put,sp]
    refine wpAnyH_ready (rs:=[8]) (by kernel_rfl) (by simp) (consL rfl (fun K hK=>?step16))
    ((have t0:=HJ.has.1.cell 0);(have t1:=HJ.has.1.cell 1);(have t2:=HJ.has.1.cell 2);(have f0:=HJ.has.1.frozen 0);(have f1':=HJ.has.1.frozen 1);(have f2':=HJ.has.1.frozen 2);go_simp;(clear t0 t1 t2 f0 f1' f2');(obtain ⟨wz,hwz⟩:∃ wz,wz=(((y1.setCell ⟨gn,0,none⟩ (.bool (isNeg left.num))).setCell ⟨gn,1,none⟩ (.slice R2 (limbs left.num.natAbs).length e2)).setCell ⟨gn,2,none⟩ (.slice D2 (limbs left.den).length f2)):=⟨_,rfl⟩);(rw [← hwz]);(have hq:=box3_fin (v0:=.bool (isNeg left.num)) (v1:=.slice R2 (limbs left.num.natAbs).length e2) (v2:=.slice D2 (limbs left.den).length f2) (Nat.le_of_eq HGE.out.symm) HJ.has.1 HJ.bel (p1.mono (by omega)) (p2.mono (by omega)));(rw [← hwz] at hq);(have HF:=HI.step hq.2.2.2);(have hbx:BoxQ wz (g + 1) gn left:=⟨R2,e2,D2,f2,hq.1,hq.2.1.mono (by have:=HGE.out;omega),hq.2.2.1.mono (by have:=HGE.out;omega),sep2⟩);(clear hwz);(have rp:RowC wz w.heap.size 56 [.int .i64 (v:Nat),.int .i64 (at':Nat),.int .i64 (first:Nat),.int .i64 (m:Nat)]:=(bg HF));(have rh:Hdr3 wz b (off + at' * 3) hd:=(bg HF)))
    refine hK.out _ _ ?hS16 (fun hHeld=>?rest16)
    case hS16=>(first | exact ⟨rp.cell 1,rh.c0,rh.c1,rh.c2⟩ | assumption | go_keep)
    clear hK K
    try simp only [Act.put,sp]
    refine wpAnyH_done (by kernel_rfl) ?_ _
    go_simp
    go_simp
    (try go_wp2_with fail)
    go_meet
    case rel=>exact ⟨gn,rfl,hgw,hbx,HF.bel,(bg HF),(bg HF),(bg HF)⟩
  case step9 =>
   (go_simp;(have hgw:g < w1.heap.size:=(by first | exact hgg | exact (show LinesTo _ g cs N v row value 0 from (bg HG)).box.lt));(have HI:=HQ);(have HJ:=((Held.init w1).new 36 [.bool false,.slice none 0 0,.slice none 0 0]).drew);(have HG:=(HQ.new 36 [.bool false,.slice none 0 0,.slice none 0 0]).drew);(obtain ⟨gn,hge⟩:∃ gn,gn=w1.heap.size:=⟨_,rfl⟩);(obtain ⟨ya,hya⟩:∃ y,y=(w1.alloc (.cells #[.bool false,.slice none 0 0,.slice none 0 0] 36)).drew:=⟨_,rfl⟩);(rw [← hge] at HJ HG hgw ⊢);(rw [← hya] at HJ HG ⊢);(have HGE:=Lib.hid hge);(have hgl:=HJ.has.1.lt);(clear hge hya);(have hgx:=(show LinesTo _ g cs N v row value 0 from (bg HG)).box.lt);(have rp:RowC _ w.heap.size 56 [.int .i64 (v:Nat),.int .i64 (at':Nat),.int .i64 (first:Nat),.int .i64 (m:Nat)]:=(bg HG));(have rh:Hdr3 _ b (off + at' * 3) hd:=(bg HG)))
   refine hK.out _ _ ?hS9 (fun hHeld=>?rest9)
   case hS9=>(first | exact ⟨rp.cell 1,rh.c0,rh.c1,rh.c2⟩ | assumption | go_keep)
   clear hK K
   try simp only [Act.put,sp]
   refine wpAnyH_ready (rs:=[0]) (by kernel_rfl) (by simp) (consL rfl (fun K hK=>?step17))
   (go_simp;(refine (one_sense _).mono ?_);(intro e y0 hp1;obtain ⟨u1,rfl,q1,hb1⟩:=hp1.at (by rw [ratLen_one];decide));(clear hp1);(have HG:=Held.and (Q:=fun w=>RatAt w u1 1 (ratLen 1)) (HG.step hb1) q1);(have HJ:=HJ.step hb1);(have hgl:=HJ.has.1.lt);(clear hb1);(have hgx:=(show LinesTo _ g cs N v row value 0 from (bg HG)).box.lt);(have rp:RowC _ w.heap.size 56 [.int .i64 (v:Nat),.int .i64 (at':Nat),.int .i64 (first:Nat),.int .i64 (m:Nat)]:=(bg HG));(have rh:Hdr3 _ b (off + at' * 3) hd:=(bg HG)))
   refine hK.out _ _ ?hS17 (fun hHeld=>?rest17)
   case hS17=>(first | exact ⟨rp.cell 1,rh.c0,rh.c1,rh.c2⟩ | assumption | go_keep)
   clear hK K
   try simp only [Act.put,sp]
   refine wpAnyH_ready (rs:=[6]) (by kernel_rfl) (by simp) (consL rfl (fun K hK=>?step18))
   (go_simp;(refine (frac_sub _ _ 1 (nth l at').q (ratLen 1) (nth l at').sz _ (bg HG) (bg HG) (by rw [ratLen_one];omega)).mono ?_);(rintro e y1 ⟨R2,e2,D2,f2,rfl,p1,p2,sep2,hb1⟩);(rw [HLF.out] at p1 p2 ⊢);(have hp1:=hb1.size);(have HG:=HG.step hb1);(have HJ:=HJ.step hb1);(have hgl:=HJ.has.1.lt);(clear hb1);(have hgx:=(show LinesTo _ g cs N v row value 0 from (bg HG)).box.lt);(have rp:RowC _ w.heap.size 56 [.int .i64 (v:Nat),.int .i64 (at':Nat),.int .i64 (first:Nat),.int .i64 (m:Nat)]:=(bg HG));(have rh:Hdr3 _ b (off + at' * 3) hd:=(bg HG)))
   refine hK.out _ _ ?hS18 (fun hHeld=>?rest18)
   case hS18=>(first | exact ⟨rp.cell 1,rh.c0,rh.c1,rh.c2⟩ | assumption | go_keep)
   clear hK K
   try simp only [Act.put,sp]
   refine wpAnyH_ready (rs:=[8]) (by kernel_rfl) (by simp) (consL rfl (fun K hK=>?step19))
   ((have t0:=HJ.has.1.cell 0);(have t1:=HJ.has.1.cell 1);(have t2:=HJ.has.1.cell 2);(have f0:=HJ.has.1.frozen 0);(have f1':=HJ.has.1.frozen 1);(have f2':=HJ.has.1.frozen 2);go_simp;(clear t0 t1 t2 f0 f1' f2');(obtain ⟨wz,hwz⟩:∃ wz,wz=(((y1.setCell ⟨gn,0,none⟩ (.bool (isNeg left.num))).setCell ⟨gn,1,none⟩ (.slice R2 (limbs left.num.natAbs).length e2)).setCell ⟨gn,2,none⟩ (.slice D2 (limbs left.den).length f2)):=⟨_,rfl⟩);(rw [← hwz]);(have hq:=box3_fin (v0:=.bool (isNeg left.num)) (v1:=.slice R2 (limbs left.num.natAbs).length e2) (v2:=.slice D2 (limbs left.den).length f2) (Nat.le_of_eq HGE.out.symm) HJ.has.1 HJ.bel (p1.mono (by omega)) (p2.mono (by omega)));(rw [← hwz] at hq);(have HF:=HI.step hq.2.2.2);(have hbx:BoxQ wz (g + 1) gn left:=⟨R2,e2,D2,f2,hq.1,hq.2.1.mono (by have:=HGE.out;omega),hq.2.2.1.mono (by have:=HGE.out;omega),sep2⟩);(clear hwz);(have rp:RowC wz w.heap.size 56 [.int .i64 (v:Nat),.int .i64 (at':Nat),.int .i64 (first:Nat),.int .i64 (m:Nat)]:=(bg HF));(have rh:Hdr3 wz b (off + at' * 3) hd:=(bg HF)))
   refine hK.out _ _ ?hS19 (fun hHeld=>?rest19)
   case hS19=>(first | exact ⟨rp.cell 1,rh.c0,rh.c1,rh.c2⟩ | assumption | go_keep)
   clear hK K
   try simp only [Act.put,sp]
   refine wpAnyH_done (by kernel_rfl) ?_ _
   go_simp
   go_simp
   (try go_wp2_with fail)
   go_meet
   case rel=>exact ⟨gn,rfl,hgw,hbx,HF.bel,(bg HF),(bg HF),(bg HF)⟩
 case rest =>
  obtain ⟨gl,rfl,hgl,hbx,hbel,hL,rp,hR⟩:=hcut
  have HH:=Lib.hid (And.intro hbx (And.intro hbel (And.intro hL (And.intro rp hR))))
  clear hbx hbel hL rp hR HQ
  go_wp2_with fail
  go_loopw [25] (fun i wr=>∃ (k:Nat) (cs':List Value),k≤m∧i=.int .i64 (k:Nat)∧LinesTo wr g cs' N v row value k∧BoxQ wr (g + 1) gl left∧RowC wr w.heap.size 56 [.int .i64 (v:Nat),.int .i64 (at':Nat),.int .i64 (first:Nat),.int .i64 (m:Nat)]∧RRow wr (some ⟨b,off,none⟩) n l∧Below w.heap.size w wr) (fun i _=>m - (intOf i).toNat)
  case atStart=>exact ⟨0,cs,by omega,rfl,HH.out.2.2.1,HH.out.1,HH.out.2.2.2.1,HH.out.2.2.2.2,HH.out.2.1⟩
  case round =>
   obtain ⟨k,cs',hk,rfl,hL,hbx,rp,hR,hbr⟩:=hrel
   obtain ⟨wo,hwo⟩:∃ wo:World,wo=wr:=⟨_,rfl⟩
   subst hwo
   by_cases hkm:k < m
   ·as_aux_lemma =>
    have p1:=rp.cell 1
    have p2:=rp.cell 2
    have p3:=rp.cell 3
    have hgw:g < wo.heap.size:=hL.box.lt
    obtain ⟨Rl,cl,Dl,dl,hbl,ol1,ol2,sepl⟩:=hbx.ex
    have b0:=hbl.cell 0
    have b1:=hbl.cell 1
    have b2:=hbl.cell 2
    have hlq:=ratAt_own ol1 ol2 (by have:=HZ.out.2.2;omega)
    have HW:=Lib.hid (And.intro hL (And.intro hbx (And.intro rp (And.intro hR hbr))))
    have HLQ:=Lib.hid hlq
    have hnb:=hR.big
    clear hL hbx rp hR hbr hbl ol1 ol2 hlq
    by_cases hkv:k=value
    ·as_aux_lemma =>
     have e2:(first:Int) + (k:Int)=(at':Int):=by rw [HM.out.2.2.2.1,hkv];exact (Int.natCast_add _ _).symm
     have HFA:=Lib.hid hkv
     clear hkv
     go_wp2_with fail
     refine (frac_sum none 0 0 [] _ ⟨⟨[],SlM.nil _ _ _,fun i hi=>absurd hi (by omega)⟩,rfl⟩ (by decide)).mono ?_
     rintro e y1 ⟨R1,c1,D1,d1,rfl,o1,o2,_,hb1⟩
     rw [show sumQ []=0 from rfl] at o1 o2 ⊢
     have hq1:=QAt.of o1 o2
     have hz:∃ z:Rat,z=0:=⟨_,rfl⟩
     obtain ⟨z,hz⟩:=hz
     rw [← hz] at hq1 ⊢
     have HZ0:=Lib.hid hz
     clear o1 o2 hz
     go_wp2_with fail
     refine (one_sense _).mono ?_
     rintro e y2 ⟨R2,c2,D2,d2,rfl,o1,o2,_,hb2⟩
     have hq2:=QAt.of o1 o2
     obtain ⟨z1,hz1⟩:∃ z1:Rat,z1=1:=⟨_,rfl⟩
     rw [← hz1] at hq2 ⊢
     have HZ1:=Lib.hid hz1
     clear hz1
     have hq1:=hq1.below hb2
     have hbb:=hb1.trans (hb2.mono hb1.size)
     have hgy:=hb1.size
     have hL2:=HW.out.1.below hbb
     have hkz:k < nth N.Z v:=by rw [← HM.out.1];exact hkm
     have hq1:=(hq1.mono (show g + 1≤_ by omega)).cast (show z=lineA N v row value k by rw [HZ0.out];unfold lineA;rw [if_pos HFA.out])
     have hq2:=(hq2.mono (show g + 1≤_ by omega)).cast (show z1=lineB N v row value k by rw [HZ1.out];unfold lineB;rw [if_pos HFA.out])
     have HP:=Lib.hid (And.intro hbb (And.intro hL2 (And.intro hq1 hq2)))
     have hsz6:k * 6 + 6≤cs'.length:=by rw [hL2.len];omega
     clear hbb hL2 hq1 hq2 hb1 hb2 o1 o2
     go_wp2_with (first | refine wpL_atBuild rfl ?_;refine wpList_plain rfl fun K7 hK7=>?_;go_simp;refine hK7 _ _ ?_;clear hK7 K7;refine wpList_plain rfl fun K7 hK7=>?_;go_simp;refine hK7 _ _ ?_;clear hK7 K7;go_loud (refine wpL_store_row rfl _ _ _ rfl g (k * 6) (lineC ⟨isNeg z.num,R1,(limbs z.num.natAbs).length,c1,D1,(limbs z.den).length,d1⟩ ⟨isNeg z1.num,R2,(limbs z1.num.natAbs).length,c2,D2,(limbs z1.den).length,d2⟩) rfl rfl HP.out.2.1.box hsz6 (by kernel_rfl) (by simp [lineC,RH.cells,Value.oneCell']) ?_) | fail)
     obtain ⟨w7,hw7⟩:∃ w7:World,w7=y2.setCells g (k * 6) (lineC ⟨isNeg z.num,R1,(limbs z.num.natAbs).length,c1,D1,(limbs z.den).length,d1⟩ ⟨isNeg z1.num,R2,(limbs z1.num.natAbs).length,c2,D2,(limbs z1.den).length,d2⟩):=⟨_,rfl⟩
     rw [← hw7]
     have hput:=HP.out.2.1.put hkz HP.out.2.2.1 HP.out.2.2.2
     rw [← hw7] at hput
     have hbel3:Below w.heap.size w w7:=by rw [hw7];exact belowS (HW.out.2.2.2.2.trans (HP.out.1.mono HW.out.2.2.2.2.size)) (show w.heap.size≤g by omega) _ _
     have hR3:=(HRW.out:RRow w (some ⟨b,off,none⟩) n l).below (Nat.le_refl _) hbel3
     have hbx3:BoxQ w7 (g + 1) gl left:=by rw [hw7];exact (HW.out.2.1.below HP.out.1).farS (Nat.lt_succ_self g) (show gl ≠ g by omega) _ _
     have hpl3:RowC w7 w.heap.size 56 [.int .i64 (v:Nat),.int .i64 (at':Nat),.int .i64 (first:Nat),.int .i64 (m:Nat)]:=by rw [hw7];exact (HW.out.2.2.1.below' HP.out.1).farS (show w.heap.size ≠ g by omega) _ _
     have HT:=Lib.hid (And.intro hput (And.intro hbx3 (And.intro hpl3 (And.intro hR3 hbel3))))
     clear hput hbx3 hpl3 hR3 hbel3 hw7
     exact ⟨⟨k + 1,_,by omega,by go_num,HT.out.1,HT.out.2.1,HT.out.2.2.1,HT.out.2.2.2.1,HT.out.2.2.2.2⟩,by simp [intOf];omega⟩
    ·as_aux_lemma =>
     have e2:¬ (first:Int) + (k:Int)=(at':Int):=by have:=HM.out.2.2.2.1;omega
     have d2:((first:Int) + (k:Int) == (at':Int))=false:=beq_eq_false_iff_ne.2 e2
     have d3:decide ((first:Int) + (k:Int)=(at':Int))=false:=decide_eq_false e2
     have hkz:k < nth N.Z v:=by rw [← HM.out.1];exact hkm
     have HKV:=Lib.hid hkv
     clear hkv e2
     go_wp2_with fail
     refine (frac_sign _ _ _ _ HLQ.out).mono ?_
     rintro e y1 ⟨rfl,hb1⟩
     have HW1:=Lib.hid (And.intro (HW.out.1.below hb1) (And.intro (HW.out.2.1.below hb1) (And.intro (HW.out.2.2.1.below' hb1) (HW.out.2.2.2.2.trans (hb1.mono HW.out.2.2.2.2.size)))))
     clear b0 b1 b2 p1 p2 p3 hb1
     by_cases hl0:left=0
     ·as_aux_lemma =>
      have hsg:sgnQ left=0:=by rw [hl0];rfl
      have hsh:shareQ N v row value k=mkRat ((1:Nat):Int) (m - 1):=by unfold shareQ;rw [← HM.out.2.2.2.2,if_pos hl0,← HM.out.1];rfl
      have i3:(m:Int) - 1=((m - 1:Nat):Int):=by omega
      have p3:=HW1.out.2.2.1.cell 3
      have HSH0:=Lib.hid hsh
      rw [hsg]
      clear hl0 hsg hsh
      go_wp2_with fail
      refine (frac_of 1 (m - 1) _ (by decide) (by omega) (by omega)).mono ?_
      rintro e y2 ⟨Rs,ks,Ds,ls,rfl,os1,os2,seps,hb2⟩
      rw [← HSH0.out] at os1 os2 ⊢
      obtain ⟨sh,hsh⟩:∃ sh,sh=shareQ N v row value k:=⟨_,rfl⟩
      rw [← hsh] at os1 os2 ⊢
      have hslen:ratLen sh≤2:=by rw [hsh,HSH0.out];have:=ratLen_mk ((1:Nat):Int) (d:=m - 1) (by omega);have h1:(limbs ((1:Nat):Int).natAbs).length≤1:=limbs_one (by decide);have h2:(limbs (m - 1)).length≤1:=limbs_one (by omega);omega
      have HSH:=Lib.hid (And.intro hsh (show ratLen sh≤30000000 by omega))
      have hgs:y2.heap.size ≠ g:=by have:=(HW1.out.1.below hb2).box.lt;omega
      obtain ⟨wb,hwb⟩:∃ wb:World,wb=y2.alloc (.cells #[.bool (isNeg sh.num),.slice Rs (limbs sh.num.natAbs).length ks,.slice Ds (limbs sh.den).length ls] 36):=⟨_,rfl⟩
      have hal:Below y2.heap.size y2 wb:=by rw [hwb];exact (Below.refl _ _).alloc (Nat.le_refl _) _
      have hbs0:RowC wb y2.heap.size 36 [.bool (isNeg sh.num),.slice Rs (limbs sh.num.natAbs).length ks,.slice Ds (limbs sh.den).length ls]:=by rw [hwb];exact RowC.new y2 36 _
      have hbb:=hb2.trans (hal.mono hb2.size)
      have hy1:=HW1.out.1.box.lt
      have os1:=(os1.below (Nat.le_refl _) hal).mono (show g + 1≤y1.heap.size by omega)
      have os2:=(os2.below (Nat.le_refl _) hal).mono (show g + 1≤y1.heap.size by omega)
      have hsq:=ratAt_own os1 os2 (by omega)
      have HV:=Lib.hid (And.intro (HW1.out.1.below hbb) (And.intro (HW1.out.2.1.below hbb) (And.intro (HW1.out.2.2.1.below' hbb) (HW1.out.2.2.2.trans (hbb.mono HW1.out.2.2.2.size)))))
      obtain ⟨gs,hgse⟩:∃ gs,gs=y2.heap.size:=⟨_,rfl⟩
      rw [← hgse] at hbs0 hgs
      have b0:=hbs0.cell 0
      have b1:=hbs0.cell 1
      have b2:=hbs0.cell 2
      clear hsh hslen hbb hb2 p3 i3 hal
      go_upto_region 13 with fail
      rw [← hwb,← hgse]
      clear hwb hgse
      refine wp_region_lastL (S:=fun w'=>w'.cell? ⟨gs,0,none⟩=some (.bool (isNeg sh.num))∧w'.cell? ⟨gs,1,none⟩=some (.slice Rs (limbs sh.num.natAbs).length ks)∧w'.cell? ⟨gs,2,none⟩=some (.slice Ds (limbs sh.den).length ls)) 7 7 (by kernel_rfl) rfl rfl rfl (by kernel_rfl) ?hS41 (fun hHeld=>?rest41)
      case hS41=>(first | exact ⟨b0,b1,b2⟩ | assumption | go_keep)
      refine tk 0 rfl ?_
      try simp only [Act.put,sp]
      refine tk 1 rfl ?_
      try simp only [Act.put,sp]
      refine tk 2 rfl ?_
      try simp only [Act.put,sp]
      refine tk 3 rfl ?_
      try simp only [Act.put,sp]
      refine wpAnyH_ready (rs:=[4]) (by kernel_rfl) (by simp) (consL rfl (fun K hK=>?step46))
      (go_simp;(refine (frac_neg _ sh _ _ (hsq.below (Nat.le_refl _) (below_drewN (Below.refl _ _) 1)) (by have:=HSH.out.2;omega)).mono ?_);(rintro e y2 ⟨R2,c2,D2,d2,rfl,p1,p2,_,hb2⟩);(obtain ⟨nq,hnq⟩:∃ nq:Rat,nq=-sh:=⟨_,rfl⟩);(rw [← hnq] at p1 p2 ⊢);(have HNQ:=Lib.hid hnq);(clear hnq);(have hbw:Below wb.heap.size wb y2:=(below_drewN (Below.refl _ _) 1).trans hb2);(have hL2:=HV.out.1.below hbw);(have bs2:=hbs0.below' hbw);(have b0:=bs2.cell 0);(have b1:=bs2.cell 1);(have b2:=bs2.cell 2))
      refine hK.out _ _ ?hS46 (fun hHeld=>?rest46)
      case hS46=>(first | exact ⟨b0,b1,b2⟩ | assumption | go_keep)
      clear hK K
      try simp only [Act.put,sp]
      have HP2:=Lib.hid (And.intro hL2 (And.intro p1 (And.intro p2 hbw)))
      clear hL2 p1 p2 hbw b0 b1 b2 bs2 hb2
      refine wpAnyH_takeL (i:=5) (v:=.agg (lineC ⟨isNeg sh.num,Rs,(limbs sh.num.natAbs).length,ks,Ds,(limbs sh.den).length,ls⟩ ⟨isNeg nq.num,R2,(limbs nq.num.natAbs).length,c2,D2,(limbs nq.den).length,d2⟩).toArray) rfl (by kernel_rfl) (by kernel_rfl) (by kernel_rfl) (fun _ _ _ h=>h) (by rfl) ?hy48 (by assumption) ?rest48
      case hy48=>(refine run_build_op 64 _ rfl _ ?_;go_simp;kernel_rfl)
      try simp only [Act.put,sp]
      refine tk 6 rfl ?_
      try simp only [Act.put,sp]
      refine wpAnyH_done (by kernel_rfl) ?_ _
      unfold AheadOf
      refine wp_store_row _ _ _ rfl g (k * 6) (lineC ⟨isNeg sh.num,Rs,(limbs sh.num.natAbs).length,ks,Ds,(limbs sh.den).length,ls⟩ ⟨isNeg nq.num,R2,(limbs nq.num.natAbs).length,c2,D2,(limbs nq.den).length,d2⟩) rfl rfl HP2.out.1.box (by rw [HP2.out.1.len];have:(lineC ⟨isNeg sh.num,Rs,(limbs sh.num.natAbs).length,ks,Ds,(limbs sh.den).length,ls⟩ ⟨isNeg nq.num,R2,(limbs nq.num.natAbs).length,c2,D2,(limbs nq.den).length,d2⟩).length=6:=rfl;omega) (by kernel_rfl) (by simp [lineC,RH.cells,Value.oneCell']) ?_
      intro w7 hw7
      have hput:=HP2.out.1.put (ha:=⟨isNeg sh.num,Rs,(limbs sh.num.natAbs).length,ks,Ds,(limbs sh.den).length,ls⟩) (hb:=⟨isNeg nq.num,R2,(limbs nq.num.natAbs).length,c2,D2,(limbs nq.den).length,d2⟩) hkz (((QAt.of os1 os2).below HP2.out.2.2.2).cast (by rw [HSH.out.1];unfold lineA;rw [if_neg HKV.out])) (((QAt.of HP2.out.2.1 HP2.out.2.2.1).mono (by have:=HV.out.1.box.lt;show g + 1≤wb.heap.size;omega)).cast (by rw [HNQ.out,HSH.out.1];unfold lineB;rw [if_neg HKV.out]))
      rw [← hw7] at hput
      have hbel3:Below w.heap.size w w7:=by rw [hw7];exact belowS (HV.out.2.2.2.trans (HP2.out.2.2.2.mono HV.out.2.2.2.size)) (show w.heap.size≤g by omega) _ _
      have hR3:=(HRW.out:RRow w (some ⟨b,off,none⟩) n l).below (Nat.le_refl _) hbel3
      have hbx3:BoxQ w7 (g + 1) gl left:=by rw [hw7];exact (HV.out.2.1.below HP2.out.2.2.2).farS (Nat.lt_succ_self g) (show gl ≠ g by omega) _ _
      have hpl3:RowC w7 w.heap.size 56 [.int .i64 (v:Nat),.int .i64 (at':Nat),.int .i64 (first:Nat),.int .i64 (m:Nat)]:=by rw [hw7];exact (HV.out.2.2.1.below' HP2.out.2.2.2).farS (show w.heap.size ≠ g by omega) _ _
      have HT:=Lib.hid (And.intro hput (And.intro hbx3 (And.intro hpl3 (And.intro hR3 hbel3))))
      clear hput hbx3 hpl3 hR3 hbel3 hHeld hw7
      go_wp2_with fail
      exact ⟨⟨k + 1,_,by omega,by go_num,HT.out.1,HT.out.2.1,HT.out.2.2.1,HT.out.2.2.2.1,HT.out.2.2.2.2⟩,by simp [intOf];omega⟩
     ·as_aux_lemma =>
      have hl1:sgnQ left ≠ 0:=by
       have h1:=sgnI_cases left.num
       have h2:left.num ≠ 0:=fun h=>hl0 (Rat.num_eq_zero.1 h)
       unfold sgnQ sgnI
       split <;> simp_all
      have d4:(sgnQ left == 0)=false:=beq_eq_false_iff_ne.2 hl1
      have d5:decide (sgnQ left=0)=false:=decide_eq_false hl1
      have hsh:(nth l (first + k)).q / left=shareQ N v row value k:=by unfold shareQ;rw [← HM.out.2.2.2.2,if_neg hl0,← HM.out.2.1,← HM.out.1,← HM.out.2.2.1]
      have hpn:first + k < n:=by omega
      have hi1:(first:Int) + (k:Int)=((first + k:Nat):Int):=(Int.natCast_add _ _).symm
      rw [hi1] at d2 d3 ⊢
      obtain ⟨p,hp⟩:∃ p,p=first + k:=⟨_,rfl⟩
      rw [← hp] at hsh hpn d2 d3 ⊢
      obtain ⟨sh,hshe⟩:∃ sh,sh=shareQ N v row value k:=⟨_,rfl⟩
      rw [← hshe] at hsh
      have hslen:ratLen sh≤30000000:=by
       rw [← hsh]
       have h1:=div_len (nth l p).q left hl0
       have h2:=HZ.out.2.1 p hpn
       have h3:=HZ.out.2.2
       omega
      have HSH:=Lib.hid (And.intro hshe hslen)
      have HSD:=Lib.hid (And.intro hsh hl0)
      obtain ⟨b',off',hdp,he,hb1,g0,g1,g2,hraw⟩:=(HRW.out:RRow w (some ⟨b,off,none⟩) n l).at hpn
      injection he with he
      injection he with he1 he2 _
      subst he1 he2
      have hbel:=HW1.out.2.2.2
      have hQ7:Held w (fun wx=>LinesTo wx g cs' N v row value k∧BoxQ wx (g + 1) gl left∧RowC wx w.heap.size 56 [.int .i64 (v:Nat),.int .i64 (at':Nat),.int .i64 (first:Nat),.int .i64 (m:Nat)]∧RRow wx (some ⟨b,off,none⟩) n l∧Hdr3 wx b (off + p * 3) hdp∧RatAt wx (.agg #[.bool hdp.neg,.slice hdp.A hdp.n hdp.c,.slice hdp.D hdp.k hdp.e]) (nth l p).q (nth l p).sz∧True) y1:=
       ⟨hbel,HW1.out.1,HW1.out.2.1,HW1.out.2.2.1,(HRW.out:RRow w (some ⟨b,off,none⟩) n l).below (Nat.le_refl _) hbel,Stable.below (P:=fun wx=>Hdr3 wx b (off + p * 3) hdp) hbel ⟨hb1,g0,g1,g2⟩,hraw.at.below (Nat.le_refl _) hbel,trivial⟩
      obtain ⟨Rl,cl,Dl,dl,hbl,ol1,ol2,_⟩:=HW1.out.2.1.ex
      have HQ7:=Held.and (Q:=fun wx=>RatAt wx (.agg #[.bool (isNeg left.num),.slice Rl (limbs left.num.natAbs).length cl,.slice Dl (limbs left.den).length dl]) left (ratLen left)) (hQ7.row hbl) (ratAt_own ol1 ol2 (by have:=HZ.out.2.2;omega))
      have hgy1:g < y1.heap.size:=HW1.out.1.box.lt
      have hszp:=HZ.out.1 p hpn
      have hlenl:=HZ.out.2.2
      have hpi:(p:Int) < (n:Int):=by omega
      clear hp hshe hslen hsh hraw g0 g1 g2 hbel hQ7 hbl ol1 ol2 HQ hl1 hl0 hi1
      go_upto_region 7 with fail
      go_cut [11,12] from 32 to 40 (fun q _ wx=>∃ gs:Nat,q=.pointer (some ⟨gs,0,none⟩)∧g < gs∧BoxQ wx (g + 1) gs sh∧Below w.heap.size w wx∧LinesTo wx g cs' N v row value k∧BoxQ wx (g + 1) gl left∧RowC wx w.heap.size 56 [.int .i64 (v:Nat),.int .i64 (at':Nat),.int .i64 (first:Nat),.int .i64 (m:Nat)])
      case first=>as_aux_lemma =>
       have HG:=HQ7.drew
       (have hgx:=(show LinesTo _ g cs' N v row value k from (bg HG)).box.lt);(have rl:RowC y1.drew gl 36 [.bool (isNeg left.num),.slice Rl (limbs left.num.natAbs).length cl,.slice Dl (limbs left.den).length dl]:=(bg HG));(have rh:Hdr3 y1.drew b (off + p * 3) hdp:=(bg HG))
       refine wp_region_held_drew (S:=(fun w'=>w'.cell? ⟨b,off + p * 3,none⟩=some (.bool hdp.neg)∧w'.cell? ⟨b,off + p * 3 + 1,none⟩=some (.slice hdp.A hdp.n hdp.c)∧w'.cell? ⟨b,off + p * 3 + 2,none⟩=some (.slice hdp.D hdp.k hdp.e)∧w'.cell? ⟨gl,0,none⟩=some (.bool (isNeg left.num))∧w'.cell? ⟨gl,1,none⟩=some (.slice Rl (limbs left.num.natAbs).length cl)∧w'.cell? ⟨gl,2,none⟩=some (.slice Dl (limbs left.den).length dl))) (by kernel_rfl) ?hS20 (fun hHeld=>?rest20)
       case hS20=>(first | exact ⟨rh.c0,rh.c1,rh.c2,rl.cell 0,rl.cell 1,rl.cell 2⟩ | assumption | go_keep)
       refine tk 0 rfl ?_
       try simp only [Act.put,sp]
       refine tk 1 rfl ?_
       try simp only [Act.put,sp]
       refine tk 2 rfl ?_
       try simp only [Act.put,sp]
       refine tk 3 rfl ?_
       try simp only [Act.put,sp]
       refine tk 4 rfl ?_
       try simp only [Act.put,sp]
       refine wpAnyH_ready (rs:=[5,9]) (by kernel_rfl) (by simp) (consM rfl (fun K hK=>?step27) (consL rfl (fun K hK=>?step28)))
       case step27 =>
        (go_simp;(refine (frac_div _ _ (nth l p).q left (nth l p).sz (ratLen left) _ (bg HG) (bg HG) (by omega) HSD.out.2).mono ?_);(rintro e y0 ⟨R2,e2,D2,f2,rfl,p1,p2,sep2,hb1⟩);(rw [HSD.out.1] at p1 p2 ⊢);(have hp1:=hb1.size);(have HG:=HG.step hb1);(clear hb1);(have hgx:=(show LinesTo _ g cs' N v row value k from (bg HG)).box.lt);(have rl:RowC _ gl 36 [.bool (isNeg left.num),.slice Rl (limbs left.num.natAbs).length cl,.slice Dl (limbs left.den).length dl]:=(bg HG));(have rh:Hdr3 _ b (off + p * 3) hdp:=(bg HG)))
        refine hK.out _ _ ?hS27 (fun hHeld=>?rest27)
        case hS27=>(first | exact ⟨rh.c0,rh.c1,rh.c2,rl.cell 0,rl.cell 1,rl.cell 2⟩ | assumption | go_keep)
        clear hK K
        try simp only [Act.put,sp]
        refine tk 6 rfl ?_
        try simp only [Act.put,sp]
        refine tk 7 rfl ?_
        try simp only [Act.put,sp]
        refine tk 8 rfl ?_
        try simp only [Act.put,sp]
        refine wpAnyH_ready (rs:=[9]) (by kernel_rfl) (by simp) (consL rfl (fun K hK=>?step32))
        (go_simp;(have hgw:g < y0.heap.size:=(by first | exact hgy1 | exact (show LinesTo _ g cs' N v row value k from (bg HG)).box.lt));(have HI:=HG);(have HJ:=(Held.init y0).new 36 [.bool false,.slice none 0 0,.slice none 0 0]);(have HG:=HG.new 36 [.bool false,.slice none 0 0,.slice none 0 0]);(obtain ⟨gn,hge⟩:∃ gn,gn=y0.heap.size:=⟨_,rfl⟩);(obtain ⟨ya,hya⟩:∃ y,y=y0.alloc (.cells #[.bool false,.slice none 0 0,.slice none 0 0] 36):=⟨_,rfl⟩);(rw [← hge] at HJ HG hgw ⊢);(rw [← hya] at HJ HG ⊢);(have HGE:=Lib.hid hge);(have hgl:=HJ.has.1.lt);(clear hge hya);(have hgx:=(show LinesTo _ g cs' N v row value k from (bg HG)).box.lt);(have rl:RowC _ gl 36 [.bool (isNeg left.num),.slice Rl (limbs left.num.natAbs).length cl,.slice Dl (limbs left.den).length dl]:=(bg HG));(have rh:Hdr3 _ b (off + p * 3) hdp:=(bg HG)))
        refine hK.out _ _ ?hS32 (fun hHeld=>?rest32)
        case hS32=>(first | exact ⟨rh.c0,rh.c1,rh.c2,rl.cell 0,rl.cell 1,rl.cell 2⟩ | assumption | go_keep)
        clear hK K
        try simp only [Act.put,sp]
        refine wpAnyH_ready (rs:=[10]) (by kernel_rfl) (by simp) (consL rfl (fun K hK=>?step33))
        ((have t0:=HJ.has.1.cell 0);(have t1:=HJ.has.1.cell 1);(have t2:=HJ.has.1.cell 2);(have f0:=HJ.has.1.frozen 0);(have f1':=HJ.has.1.frozen 1);(have f2':=HJ.has.1.frozen 2);go_simp;(clear t0 t1 t2 f0 f1' f2');(obtain ⟨wz,hwz⟩:∃ wz,wz=(((ya.setCell ⟨gn,0,none⟩ (.bool (isNeg sh.num))).setCell ⟨gn,1,none⟩ (.slice R2 (limbs sh.num.natAbs).length e2)).setCell ⟨gn,2,none⟩ (.slice D2 (limbs sh.den).length f2)):=⟨_,rfl⟩);(rw [← hwz]);(have hq:=box3_put (v0:=.bool (isNeg sh.num)) (v1:=.slice R2 (limbs sh.num.natAbs).length e2) (v2:=.slice D2 (limbs sh.den).length f2) (Nat.le_of_eq HGE.out.symm) HJ.has.1 HJ.bel);(rw [← hwz] at hq);(have HF:=HI.step hq.2);(have hbx:BoxQ wz (g + 1) gn sh:=⟨R2,e2,D2,f2,hq.1,(p1.below (Nat.le_refl _) hq.2).mono (by omega),(p2.below (Nat.le_refl _) hq.2).mono (by omega),sep2⟩);(clear hwz);(have rl:RowC wz gl 36 [.bool (isNeg left.num),.slice Rl (limbs left.num.natAbs).length cl,.slice Dl (limbs left.den).length dl]:=(bg HF));(have rh:Hdr3 wz b (off + p * 3) hdp:=(bg HF)))
        refine hK.out _ _ ?hS33 (fun hHeld=>?rest33)
        case hS33=>(first | exact ⟨rh.c0,rh.c1,rh.c2,rl.cell 0,rl.cell 1,rl.cell 2⟩ | assumption | go_keep)
        clear hK K
        try simp only [Act.put,sp]
        refine tk 11 rfl ?_
        try simp only [Act.put,sp]
        refine wpAnyH_done (by kernel_rfl) ?_ _
        go_simp
        go_simp
        (try go_wp2_with fail)
        go_meet
        case rel=>exact ⟨gn,rfl,hgw,hbx,HF.bel,(bg HF),(bg HF),(bg HF)⟩
       case step28 =>
        (go_simp;(have hgw:g < y1.heap.size:=(by first | exact hgy1 | exact (show LinesTo _ g cs' N v row value k from (bg HG)).box.lt));(have HI:=HQ7);(have HJ:=((Held.init y1).new 36 [.bool false,.slice none 0 0,.slice none 0 0]).drew);(have HG:=(HQ7.new 36 [.bool false,.slice none 0 0,.slice none 0 0]).drew);(obtain ⟨gn,hge⟩:∃ gn,gn=y1.heap.size:=⟨_,rfl⟩);(obtain ⟨ya,hya⟩:∃ y,y=(y1.alloc (.cells #[.bool false,.slice none 0 0,.slice none 0 0] 36)).drew:=⟨_,rfl⟩);(rw [← hge] at HJ HG hgw ⊢);(rw [← hya] at HJ HG ⊢);(have HGE:=Lib.hid hge);(have hgl:=HJ.has.1.lt);(clear hge hya);(have hgx:=(show LinesTo _ g cs' N v row value k from (bg HG)).box.lt);(have rl:RowC _ gl 36 [.bool (isNeg left.num),.slice Rl (limbs left.num.natAbs).length cl,.slice Dl (limbs left.den).length dl]:=(bg HG));(have rh:Hdr3 _ b (off + p * 3) hdp:=(bg HG)))
        refine hK.out _ _ ?hS28 (fun hHeld=>?rest28)
        case hS28=>(first | exact ⟨rh.c0,rh.c1,rh.c2,rl.cell 0,rl.cell 1,rl.cell 2⟩ | assumption | go_keep)
        clear hK K
        try simp only [Act.put,sp]
        refine wpAnyH_ready (rs:=[5]) (by kernel_rfl) (by simp) (consL rfl (fun K hK=>?step35))
        (go_simp;(refine (frac_div _ _ (nth l p).q left (nth l p).sz (ratLen left) _ (bg HG) (bg HG) (by omega) HSD.out.2).mono ?_);(rintro e y0 ⟨R2,e2,D2,f2,rfl,p1,p2,sep2,hb1⟩);(rw [HSD.out.1] at p1 p2 ⊢);(have hp1:=hb1.size);(have HG:=HG.step hb1);(have HJ:=HJ.step hb1);(have hgl:=HJ.has.1.lt);(clear hb1);(have hgx:=(show LinesTo _ g cs' N v row value k from (bg HG)).box.lt);(have rl:RowC _ gl 36 [.bool (isNeg left.num),.slice Rl (limbs left.num.natAbs).length cl,.slice Dl (limbs left.den).length dl]:=(bg HG));(have rh:Hdr3 _ b (off + p * 3) hdp:=(bg HG)))
        refine hK.out _ _ ?hS35 (fun hHeld=>?rest35)
        case hS35=>(first | exact ⟨rh.c0,rh.c1,rh.c2,rl.cell 0,rl.cell 1,rl.cell 2⟩ | assumption | go_keep)
        clear hK K
        try simp only [Act.put,sp]
        refine tk 6 rfl ?_
        try simp only [Act.put,sp]
        refine tk 7 rfl ?_
        try simp only [Act.put,sp]
        refine tk 8 rfl ?_
        try simp only [Act.put,sp]
        refine wpAnyH_ready (rs:=[10]) (by kernel_rfl) (by simp) (consL rfl (fun K hK=>?step39))
        ((have t0:=HJ.has.1.cell 0);(have t1:=HJ.has.1.cell 1);(have t2:=HJ.has.1.cell 2);(have f0:=HJ.has.1.frozen 0);(have f1':=HJ.has.1.frozen 1);(have f2':=HJ.has.1.frozen 2);go_simp;(clear t0 t1 t2 f0 f1' f2');(obtain ⟨wz,hwz⟩:∃ wz,wz=(((y0.setCell ⟨gn,0,none⟩ (.bool (isNeg sh.num))).setCell ⟨gn,1,none⟩ (.slice R2 (limbs sh.num.natAbs).length e2)).setCell ⟨gn,2,none⟩ (.slice D2 (limbs sh.den).length f2)):=⟨_,rfl⟩);(rw [← hwz]);(have hq:=box3_fin (v0:=.bool (isNeg sh.num)) (v1:=.slice R2 (limbs sh.num.natAbs).length e2) (v2:=.slice D2 (limbs sh.den).length f2) (Nat.le_of_eq HGE.out.symm) HJ.has.1 HJ.bel (p1.mono (by omega)) (p2.mono (by omega)));(rw [← hwz] at hq);(have HF:=HI.step hq.2.2.2);(have hbx:BoxQ wz (g + 1) gn sh:=⟨R2,e2,D2,f2,hq.1,hq.2.1.mono (by have:=HGE.out;omega),hq.2.2.1.mono (by have:=HGE.out;omega),sep2⟩);(clear hwz);(have rl:RowC wz gl 36 [.bool (isNeg left.num),.slice Rl (limbs left.num.natAbs).length cl,.slice Dl (limbs left.den).length dl]:=(bg HF));(have rh:Hdr3 wz b (off + p * 3) hdp:=(bg HF)))
        refine hK.out _ _ ?hS39 (fun hHeld=>?rest39)
        case hS39=>(first | exact ⟨rh.c0,rh.c1,rh.c2,rl.cell 0,rl.cell 1,rl.cell 2⟩ | assumption | go_keep)
        clear hK K
        try simp only [Act.put,sp]
        refine tk 11 rfl ?_
        try simp only [Act.put,sp]
        refine wpAnyH_done (by kernel_rfl) ?_ _
        go_simp
        go_simp
        (try go_wp2_with fail)
        go_meet
        case rel=>exact ⟨gn,rfl,hgw,hbx,HF.bel,(bg HF),(bg HF),(bg HF)⟩
      case rest =>
       obtain ⟨gs,rfl,hgs,hbs,hbel,hL,hbx,hpl⟩:=hcut
       obtain ⟨Rs,ks,Ds,ls,hbs0,os1,os2,_⟩:=hbs.ex
       have hsq:=ratAt_own os1 os2 (by have:=HSH.out.2;omega)
       have HV:=Lib.hid (And.intro hL (And.intro hbx (And.intro hpl hbel)))
       obtain ⟨wb,hwb⟩:∃ wb:World,wb=wc:=⟨_,rfl⟩
       subst hwb
       have b0:=hbs0.cell 0
       have b1:=hbs0.cell 1
       have b2:=hbs0.cell 2
       clear hbs hL hbx hpl hbel HQ7
       have hgs:gs ≠ g:=by omega
       (try go_upto_region 8 with fail)
       refine wp_region_lastL (S:=fun w'=>w'.cell? ⟨gs,0,none⟩=some (.bool (isNeg sh.num))∧w'.cell? ⟨gs,1,none⟩=some (.slice Rs (limbs sh.num.natAbs).length ks)∧w'.cell? ⟨gs,2,none⟩=some (.slice Ds (limbs sh.den).length ls)) 7 7 (by kernel_rfl) rfl rfl rfl (by kernel_rfl) ?hS50 (fun hHeld=>?rest50)
       case hS50=>(first | exact ⟨b0,b1,b2⟩ | assumption | go_keep)
       refine tk 0 rfl ?_
       try simp only [Act.put,sp]
       refine tk 1 rfl ?_
       try simp only [Act.put,sp]
       refine tk 2 rfl ?_
       try simp only [Act.put,sp]
       refine tk 3 rfl ?_
       try simp only [Act.put,sp]
       refine wpAnyH_ready (rs:=[4]) (by kernel_rfl) (by simp) (consL rfl (fun K hK=>?step55))
       (go_simp;(refine (frac_neg _ sh _ _ (hsq.below (Nat.le_refl _) (below_drewN (Below.refl _ _) 1)) (by have:=HSH.out.2;omega)).mono ?_);(rintro e y2 ⟨R2,c2,D2,d2,rfl,p1,p2,_,hb2⟩);(obtain ⟨nq,hnq⟩:∃ nq:Rat,nq=-sh:=⟨_,rfl⟩);(rw [← hnq] at p1 p2 ⊢);(have HNQ:=Lib.hid hnq);(clear hnq);(have hbw:Below wb.heap.size wb y2:=(below_drewN (Below.refl _ _) 1).trans hb2);(have hL2:=HV.out.1.below hbw);(have bs2:=hbs0.below' hbw);(have b0:=bs2.cell 0);(have b1:=bs2.cell 1);(have b2:=bs2.cell 2))
       refine hK.out _ _ ?hS55 (fun hHeld=>?rest55)
       case hS55=>(first | exact ⟨b0,b1,b2⟩ | assumption | go_keep)
       clear hK K
       try simp only [Act.put,sp]
       have HP2:=Lib.hid (And.intro hL2 (And.intro p1 (And.intro p2 hbw)))
       clear hL2 p1 p2 hbw b0 b1 b2 bs2 hb2
       refine wpAnyH_takeL (i:=5) (v:=.agg (lineC ⟨isNeg sh.num,Rs,(limbs sh.num.natAbs).length,ks,Ds,(limbs sh.den).length,ls⟩ ⟨isNeg nq.num,R2,(limbs nq.num.natAbs).length,c2,D2,(limbs nq.den).length,d2⟩).toArray) rfl (by kernel_rfl) (by kernel_rfl) (by kernel_rfl) (fun _ _ _ h=>h) (by rfl) ?hy57 (by assumption) ?rest57
       case hy57=>(refine run_build_op 64 _ rfl _ ?_;go_simp;kernel_rfl)
       try simp only [Act.put,sp]
       refine tk 6 rfl ?_
       try simp only [Act.put,sp]
       refine wpAnyH_done (by kernel_rfl) ?_ _
       unfold AheadOf
       refine wp_store_row _ _ _ rfl g (k * 6) (lineC ⟨isNeg sh.num,Rs,(limbs sh.num.natAbs).length,ks,Ds,(limbs sh.den).length,ls⟩ ⟨isNeg nq.num,R2,(limbs nq.num.natAbs).length,c2,D2,(limbs nq.den).length,d2⟩) rfl rfl HP2.out.1.box (by rw [HP2.out.1.len];have:(lineC ⟨isNeg sh.num,Rs,(limbs sh.num.natAbs).length,ks,Ds,(limbs sh.den).length,ls⟩ ⟨isNeg nq.num,R2,(limbs nq.num.natAbs).length,c2,D2,(limbs nq.den).length,d2⟩).length=6:=rfl;omega) (by kernel_rfl) (by simp [lineC,RH.cells,Value.oneCell']) ?_
       intro w7 hw7
       have hput:=HP2.out.1.put (ha:=⟨isNeg sh.num,Rs,(limbs sh.num.natAbs).length,ks,Ds,(limbs sh.den).length,ls⟩) (hb:=⟨isNeg nq.num,R2,(limbs nq.num.natAbs).length,c2,D2,(limbs nq.den).length,d2⟩) hkz (((QAt.of os1 os2).below HP2.out.2.2.2).cast (by rw [HSH.out.1];unfold lineA;rw [if_neg HKV.out])) (((QAt.of HP2.out.2.1 HP2.out.2.2.1).mono (by have:=HV.out.1.box.lt;show g + 1≤wb.heap.size;omega)).cast (by rw [HNQ.out,HSH.out.1];unfold lineB;rw [if_neg HKV.out]))
       rw [← hw7] at hput
       have hbel3:Below w.heap.size w w7:=by rw [hw7];exact belowS (HV.out.2.2.2.trans (HP2.out.2.2.2.mono HV.out.2.2.2.size)) (show w.heap.size≤g by omega) _ _
       have hR3:=(HRW.out:RRow w (some ⟨b,off,none⟩) n l).below (Nat.le_refl _) hbel3
       have hbx3:BoxQ w7 (g + 1) gl left:=by rw [hw7];exact (HV.out.2.1.below HP2.out.2.2.2).farS (Nat.lt_succ_self g) (show gl ≠ g by omega) _ _
       have hpl3:RowC w7 w.heap.size 56 [.int .i64 (v:Nat),.int .i64 (at':Nat),.int .i64 (first:Nat),.int .i64 (m:Nat)]:=by rw [hw7];exact (HV.out.2.2.1.below' HP2.out.2.2.2).farS (show w.heap.size ≠ g by omega) _ _
       have HT:=Lib.hid (And.intro hput (And.intro hbx3 (And.intro hpl3 (And.intro hR3 hbel3))))
       clear hput hbx3 hpl3 hR3 hbel3 hHeld hw7
       go_wp2_with fail
       exact ⟨⟨k + 1,_,by omega,by go_num,HT.out.1,HT.out.2.1,HT.out.2.2.1,HT.out.2.2.2.1,HT.out.2.2.2.2⟩,by simp [intOf];omega⟩
   ·as_aux_lemma =>
    obtain rfl:m=k:=by omega
    have HE:=Lib.hid (And.intro hL hbr)
    clear hL hbx rp hR hbr
    go_wp2_with fail
    go_ret
    exact ⟨g,cs',rfl,by omega,HE.out.1,HE.out.2⟩
end Go.Proofs.YtmncjibcoffmfaaGreat
