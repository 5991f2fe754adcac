/- Joined by program out of: TurnMath, LendA. What each says stands at its own head. -/
import Derived.Test.YtmncjibcoffmfaaGreatNetCheckR
import Derived.Test.YtmncjibcoffmfaaGreatJ3
set_option linter.unusedVariables false
set_option linter.unusedSimpArgs false
/- Plain law: a network with one number of a table turned, the others of its row keeping their shares. No condition. -/
namespace Go.Proofs.YtmncjibcoffmfaaGreat

def normR (q:Rat):RawR:=⟨isNeg q.num,limbs q.num.natAbs,limbs q.den⟩
theorem normR_sz (q:Rat):(normR q).sz=ratLen q:=rfl
def leftQ (N:NetV) (v at':Nat):Rat:=1 - (nth (nth N.tables v) at').q
def shareQ (N:NetV) (v row value k:Nat):Rat:=
 if leftQ N v (row * nth N.Z v + value)=0 then mkRat 1 (nth N.Z v - 1) else (nth (nth N.tables v) (row * nth N.Z v + k)).q / leftQ N v (row * nth N.Z v + value)
def newQ (N:NetV) (v row value:Nat) (x:Rat) (k:Nat):Rat:=if k=value then x else shareQ N v row value k * (1 - x)
theorem share_line (s x:Rat):s + (-s) * x=s * (1 - x):=by
 rw [Rat.sub_eq_add_neg,Rat.mul_add,Rat.mul_one,Rat.mul_neg,Rat.neg_mul]
theorem doc_line (q r l:Rat):q * r / l=q / l * r:=by
 rw [Rat.div_def,Rat.div_def,Rat.mul_assoc,Rat.mul_assoc,Rat.mul_comm r]
def turnQ (N:NetV) (v row value:Nat) (x:Rat) (u j:Nat):Rat:=
 if u=v∧row * nth N.Z v≤j∧j < row * nth N.Z v + nth N.Z v then newQ N v row value x (j - row * nth N.Z v) else (nth (nth N.tables u) j).q
def turnL (N:NetV) (v row value:Nat) (x:Rat) (u:Nat):List RawR:=(List.range (nth N.tables u).length).map fun j=>normR (turnQ N v row value x u j)
def turnN (N:NetV) (v row value:Nat) (x:Rat):NetV:=⟨N.name,N.names,N.values,N.parents,(List.range N.tables.length).map (turnL N v row value x)⟩
def emptyN:NetV:=⟨ByteArray.empty,[],[],[],[]⟩
noncomputable def placeE (N:NetV) (v row value:Int):Int:=
 if checkN N ≠ 0 then checkN N
 else if v < 0 ∨ (N.names.length:Int)≤v then 3
 else if nth N.Z v.toNat < 2 ∨ row < 0 ∨ (((nth N.tables v.toNat).length / nth N.Z v.toNat:Nat):Int)≤row ∨ value < 0 ∨ ((nth N.Z v.toNat:Nat):Int)≤value then 3
 else 0
noncomputable def turnE (N:NetV) (v row value:Int) (x:Rat):Int:=if placeE N v row value ≠ 0 then placeE N v row value else if outQ x then 45 else 0
noncomputable def turnA (N:NetV) (v row value:Int) (x:Rat):NetV:=if turnE N v row value x ≠ 0 then emptyN else turnN N v.toNat row.toNat value.toNat x
structure PlaceOk (N:NetV) (v row value:Nat):Prop where
 hv:N.values.length=N.names.length
 hp:N.parents.length=N.names.length
 ht:N.tables.length=N.names.length
 lt:v < N.names.length
 wide:2≤nth N.Z v
 len:(nth N.tables v).length=rowsV N v * nth N.Z v
 row:row < rowsV N v
 val:value < nth N.Z v
theorem check_ok {N:NetV} (h:checkN N=0):N.values.length=N.names.length∧N.parents.length=N.names.length∧N.tables.length=N.names.length∧firstE (namedAt N) N.names.length=0∧checkP N.parents=0∧firstE (rowsAt N) N.names.length=0:=by
 unfold checkN at h
 split at h
 ·cases h
 ·rename_i h1
  split at h
  ·cases h
  ·split at h
   ·rename_i h2;exact absurd h h2
   ·rename_i h2
    split at h
    ·rename_i h3;exact absurd h h3
    ·rename_i h3
     split at h
     ·rename_i h4;exact absurd h h4
     ·rename_i h4
      refine ⟨by omega,by omega,by omega,?_,?_,?_⟩
      ·exact Decidable.byContradiction h2
      ·exact Decidable.byContradiction h3
      ·exact Decidable.byContradiction h4
theorem rows_len {N:NetV} {v:Nat} (h:firstE (rowsAt N) N.names.length=0) (hv:v < N.names.length):(nth N.tables v).length=rowsV N v * nth N.Z v:=by
 have h1:=firstE_zero h v hv
 unfold rowsAt at h1
 split at h1
 ·cases h1
 ·split at h1
  ·cases h1
  ·omega
theorem place_ok {N:NetV} {v row value:Int} (h:placeE N v row value=0):∃ v' row' value':Nat,v=v'∧row=row'∧value=value'∧PlaceOk N v' row' value':=by
 unfold placeE at h
 split at h
 ·rename_i h1;exact absurd h h1
 ·rename_i h1
  have hc:=check_ok (Decidable.byContradiction h1)
  split at h
  ·cases h
  ·rename_i h2
   split at h
   ·cases h
   ·rename_i h3
    obtain ⟨v',rfl⟩:∃ v':Nat,v=v':=⟨v.toNat,by omega⟩
    obtain ⟨row',rfl⟩:∃ r':Nat,row=r':=⟨row.toNat,by omega⟩
    obtain ⟨value',rfl⟩:∃ r':Nat,value=r':=⟨value.toNat,by omega⟩
    rw [show (v':Int).toNat=v' from rfl] at h3
    have hl:=rows_len hc.2.2.2.2.2 (v:=v') (by omega)
    have hq:(nth N.tables v').length / nth N.Z v'=rowsV N v':=by rw [hl,Nat.mul_div_cancel _ (by omega)]
    rw [hq] at h3
    exact ⟨v',row',value',rfl,rfl,rfl,hc.1,hc.2.1,hc.2.2.1,by omega,by omega,hl,by omega,by omega⟩
theorem PlaceOk.fits {N:NetV} {v row value:Nat} (h:PlaceOk N v row value):row * nth N.Z v + nth N.Z v≤(nth N.tables v).length:=by
 rw [h.len]
 have:=Nat.mul_le_mul_right (nth N.Z v) (show row + 1≤rowsV N v from h.row)
 rw [Nat.add_mul,Nat.one_mul] at this
 exact this
end Go.Proofs.YtmncjibcoffmfaaGreat
/- credenceref20.Copy (a fraction in memory of its own, with marks behind its lists), Same of the same fraction, walked. Conditions: the fractions read, within Go's bound. Printed by wip/gen/lenda.py. -/
namespace Go.Proofs.YtmncjibcoffmfaaGreat
open Go.RowKit

structure LentR (w:World) (base:Nat) (h:RH) (r:RawR):Prop where
 neg:h.neg=r.neg
 n:h.n=r.num.length
 k:h.k=r.den.length
 num:OwnR eU w base 54 h.A (h.n + 2) h.c (r.num ++ [901,902])
 den:OwnR eU w base 54 h.D (h.k + 2) h.e (r.den ++ [903,904])
 nl:L32 r.num
 dl:L32 r.den
 nb:h.n≤1000000000
 db:h.k≤1000000000
theorem LentR.below {w w':World} {base:Nat} {h:RH} {r:RawR} (x:LentR w base h r) {B:Nat} (hB:w.heap.size≤B) (hb:Below B w w'):LentR w' base h r:=
 ⟨x.neg,x.n,x.k,x.num.below hB hb,x.den.below hB hb,x.nl,x.dl,x.nb,x.db⟩
theorem LentR.mono {w:World} {base b2:Nat} {h:RH} {r:RawR} (x:LentR w base h r) (hb:b2≤base):LentR w b2 h r:=⟨x.neg,x.n,x.k,x.num.mono hb,x.den.mono hb,x.nl,x.dl,x.nb,x.db⟩
theorem take_two (l:List Nat) (a b:Nat):(l ++ [a,b]).take l.length=l:=by rw [List.take_append_of_le_length (Nat.le_refl _),List.take_length]
theorem LentR.raw {w:World} {base:Nat} {h:RH} {r:RawR} (x:LentR w base h r):RawAt w h r:=by
 have h1:=(x.num.sl (by have:=x.nb;omega)).cutN (k:=h.n) (by omega)
 have h2:=(x.den.sl (by have:=x.db;omega)).cutN (k:=h.k) (by omega)
 have e1:(r.num ++ [901,902]).take h.n=r.num:=by rw [x.n];exact take_two _ _ _
 have e2:(r.den ++ [903,904]).take h.k=r.den:=by rw [x.k];exact take_two _ _ _
 rw [e1] at h1
 rw [e2] at h2
 exact ⟨x.neg,h1,by have:=x.num.cap;omega,x.nl,h2,by have:=x.den.cap;omega,x.dl⟩
set_option maxRecDepth 100000 in
set_option maxHeartbeats 2000000 in
theorem copy_any (h:RH) (r:RawR) (w:World) (x:RawAt w h r) (hb:r.sz≤1000000000) :
 Calls Tryz.prog 7 #[h.val] w fun e w'=>∃ h':RH,e=.returned h'.val∧LentR w' w.heap.size h' r∧Below w.heap.size w w':=by
 obtain ⟨s,A,n,c,D,k,e⟩:=h
 have hnl:n=r.num.length:=x.num.len.symm
 have hkl:k=r.den.length:=x.den.len.symm
 have hszz:n + k≤1000000000:=by unfold RawR.sz at hb;omega
 have H1:=((Held.init w).and (Q:=fun w=>RawAt w ⟨s,A,n,c,D,k,e⟩ r) x).new 36 [.bool s,.slice A n c,.slice D k e]
 have H2:=H1.new 36 [.bool false,.slice none 0 0,.slice none 0 0]
 rw [show (w.alloc (.cells [.bool s,.slice A n c,.slice D k e].toArray 36)).heap.size=w.heap.size + 1 from by simp] at H2
 unfold RH.val
 have HX:=Lib.hid (And.intro x (And.intro hnl hkl))
 clear H1 x hnl hkl hb
 obtain ⟨wq,hwq⟩:∃ wq:World,wq=(w.alloc (.cells #[.bool s,.slice A n c,.slice D k e] 36)).alloc (.cells #[.bool false,.slice none 0 0,.slice none 0 0] 36):=⟨_,rfl⟩
 rw [← hwq] at H2
 have r1:=H2.has.2.1.cell 1
 have hsA:=H2.has.2.2.1.num
 have hwz:=H2.bel.size
 have hlt:=H2.has.1.lt
 have q8:(0 + n) * 4≤140737488355328:=by omega
 go_enter Tryz.func7,Tryz.ntmps7
 go_upto_region 3 with fail
 rw [← hwq]
 clear hwq
 have ho0:OwnR eU wq (w.heap.size + 2) 54 none 0 0 []:=OwnR.nil _ _ _ _
 have hq0:w.heap.size + 2≤wq.heap.size:=by omega
 go_wp2_with (first
  | (at_builtin;refine wpList_app _ eiNat eU eU_one rfl _ _ rfl (w.heap.size + 2) _ _ _ _ rfl ho0 _ _ _ _ rfl hsA q8 hq0 ?_)
  | fail)
 intro A1 c1 w1 ho1 _ hb1 _
 have ho1:OwnR eU w1 (w.heap.size + 2) 54 A1 n c1 r.num:=by simpa using ho1
 try rw [Nat.zero_add]
 have hs1:=hb1.size
 have ho1':=ho1.alloc (.cells #[.int .u32 901,.int .u32 902] 54)
 have hsl1:Sl eU (w1.alloc (.cells #[.int .u32 901,.int .u32 902] 54)) (some ⟨w1.heap.size,0,none⟩) 2 [901,902]:=Sl.litM eU w1 54 [901,902] (by simp)
 have q9:(n + 2) * 4≤140737488355328:=by omega
 have hb1':=hb1.alloc (by omega) (.cells #[.int .u32 901,.int .u32 902] 54)
 have hq1:w.heap.size + 2≤(w1.alloc (.cells #[.int .u32 901,.int .u32 902] 54)).heap.size:=by have:=hb1'.size;omega
 have HB1:=Lib.hid hb1'
 clear hb1 hb1' ho1 r1 hsA ho0
 go_wp2_with (first
  | (at_builtin;refine wpList_app _ eiNat eU eU_one rfl _ _ rfl (w.heap.size + 2) _ _ _ _ rfl ho1' _ _ _ _ rfl hsl1 q9 hq1 ?_)
  | fail)
 intro A2 c2 w2 ho2 _ hb2 _
 have hBB:=HB1.out.trans hb2
 have hs2:=hBB.size
 have r2:=(H2.has.2.1.below hBB (by omega)).cell 2
 have hraw2:=HX.out.1.below (Nat.le_refl _) (H2.bel.trans (hBB.mono (by omega)))
 have hsD:=hraw2.den
 have ho0:OwnR eU w2 w2.heap.size 54 none 0 0 []:=OwnR.nil _ _ _ _
 have q8:(0 + k) * 4≤140737488355328:=by omega
 have HB2:=Lib.hid (And.intro hBB ho2)
 clear ho1' hsl1 hb2 hBB ho2 hraw2
 go_wp2_with (first
  | (at_builtin;refine wpList_app _ eiNat eU eU_one rfl _ _ rfl w2.heap.size _ _ _ _ rfl ho0 _ _ _ _ rfl hsD q8 (Nat.le_refl _) ?_)
  | fail)
 intro D1 d1 w3 ho3 _ hb3 _
 have ho3:OwnR eU w3 w2.heap.size 54 D1 k d1 r.den:=by simpa using ho3
 try rw [Nat.zero_add]
 have hs3:=hb3.size
 have ho3':=ho3.alloc (.cells #[.int .u32 903,.int .u32 904] 54)
 have hsl3:Sl eU (w3.alloc (.cells #[.int .u32 903,.int .u32 904] 54)) (some ⟨w3.heap.size,0,none⟩) 2 [903,904]:=Sl.litM eU w3 54 [903,904] (by simp)
 have q9:(k + 2) * 4≤140737488355328:=by omega
 have hb3':=hb3.alloc hb3.size (.cells #[.int .u32 903,.int .u32 904] 54)
 have hq3:w2.heap.size≤(w3.alloc (.cells #[.int .u32 903,.int .u32 904] 54)).heap.size:=hb3'.size
 have HB3:=Lib.hid hb3'
 clear hb3 hb3' ho3 r2 hsD ho0
 go_wp2_with (first
  | (at_builtin;refine wpList_app _ eiNat eU eU_one rfl _ _ rfl w2.heap.size _ _ _ _ rfl ho3' _ _ _ _ rfl hsl3 q9 hq3 ?_)
  | fail)
 intro D2 d2 w4 ho4 _ hb4 _
 have hB4:=HB3.out.trans hb4
 have hbel:Below (w.heap.size + 2) wq w4:=HB2.out.1.trans (hB4.mono (by omega))
 have ra:=H2.has.2.1.below hbel (by omega)
 have rc:=H2.has.1.below hbel (by omega)
 have hoA:=HB2.out.2.below (Nat.le_refl _) hB4
 obtain ⟨gA,rfl,hgA⟩:∃ gA,A2=some ⟨gA,0,none⟩∧w.heap.size + 2≤gA:=by
  rcases hoA.2 with ⟨h1,h2⟩ | ⟨g,cap,cur,h1,h2,_⟩
  ·omega
  ·injection h1 with h1;exact ⟨g,h1,h2⟩
 obtain ⟨gD,rfl,hgD⟩:∃ gD,D2=some ⟨gD,0,none⟩∧w2.heap.size≤gD:=by
  rcases ho4.2 with ⟨h1,h2⟩ | ⟨g,cap,cur,h1,h2,_⟩
  ·omega
  ·injection h1 with h1;exact ⟨g,h1,h2⟩
 have hcA:=hoA.cap
 have hcD:=ho4.cap
 have r0:=ra.cell 0
 have r1:=ra.cell 1
 have r2:=ra.cell 2
 have t0:=rc.cell 0
 have t1:=rc.cell 1
 have t2:=rc.cell 2
 have f0:=rc.frozen 0
 have f1:=rc.frozen 1
 have f2:=rc.frozen 2
 have hq:=box3_put (v0:=.bool s) (v1:=.slice (some ⟨gA,0,none⟩) n c2) (v2:=.slice (some ⟨gD,0,none⟩) k d2) (g:=w.heap.size + 1) (w:=w) (by omega) rc (H2.bel.trans (hbel.mono (by omega)))
 have key:∀ {B:Option Addr} {m d:Nat} {l:List Nat},OwnR eU w4 (w.heap.size + 2) 54 B m d l→OwnR eU (((w4.setCell ⟨w.heap.size + 1,0,none⟩ (.bool s)).setCell ⟨w.heap.size + 1,1,none⟩ (.slice (some ⟨gA,0,none⟩) n c2)).setCell ⟨w.heap.size + 1,2,none⟩ (.slice (some ⟨gD,0,none⟩) k d2)) w.heap.size 54 B m d l:=fun {B m d l} ho=>by
  have hne:∀ g',B=some ⟨g',0,none⟩→g' ≠ w.heap.size + 1:=fun g' e=>by
   rcases ho.at_row with h1 | ⟨g'',h1,h2,_⟩
   ·rw [h1] at e;cases e
   ·rw [h1] at e;injection e with e;injection e with e;omega
  exact (((ho.setFar (p:=⟨w.heap.size + 1,0,none⟩) hne _).setFar (p:=⟨w.heap.size + 1,1,none⟩) hne _).setFar (p:=⟨w.heap.size + 1,2,none⟩) hne _).mono (by omega)
 have hlent:LentR (((w4.setCell ⟨w.heap.size + 1,0,none⟩ (.bool s)).setCell ⟨w.heap.size + 1,1,none⟩ (.slice (some ⟨gA,0,none⟩) n c2)).setCell ⟨w.heap.size + 1,2,none⟩ (.slice (some ⟨gD,0,none⟩) k d2)) w.heap.size ⟨s,some ⟨gA,0,none⟩,n,c2,some ⟨gD,0,none⟩,k,d2⟩ r:=
  ⟨HX.out.1.neg,HX.out.2.1,HX.out.2.2,key hoA,key (ho4.mono (by omega)),HX.out.1.nl,HX.out.1.dl,by simp only;omega,by simp only;omega⟩
 have z0:=hq.1.cell 0
 have z1:=hq.1.cell 1
 have z2:=hq.1.cell 2
 have HT:=Lib.hid (And.intro hlent hq.2)
 have i1:(n:Int)≤(c2:Int):=by omega
 have i2:(k:Int)≤(d2:Int):=by omega
 clear hlent hq key hoA ho4 ho3' hsl3 hb4 hB4 hbel ra rc HB1 HB2 HB3 H2 HX
 go_upto_region 7 with fail
 refine wp_region_lastL (S:=fun w'=>w'.cell? ⟨w.heap.size,0,none⟩=some (.bool s)∧w'.cell? ⟨w.heap.size,1,none⟩=some (.slice A n c)∧w'.cell? ⟨w.heap.size,2,none⟩=some (.slice D k e)) 16 16 (by kernel_rfl) rfl rfl rfl (by kernel_rfl) ?hS1 (fun hHeld=>?rest1)
 case hS1=>(first | exact ⟨r0,r1,r2⟩ | assumption | go_keep)
 refine tk 0 rfl ?_
 try simp only [Act.put,sp]
 refine tk 1 rfl ?_
 try simp only [Act.put,sp]
 refine tk 2 rfl ?_
 try simp only [Act.put,sp]
 refine tk 3 rfl ?_
 try simp only [Act.put,sp]
 refine tk 4 rfl ?_
 try simp only [Act.put,sp]
 refine tk 5 rfl ?_
 try simp only [Act.put,sp]
 refine tk 6 rfl ?_
 try simp only [Act.put,sp]
 refine tk 7 rfl ?_
 try simp only [Act.put,sp]
 refine tk 8 rfl ?_
 try simp only [Act.put,sp]
 refine tk 9 rfl ?_
 try simp only [Act.put,sp]
 refine tk 10 rfl ?_
 try simp only [Act.put,sp]
 refine tk 11 rfl ?_
 try simp only [Act.put,sp]
 refine tk 12 rfl ?_
 try simp only [Act.put,sp]
 refine tk 13 rfl ?_
 try simp only [Act.put,sp]
 refine tk 14 rfl ?_
 try simp only [Act.put,sp]
 refine tk 15 rfl ?_
 try simp only [Act.put,sp]
 refine wpAnyH_done (by kernel_rfl) ?_ _
 unfold AheadOf
 go_simp
 go_wp2_with fail
 exact bodyPost_ret (v:=.agg #[.bool s,.slice (some ⟨gA,0,none⟩) n c2,.slice (some ⟨gD,0,none⟩) k d2]) (by simp [results,Tryz.results7,go_sem,z0,z1,z2]) rfl ⟨⟨s,some ⟨gA,0,none⟩,n,c2,some ⟨gD,0,none⟩,k,d2⟩,rfl,HT.out.1.below (Nat.le_refl _) (below_refl_drewN _ _ 1),HT.out.2.trans (below_refl_drewN _ _ 1)⟩
set_option maxRecDepth 100000 in
set_option maxHeartbeats 2000000 in
theorem same_any (ha hb:RH) (r:RawR) (w:World) (x:RawAt w ha r) (y:RawAt w hb r) :
 Calls Tryz.prog 12 #[ha.val,hb.val] w fun e w'=>e=.returned (.bool true)∧Below w.heap.size w w':=by
 obtain ⟨s,A,n,c,D,k,e⟩:=ha
 obtain ⟨s',B,n',c',E,k',e'⟩:=hb
 obtain rfl:s=s':=x.neg.trans y.neg.symm
 obtain rfl:n=n':=x.num.len.symm.trans y.num.len
 obtain rfl:k=k':=x.den.len.symm.trans y.den.len
 have H1:=(((Held.init w).and (Q:=fun w=>RawAt w ⟨s,A,n,c,D,k,e⟩ r) x).and (Q:=fun w=>RawAt w ⟨s,B,n,c',E,k,e'⟩ r) y).new 36 [.bool s,.slice A n c,.slice D k e]
 have H2:=H1.new 36 [.bool s,.slice B n c',.slice E k e']
 rw [show (w.alloc (.cells [.bool s,.slice A n c,.slice D k e].toArray 36)).heap.size=w.heap.size + 1 from by simp] at H2
 unfold RH.val
 clear H1 x y
 obtain ⟨wq,hwq⟩:∃ wq:World,wq=(w.alloc (.cells #[.bool s,.slice A n c,.slice D k e] 36)).alloc (.cells #[.bool s,.slice B n c',.slice E k e'] 36):=⟨_,rfl⟩
 rw [← hwq] at H2
 have hA:=H2.has.2.2.2.1
 have hB:=H2.has.2.2.1
 have r0:=H2.has.2.1.cell 0
 have r1:=H2.has.2.1.cell 1
 have r2:=H2.has.2.1.cell 2
 have s0:=H2.has.1.cell 0
 have s1:=H2.has.1.cell 1
 have s2:=H2.has.1.cell 2
 have hbn:=hA.num.big
 have hbk:=hA.den.big
 have HX:=Lib.hid (And.intro hA (And.intro hB H2.bel))
 clear H2 hA hB
 go_enter Tryz.func12,Tryz.ntmps12
 go_upto_region 1 with fail
 rw [← hwq]
 clear hwq
 go_wp2_with fail
 go_loopw [5] (fun i wr=>∃ q:Nat,q≤k∧i=.int .i64 (q:Nat)∧∃ p,wr=wq.drewN p) (fun i _=>k - (intOf i).toNat)
 case atStart=>exact ⟨0,by omega,rfl,0,rfl⟩
 case round =>
  obtain ⟨q,hq,rfl,p,hwr⟩:=hrel
  have r1':wr.cell? ⟨w.heap.size,1,none⟩=some (.slice A n c):=by rw [hwr];exact r1
  have s1':wr.cell? ⟨w.heap.size + 1,1,none⟩=some (.slice B n c'):=by rw [hwr];exact s1
  have r2':wr.cell? ⟨w.heap.size,2,none⟩=some (.slice D k e):=by rw [hwr];exact r2
  have s2':wr.cell? ⟨w.heap.size + 1,2,none⟩=some (.slice E k e'):=by rw [hwr];exact s2
  have HR:=Lib.hid hwr
  have hG:RawAt wr ⟨s,A,n,c,D,k,e⟩ r∧RawAt wr ⟨s,B,n,c',E,k,e'⟩ r:=by rw [hwr];exact ⟨HX.out.1.below (Nat.le_refl _) (below_refl_drewN _ _ _),HX.out.2.1.below (Nat.le_refl _) (below_refl_drewN _ _ _)⟩
  clear hwr
  by_cases hqk:q < k
  ·obtain ⟨b1,o1,rfl,hb1,hc1⟩:=hG.1.den.at' (by simp only;omega)
   obtain ⟨b2,o2,rfl,hb2,hc2⟩:=hG.2.den.at' (by simp only;omega)
   have g1:wr.cell? ⟨b1,o1 + q,none⟩=some (eU (nth r.den q)):=hc1 q hqk
   have g2:wr.cell? ⟨b2,o2 + q,none⟩=some (eU (nth r.den q)):=hc2 q hqk
   unfold eU at g1 g2
   generalize nth r.den q=x at *
   clear hc1 hc2 hG
   go_wp2_with fail
   go_quiet (fail)
   go_wp2_with fail
   exact ⟨⟨q + 1,by omega,by go_num,p + nq,by rw [HR.out];simp [World.drewN,Nat.add_assoc]⟩,by simp [intOf];omega⟩
  ·obtain rfl:k=q:=by omega
   clear hG
   go_wp2_with fail
   go_loopw [6] (fun i wr=>∃ q:Nat,q≤n∧i=.int .i64 (q:Nat)∧∃ p,wr=wq.drewN p) (fun i _=>n - (intOf i).toNat)
   case atStart=>exact ⟨0,by omega,rfl,p,HR.out⟩
   case round =>
    obtain ⟨q,hq,rfl,p,hwr⟩:=hrel
    have r1':wr.cell? ⟨w.heap.size,1,none⟩=some (.slice A n c):=by rw [hwr];exact r1
    have s1':wr.cell? ⟨w.heap.size + 1,1,none⟩=some (.slice B n c'):=by rw [hwr];exact s1
    have r2':wr.cell? ⟨w.heap.size,2,none⟩=some (.slice D k e):=by rw [hwr];exact r2
    have s2':wr.cell? ⟨w.heap.size + 1,2,none⟩=some (.slice E k e'):=by rw [hwr];exact s2
    have HR:=Lib.hid hwr
    have hG:RawAt wr ⟨s,A,n,c,D,k,e⟩ r∧RawAt wr ⟨s,B,n,c',E,k,e'⟩ r:=by rw [hwr];exact ⟨HX.out.1.below (Nat.le_refl _) (below_refl_drewN _ _ _),HX.out.2.1.below (Nat.le_refl _) (below_refl_drewN _ _ _)⟩
    clear hwr
    by_cases hqk:q < n
    ·obtain ⟨b1,o1,rfl,hb1,hc1⟩:=hG.1.num.at' (by simp only;omega)
     obtain ⟨b2,o2,rfl,hb2,hc2⟩:=hG.2.num.at' (by simp only;omega)
     have g1:wr.cell? ⟨b1,o1 + q,none⟩=some (eU (nth r.num q)):=hc1 q hqk
     have g2:wr.cell? ⟨b2,o2 + q,none⟩=some (eU (nth r.num q)):=hc2 q hqk
     unfold eU at g1 g2
     generalize nth r.num q=x at *
     clear hc1 hc2 hG
     go_wp2_with fail
     go_quiet (fail)
     go_wp2_with fail
     exact ⟨⟨q + 1,by omega,by go_num,p + nq,by rw [HR.out];simp [World.drewN,Nat.add_assoc]⟩,by simp [intOf];omega⟩
    ·obtain rfl:n=q:=by omega
     go_wp2_with fail
     go_ret
     exact ⟨rfl,by rw [HR.out];exact HX.out.2.2.trans (below_refl_drewN _ _ _)⟩
end Go.Proofs.YtmncjibcoffmfaaGreat
