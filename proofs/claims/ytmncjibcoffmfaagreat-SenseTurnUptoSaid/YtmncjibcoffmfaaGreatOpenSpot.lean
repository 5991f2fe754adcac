/- SenseTurn's arguments, opened: a place in a network, and a fraction. Conditions: the row's own reach and bulk. -/
import Derived.Test.YtmncjibcoffmfaaGreatJ24
import Derived.Test.YtmncjibcoffmfaaGreatJ25
set_option linter.unusedVariables false
set_option linter.unusedSimpArgs false
namespace Go.Proofs.YtmncjibcoffmfaaGreat
open Go.ChangeShapes Go.WideShapes Go.ChangeAt Go.RowKit Go.Joins
section
variable {H:Type} {enc:TypeId × Value→H}
theorem list10 {α:Type} {l:List α} (h:l.length=10):∃ a b c d e f g i j k,l=[a,b,c,d,e,f,g,i,j,k]:=by
 match l,h with
 | [a,b,c,d,e,f,g,i,j,k],_=>exact ⟨a,b,c,d,e,f,g,i,j,k,rfl⟩
theorem list6 {α:Type} {l:List α} (h:l.length=6):∃ a b c d e f,l=[a,b,c,d,e,f]:=by
 match l,h with
 | [a,b,c,d,e,f],_=>exact ⟨a,b,c,d,e,f,rfl⟩
set_option maxRecDepth 100000 in
theorem open_spot {W:World} {base:Nat} {v:Value} {d:DataW H} {p:List MemPlace} (hok:Value.okWide Tryz.prog W .any base 30 v) (h:DataW.Trod enc Tryz.prog W 0 (fun _=>true) true 30 v d p) (hw:Wt Tryz.prog 30 d) (hk:Rows.uptoBulk d≤1048576) :
 ∃ (N:NetV) (A1 A2 A3 A4:Option Addr) (c1 c2 c3 c4:Nat) (x y z:Int) (A5:Option Addr) (n5 c5:Nat) (A6:Option Addr) (n6 c6:Nat),
  v=.agg #[.string N.name,.slice A1 N.names.length c1,.slice A2 N.values.length c2,.slice A3 N.parents.length c3,.slice A4 N.tables.length c4,.int .i64 x,.int .i64 y,.int .i64 z,.slice A5 n5 c5,.slice A6 n6 c6] ∧
  NetAt W N A1 A2 A3 A4 c1 c2 c3 c4∧NetB N∧totL (fun i=>(nth N.tables i).length) N.tables.length≤1000000000:=by
 obtain ⟨cs,rfl,hsz⟩:=okWide_struct Tryz.underlying30 hok
 obtain ⟨fuel,hf⟩:=h
 have hl:cs.toList.length=10:=by rw [Array.length_toList,hsz];kernel_rfl
 obtain ⟨v0,v1,v2,v3,v4,v5,v6,v7,v8,v9,hcs⟩:=list10 hl
 have hf':DataW.trod enc Tryz.prog W 0 (fun _=>true) true fuel 30 [v0,v1,v2,v3,v4,v5,v6,v7,v8,v9]=some (d,p):=by rw [← hcs];simpa [Value.cells] using hf
 obtain rfl:cs=#[v0,v1,v2,v3,v4,v5,v6,v7,v8,v9]:=by rw [← hcs]
 obtain ⟨xs,n,_,hx,_,hlen,hfs⟩:=DataW.trod_struct Tryz.underlying30 hf'
 obtain ⟨y0,y1,y2,y3,y4,y5,rfl⟩:=list6 (show xs.length=6 from hlen)
 injection hx with hd _
 subst hd
 have hw':=Wt.fields Tryz.underlying30 hw
 have w0:=Wt.each hw' 0 27 _ rfl rfl
 have g0:DataW.trod enc Tryz.prog W 0 (fun _=>true) true n 27 [v0,v1,v2,v3,v4]=some y0:=by
  have h:DataW.trod enc Tryz.prog W 0 (fun _=>true) true n 27 (([v0,v1,v2,v3,v4,v5,v6,v7,v8,v9].drop 0).take (Tryz.prog.cellsOf 27))=some y0:=hfs 0 _ rfl
  rw [show Tryz.prog.cellsOf 27=5 from by kernel_rfl] at h;exact h
 have g1:DataW.trod enc Tryz.prog W 0 (fun _=>true) true n 3 [v5]=some y1:=by
  have h:DataW.trod enc Tryz.prog W 0 (fun _=>true) true n 3 (([v0,v1,v2,v3,v4,v5,v6,v7,v8,v9].drop 5).take (Tryz.prog.cellsOf 3))=some y1:=hfs 1 _ rfl
  rw [show Tryz.prog.cellsOf 3=1 from by kernel_rfl] at h;exact h
 have g2:DataW.trod enc Tryz.prog W 0 (fun _=>true) true n 3 [v6]=some y2:=by
  have h:DataW.trod enc Tryz.prog W 0 (fun _=>true) true n 3 (([v0,v1,v2,v3,v4,v5,v6,v7,v8,v9].drop 6).take (Tryz.prog.cellsOf 3))=some y2:=hfs 2 _ rfl
  rw [show Tryz.prog.cellsOf 3=1 from by kernel_rfl] at h;exact h
 have g3:DataW.trod enc Tryz.prog W 0 (fun _=>true) true n 3 [v7]=some y3:=by
  have h:DataW.trod enc Tryz.prog W 0 (fun _=>true) true n 3 (([v0,v1,v2,v3,v4,v5,v6,v7,v8,v9].drop 7).take (Tryz.prog.cellsOf 3))=some y3:=hfs 3 _ rfl
  rw [show Tryz.prog.cellsOf 3=1 from by kernel_rfl] at h;exact h
 have g4:DataW.trod enc Tryz.prog W 0 (fun _=>true) true n 28 [v8]=some y4:=by
  have h:DataW.trod enc Tryz.prog W 0 (fun _=>true) true n 28 (([v0,v1,v2,v3,v4,v5,v6,v7,v8,v9].drop 8).take (Tryz.prog.cellsOf 28))=some y4:=hfs 4 _ rfl
  rw [show Tryz.prog.cellsOf 28=1 from by kernel_rfl] at h;exact h
 have g5:DataW.trod enc Tryz.prog W 0 (fun _=>true) true n 28 [v9]=some y5:=by
  have h:DataW.trod enc Tryz.prog W 0 (fun _=>true) true n 28 (([v0,v1,v2,v3,v4,v5,v6,v7,v8,v9].drop 9).take (Tryz.prog.cellsOf 28))=some y5:=hfs 5 _ rfl
  rw [show Tryz.prog.cellsOf 28=1 from by kernel_rfl] at h;exact h
 clear hfs hf hf' hw hw' hok hcs hl hsz
 have hk0:Rows.uptoBulk y0.1≤1048576:=by
  simp only [List.map_cons,List.map_nil,Rows.uptoBulk,Rows.uptoBulkAll] at hk
  omega
 obtain ⟨N,A1,A2,A3,A4,c1,c2,c3,c4,hcs,r1,r2,r3⟩:=open_net (by rfl) g0 w0 hk0
 unfold netC at hcs
 simp only [List.cons.injEq,and_true] at hcs
 obtain ⟨rfl,rfl,rfl,rfl,rfl⟩:=hcs
 obtain ⟨x,rfl,_⟩:=cell_int (W:=W) Tryz.underlying3 n v5 y1 g1
 obtain ⟨y,rfl,_⟩:=cell_int (W:=W) Tryz.underlying3 n v6 y2 g2
 obtain ⟨z,rfl,_⟩:=cell_int (W:=W) Tryz.underlying3 n v7 y3 g3
 obtain ⟨A5,n5,c5,h8⟩:=slice_form Tryz.underlying28 g4
 obtain ⟨A6,n6,c6,h9⟩:=slice_form Tryz.underlying28 g5
 simp only [List.cons.injEq,and_true] at h8 h9
 subst h8 h9
 exact ⟨N,A1,A2,A3,A4,c1,c2,c3,c4,x,y,z,A5,n5,c5,A6,n6,c6,rfl,r1,r2,r3⟩
set_option maxRecDepth 100000 in
theorem open_ratarg {W:World} {base:Nat} {v:Value} {d:DataW H} {p:List MemPlace} (hok:Value.okWide Tryz.prog W .any base 36 v) (h:DataW.Trod enc Tryz.prog W 0 (fun _=>true) true 36 v d p) (hw:Wt Tryz.prog 36 d) :
 ∃ (hx:RH) (r:RawR),v=hx.val∧RawAt W hx r∧r.sz + 1≤Rows.uptoBulk d:=by
 obtain ⟨cs,rfl,hsz⟩:=okWide_struct Tryz.underlying36 hok
 obtain ⟨fuel,hf⟩:=h
 have hl:cs.toList.length=3:=by rw [Array.length_toList,hsz];kernel_rfl
 have hf':DataW.trod enc Tryz.prog W 0 (fun _=>true) true fuel 36 cs.toList=some (d,p):=by simpa [Value.cells] using hf
 obtain ⟨hx,r,e,h1,h2⟩:=open_rat hl hf' hw
 refine ⟨hx,r,?_,h1,h2⟩
 unfold RH.val
 congr 1
 rw [← Array.toArray_toList (xs:=cs),e]
 rfl
end
theorem sense_row (N:NetV) (A1 A2 A3 A4:Option Addr) (c1 c2 c3 c4:Nat) (v row value:Int) (A5:Option Addr) (n5 c5:Nat) (A6:Option Addr) (n6 c6:Nat) (hx:RH) (rx:RawR) (w:World) (h:NetAt w N A1 A2 A3 A4 c1 c2 c3 c4) (hB:NetB N) (ht:totL (fun i=>(nth N.tables i).length) N.tables.length≤1000000000) (hr:RawAt w hx rx) (hsz:rx.sz≤1048576) :
 Calls Tryz.prog 3 #[.agg #[.string N.name,.slice A1 N.names.length c1,.slice A2 N.values.length c2,.slice A3 N.parents.length c3,.slice A4 N.tables.length c4,.int .i64 v,.int .i64 row,.int .i64 value,.slice A5 n5 c5,.slice A6 n6 c6],hx.val] w fun e w'=>e=.returned (.bool true)∧Below w.heap.size w w':=
 sense_any N A1 A2 A3 A4 c1 c2 c3 c4 v row value hx rx A5 A6 n5 c5 n6 c6 w h hB ht hr (by omega)
end Go.Proofs.YtmncjibcoffmfaaGreat
