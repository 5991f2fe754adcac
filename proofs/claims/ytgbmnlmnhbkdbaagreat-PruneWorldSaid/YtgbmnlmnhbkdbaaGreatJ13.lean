/- Joined by program out of: Sort5I, Set1I, Lay, InsLayI. What each says stands at its own head. -/
import Derived.Test.YtgbmnlmnhbkdbaaGreatJ12
import Derived.Test.YtgbmnlmnhbkdbaaGreatJ1
import Derived.Test.YtgbmnlmnhbkdbaaGreatJ10
import Derived.Outline
import Derived.Test.YtgbmnlmnhbkdbaaGreatJ9
import Derived.Laws.IdiomCopy
import Derived.Laws.AppendOwn
import Derived.Shelf.Spec.SlicesInsert
import Derived.Shelf.Spec.SlicesInsertGrow
set_option linter.unusedVariables false
set_option linter.unusedSimpArgs false
/- slices.SortStableFunc at int, of a slice that the call owns. Condition: a length that Go's bound lets in. -/
namespace Go.Proofs.YtgbmnlmnhbkdbaaGreat
open Go.RowKit
namespace SoI

theorem sort_row (hs:Swo lt) (g n c:Nat) (xs:List Int) (rest:List Value) (w:World) (hr:RowAt (Value.int .i64) w g 3 xs rest) (hn:xs.length=n) (hbig:n≤140737488351232) :
 Calls Tryz.prog 62 #[.slice (some ⟨g,0,none⟩) n c,.func (.func 63) #[] #[]] w fun e w' =>
  e=.returned (.tuple #[])∧(∃ S:List Z,S.Perm xs.zipIdx∧Srt lt S∧RowAt (Value.int .i64) w' g 3 (S.map Prod.fst) rest)∧w.grownBy w' (some g):=by
 have hz:RowAt enc w g 3 xs.zipIdx rest:=by
  unfold RowAt at hr ⊢
  rw [hr]
  congr 4
  apply List.ext_getElem <;> simp [enc]
 have hu:Ups xs.zipIdx:=by
  unfold Ups
  rw [List.pairwise_iff_getElem]
  intro i j hi hj hij
  simpa using hij
 have H:=stable hs g n c xs.zipIdx rest w hz (by simpa using hn) hbig hu
 have H':=Lib.hid H;clear H hz hu hr hn
 go_enter Tryz.func62,Tryz.ntmps62
 go_wp2_with fail
 refine H'.out.mono ?_
 rintro e w' ⟨rfl,⟨S,h1,h2,h3⟩,hg⟩
 go_wp2_with fail
 go_end0
 refine ⟨rfl,⟨S,h1,h2,?_⟩,hg⟩
 unfold RowAt at h3 ⊢
 rw [h3]
 simp only [List.map_map]
 rfl
theorem ins_none (A:Option Addr) (c:Nat) (f:Value) (w:World):Calls Tryz.prog 86 #[.slice A 0 c,.int .i64 0,.int .i64 0,f] w fun e w'=>e=.returned (.tuple #[])∧w=w':=by
 go_enter Tryz.func86,Tryz.ntmps86
 go_wp2_with fail
 go_loop [8] (fun i=>i=.int .i64 1) (fun _=>0)
 case atStart=>rfl
 case round =>
  subst hrel
  go_wp2_with fail
  go_end0
  exact ⟨rfl,rfl⟩
theorem stable_none (A:Option Addr) (c:Nat) (f:Value) (w:World):Calls Tryz.prog 81 #[.slice A 0 c,.int .i64 0,f] w fun e w'=>e=.returned (.tuple #[])∧w=w':=by
 go_enter Tryz.func81,Tryz.ntmps81
 go_wp2_with fail
 go_loop [7,8] (fun a b=>a=.int .i64 0∧b=.int .i64 20) (fun _ _=>0)
 case atStart=>exact ⟨rfl,rfl⟩
 case round =>
  obtain ⟨rfl,rfl⟩:=hrel
  go_wp2_with fail
  refine (ins_none A c f _).mono ?_
  rintro e w' ⟨rfl,rfl⟩
  go_wp2_with fail
  go_loop [6] (fun s=>s=.int .i64 20) (fun _=>0)
  case atStart=>rfl
  case round =>
   subst hrel
   go_wp2_with fail
   go_end0
   exact ⟨rfl,rfl⟩
theorem sort_none (A:Option Addr) (c:Nat) (f:Value) (w:World):Calls Tryz.prog 62 #[.slice A 0 c,f] w fun e w'=>e=.returned (.tuple #[])∧w=w':=by
 go_enter Tryz.func62,Tryz.ntmps62
 go_wp2_with fail
 refine (stable_none A c f _).mono ?_
 rintro e w' ⟨rfl,rfl⟩
 go_wp2_with fail
 go_end0
 exact ⟨rfl,rfl⟩
theorem sort_any (hs:Swo lt) (base:Nat) (A:Option Addr) (n c:Nat) (xs:List Int) (w:World) (h:OwnR (Value.int .i64) w base 3 A n c xs) (hbig:n≤140737488351232) (hB:base≤w.heap.size) :
 Calls Tryz.prog 62 #[.slice A n c,.func (.func 63) #[] #[]] w fun e w' =>
  e=.returned (.tuple #[])∧(∃ S:List Z,S.Perm xs.zipIdx∧Srt lt S∧OwnR (Value.int .i64) w' base 3 A n c (S.map Prod.fst))∧Below base w w':=by
 rcases Nat.eq_zero_or_pos n with rfl | hn
 ·obtain rfl:xs=[]:=List.eq_nil_of_length_eq_zero h.length
  refine (sort_none A c _ w).mono ?_
  rintro e w' ⟨rfl,rfl⟩
  exact ⟨rfl,⟨[],List.Perm.refl _,List.Pairwise.nil,h⟩,Below.refl _ _⟩
 ·obtain ⟨g,rest,rfl,hbg,hr,hcap⟩:=h.row hn
  refine (sort_row hs g n c xs rest w hr h.length hbig).mono ?_
  rintro e w' ⟨rfl,⟨S,h1,h2,h3⟩,hg⟩
  have hl:(S.map Prod.fst).length=n:=by rw [List.length_map,h1.length_eq,List.length_zipIdx,h.length]
  exact ⟨rfl,⟨S,h1,h2,OwnR.of_row' h3 hbg (by rw [hl];exact hcap) h.capmax hl⟩,grown_below hg hbg hB⟩
end SoI
end Go.Proofs.YtgbmnlmnhbkdbaaGreat
/- set.Of, List, Len at int, walked. Conditions: the slice reads as a list, of a length that Go's bound lets in. -/
namespace Go.Proofs.YtgbmnlmnhbkdbaaGreat
open Go.RowKit
namespace SoI

theorem swo:Swo lt:=cmpokI.swo

set_option maxHeartbeats 400000 in
theorem of_any (A:Option Addr) (n c:Nat) (xs:List Int) (w:World) (hx:Sl (Value.int .i64) w A n xs) (hb:n * 8≤140737488355328) :
 Calls Tryz.prog 36 #[.slice A n c] w fun e w'=>∃ A' k c',e=.returned (.agg #[.slice A' k c'])∧OwnR (Value.int .i64) w' (w.heap.size + 1) 3 A' k c' (setOf cmpI xs)∧Below w.heap.size w w':=by
 have hbig:=hx.big
 go_enter Tryz.func36,Tryz.ntmps36
 go_wp2_with fail
 refine (clone_any A n c xs _ (hx.alloc _) hb).mono ?_
 rintro e w1 ⟨A1,c1,rfl,how1,hb1⟩
 go_wp2_with fail
 have hs1:w.heap.size + 1≤w1.heap.size:=by have:=hb1.size;simpa using this
 simp only [World.size_alloc] at how1 hb1
 refine (sort_any swo (w.heap.size + 1) A1 n c1 xs _ how1 hbig hs1).mono ?_
 rintro e w2 ⟨rfl,⟨S,hS1,hS2,how2⟩,hb2⟩
 go_wp2_with fail
 have hs2:w.heap.size + 1≤w2.heap.size:=Nat.le_trans hs1 hb2.size
 refine (compact_any (w.heap.size + 1) A1 n c1 _ _ how2 hbig hs2).mono ?_
 rintro e w3 ⟨k,rfl,how3,hb3⟩
 have hb13:=(hb1.trans hb2).trans hb3
 have hbox:RowC w3 w.heap.size 66 [.slice none 0 0]:=(RowC.new w 66 [.slice none 0 0]).below hb13 (Nat.lt_succ_self _)
 have r1:=hbox.cell 0
 have r2:=hbox.frozen 0
 have r3:(w3.setCell ⟨w.heap.size,0,none⟩ (.slice A1 k c1)).cell? ⟨w.heap.size,0,none⟩=some (.slice A1 k c1):=(hbox.put 0 _).cell 0
 have hfin:OwnR (Value.int .i64) (w3.setCell ⟨w.heap.size,0,none⟩ (.slice A1 k c1)) (w.heap.size + 1) 3 A1 k c1 (setOf cmpI xs):=by
  have h:=dd_setOf cmpokI hS1 hS2
  rw [← h]
  exact ownsRow_setCell_below how3 (Nat.lt_succ_self _) _
 have hbel:Below w.heap.size w (w3.setCell ⟨w.heap.size,0,none⟩ (.slice A1 k c1)):=
  (((Below.refl _ _).alloc (Nat.le_refl _) _).trans (hb13.mono (Nat.le_succ _))).setCell (Nat.le_refl _) _
 go_wp2_with fail
 exact bodyPost_ret (v:=.agg #[.slice A1 k c1]) (by simp [results,Tryz.results36,go_sem,r3]) rfl ⟨A1,k,c1,rfl,hfin,hbel⟩

theorem list_any (A:Option Addr) (n c:Nat) (xs:List Int) (w:World) (hx:Sl (Value.int .i64) w A n xs) (hb:n * 8≤140737488355328) :
 Calls Tryz.prog 60 #[.agg #[.slice A n c]] w fun e w'=>∃ A' c',e=.returned (.slice A' n c')∧OwnR (Value.int .i64) w' (w.heap.size + 1) 3 A' n c' xs∧Below w.heap.size w w':=by
 have hbig:=hx.big
 obtain ⟨i0,hi,hz0,hz1,hz2⟩:=info_parts info
 have hbox:=RowC.new w 66 [.slice A n c]
 have r1:=hbox.cell 0
 have r2:=hbox.frozen 0
 have how:=OwnR.nil (Value.int .i64) (w.alloc (.cells #[.slice A n c] 66)) (w.heap.size + 1) 3
 go_enter Tryz.func60,Tryz.ntmps60
 go_wp2_with (first
  | (at_builtin;refine wpList_append_sl _ (Value.int .i64) one rfl _ _ 23 rfl (w.heap.size + 1) 3 i0 (.int .i64 0) 8 Tryz.underlying23 hi hz0 hz1 hz2 rfl _ _ _ _ rfl how _ _ _ _ rfl (hx.alloc _) ?c1 ?c2 ?c3 ?_)
  | fail)
 case c1=>unfold maxLen;omega
 case c2=>omega
 case c3=>simp
 intro A' c' w' how' hg hb' _
 go_wp2_with fail
 go_ret
 exact ⟨A',c',rfl,by simpa using how',((Below.refl _ _).alloc (Nat.le_refl _) _).trans (hb'.mono (Nat.le_succ _))⟩
theorem len_any (A:Option Addr) (n c:Nat) (w:World) :
 Calls Tryz.prog 38 #[.agg #[.slice A n c]] w fun e w'=>e=.returned (.int .i64 n)∧Below w.heap.size w w':=by
 have hbox:=RowC.new w 66 [.slice A n c]
 have r1:=hbox.cell 0
 go_enter Tryz.func38,Tryz.ntmps38
 go_wp2_with fail
 go_ret
 exact ⟨rfl,(Below.refl _ _).alloc (Nat.le_refl _) _⟩
end SoI
end Go.Proofs.YtgbmnlmnhbkdbaaGreat
/- Plain facts on rows into which cells are laid one after the other. No condition beyond bounds. -/
namespace Go.Proofs.YtgbmnlmnhbkdbaaGreat
open Go.RowKit

def lay {α:Type} (cur:List α):Nat→List α→List α
 | _,[]=>cur
 | o,v :: r=>lay (cur.set o v) (o + 1) r
theorem RowC.lay {g:Nat} {e:TypeId}:∀ (vs:List Value) (o:Nat) (w:World) (cur:List Value),RowC w g e cur→RowC (w.setCells g o vs) g e (lay cur o vs)
 | [],_,_,_,h=>h
 | v :: r,o,w,cur,h=>by
   rw [World.setCells,Go.Proofs.YtgbmnlmnhbkdbaaGreat.lay]
   exact RowC.lay r (o + 1) _ _ (h.put o v)
end Go.Proofs.YtgbmnlmnhbkdbaaGreat
/- slices.Insert at int: the library's own proved contract, laid at this program. No condition. -/
namespace Go.Proofs.YtgbmnlmnhbkdbaaGreat
open Go.RowKit Go.Shelf
namespace SoI
end SoI
end Go.Proofs.YtgbmnlmnhbkdbaaGreat
