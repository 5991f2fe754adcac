/- Joined by program out of: KeptA, KeptM. What each says stands at its own head. -/
import Derived.Test.YtmncjibcoffmfaaGreatLendN
set_option linter.unusedVariables false
set_option linter.unusedSimpArgs false
/- credenceref20.texts, walked, of texts that were lent. Conditions: lengths within Go's bound. -/
namespace Go.Proofs.YtmncjibcoffmfaaGreat
open Go.RowKit

theorem LentX.marks {α:Type} [Inhabited α] {enc:α→Value} {w:World} {lo:Nat} {eI:TypeId} {A:Option Addr} {n c:Nat} {l:List α} {m1 m2:α} (x:LentX enc w lo eI (A,n,c) l m1 m2) (hb:l.length≤1000000000) :
 ∃ g,A=some ⟨g,0,none⟩∧g < w.heap.size∧n=l.length∧w.cell? ⟨g,n,none⟩=some (enc m1)∧w.cell? ⟨g,n + 1,none⟩=some (enc m2)∧n + 2≤c∧∀ j,j < n→w.cell? ⟨g,j,none⟩=some (enc (nth l j)):=by
 have hn:n=l.length:=x.n
 have hs:=x.own.sl (by omega)
 have hc:=x.own.cap
 simp only at hs hc
 obtain ⟨g,e1,_,hlt⟩:=x.own.some (by omega)
 simp only at e1
 subst e1
 obtain ⟨b',off,e,_,hcell⟩:=hs.at' (by omega)
 injection e with e
 injection e with e1 e2
 subst e1 e2
 refine ⟨g,rfl,hlt,hn,?_,?_,by omega,fun j hj=>?_⟩
 ·have c0:=hcell n (by omega)
  rw [Nat.zero_add] at c0
  refine c0.trans ?_
  unfold nth List.getD
  rw [List.getElem?_append_right (by omega),hn,Nat.sub_self]
  rfl
 ·have c0:=hcell (n + 1) (by omega)
  rw [Nat.zero_add] at c0
  refine c0.trans ?_
  unfold nth List.getD
  rw [List.getElem?_append_right (by omega),hn,show l.length + 1 - l.length=1 by omega]
  rfl
 ·have c0:=hcell j (by omega)
  rw [Nat.zero_add,nth_app_lt (by omega)] at c0
  exact c0
set_option maxRecDepth 100000 in
set_option maxHeartbeats 2000000 in
theorem texts_any (A B:Option Addr) (n c d lo:Nat) (l:List ByteArray) (s1 s2:ByteArray) (w:World) (x:LentX Value.string w lo 9 (A,n,c) l s1 s2) (y:Sl Value.string w B n l) (hb:l.length≤1000000000) :
 Calls Tryz.prog 27 #[.slice A n c,.slice B n d,.string s1,.string s2] w fun e w'=>e=.returned (.bool true)∧Below w.heap.size w w':=by
 obtain ⟨g,rfl,hg,hn,h1,h2,hc,hcell⟩:=x.marks hb
 have hnb:(n:Int)≤1000000000:=by omega
 have hw2:IntKind.i64.wrap ((n:Int) + 2)=((n + 2:Nat):Int):=by rw [IntKind.wrap_i64];omega
 have hw1:IntKind.i64.wrap ((n:Int) + 1)=((n + 1:Nat):Int):=by rw [IntKind.wrap_i64];omega
 have hc2:n + 2≤c:=hc
 clear x hn
 go_enter Tryz.func27,Tryz.ntmps27
 go_wp2_with fail
 go_loopw [9] (fun i wr=>∃ j:Nat,j≤n∧i=.int .i64 (j:Nat)∧Below w.heap.size w wr) (fun i _=>n - (intOf i).toNat)
 case atStart=>exact ⟨0,by omega,rfl,Below.refl _ _⟩
 case round =>
  obtain ⟨j,hj,rfl,hbr⟩:=hrel
  by_cases hjn:j < n
  ·as_aux_lemma =>
   obtain ⟨b,o,rfl,hlt,hcb⟩:=y.at' (by omega)
   have g0:=bc hbr (hcell j hjn) hg
   have g1:=bc hbr (hcb j hjn) hlt
   have hjI:(j:Int) < (n:Int):=by omega
   have hbeq:(nth l j == nth l j)=true:=by simp
   generalize nth l j=t at *
   have HB:=Lib.hid hbr
   clear hcb hcell hbr
   go_upto_region 6 with fail
   refine wp_region_held_drew (S:=fun w'=>w'.cell? ⟨g,j,none⟩=some (.string t)∧w'.cell? ⟨b,o + j,none⟩=some (.string t)) (by kernel_rfl) ?hS1 (fun hHeld=>?rest1)
   case hS1=>(first | exact ⟨g0,g1⟩ | assumption | go_keep)
   refine tk 0 rfl ?_
   try simp only [Act.put,sp]
   refine tk 1 rfl ?_
   try simp only [Act.put,sp]
   refine tk 2 rfl ?_
   try simp only [Act.put,sp]
   refine tk 3 rfl ?_
   try simp only [Act.put,sp]
   refine tk 4 rfl ?_
   try simp only [Act.put,sp]
   refine tk 5 rfl ?_
   try simp only [Act.put,sp]
   refine tk 6 rfl ?_
   try simp only [Act.put,sp]
   refine tk 7 rfl ?_
   try simp only [Act.put,sp]
   refine tk 8 rfl ?_
   try simp only [Act.put,sp]
   refine wpAnyH_done (by kernel_rfl) ?_ _
   go_simp
   go_simp
   (try go_wp2_with fail)
   exact ⟨⟨j + 1,by omega,by go_num,HB.out.trans (below_refl_drewN _ _ 1)⟩,by simp [intOf];omega⟩
  ·as_aux_lemma =>
   obtain rfl:n=j:=by omega
   have g0:=bc hbr h1 hg
   have g1:=bc hbr h2 hg
   have HB:=Lib.hid hbr
   clear hbr
   go_wp2_with fail
   go_ret
   exact ⟨rfl,HB.out⟩
end Go.Proofs.YtmncjibcoffmfaaGreat
/- A table that was lent, cell by cell, with its marks. Conditions: lengths within Go's bound. -/
namespace Go.Proofs.YtmncjibcoffmfaaGreat
open Go.RowKit

structure OpenT (w:World) (lo g n:Nat) (t:List RawR) (hs:List RH) (D1 D2:Option Addr):Prop where
 lt:g < w.heap.size
 nn:n=t.length
 cells:∀ j,j < n→w.cell? ⟨g,j * 3,none⟩=some (.bool (nth hs j).neg)∧w.cell? ⟨g,j * 3 + 1,none⟩=some (.slice (nth hs j).A (nth hs j).n (nth hs j).c)∧w.cell? ⟨g,j * 3 + 2,none⟩=some (.slice (nth hs j).D (nth hs j).k (nth hs j).e)
 row:∀ j,j < n→LentR w lo (nth hs j) (nth t j)
 c1:w.cell? ⟨g,n * 3 + 2,none⟩=some (.slice D1 1 1)
 c2:w.cell? ⟨g,(n + 1) * 3 + 2,none⟩=some (.slice D2 1 1)
 m1:OwnR eU w lo 54 D1 1 1 [97]
 m2:OwnR eU w lo 54 D2 1 1 [98]
theorem LentT.opened {w:World} {lo:Nat} {A:Option Addr} {n c:Nat} {t:List RawR} (x:LentT w lo (A,n,c) t) (hb:t.length≤1000000000) :
 ∃ g hs D1 D2,A=some ⟨g,0,none⟩∧n + 2≤c∧OpenT w lo g n t hs D1 D2:=by
 have hn:n=t.length:=x.n
 obtain ⟨_,hs,g1,g2,a1,a2,a3,a4,a5⟩:=x
 simp only at a1
 have hcap:t.length + 2≤c:=by
  rcases a1.2 with ⟨_,h0⟩ | ⟨g,cap,cur,e1,_,_,h3,_⟩
  ·omega
  ·injection e1 with _ _ e3;omega
 obtain ⟨g,rfl⟩:∃ g,A=some ⟨g,0,none⟩:=by
  rcases a1.2 with ⟨_,h0⟩ | ⟨g,cap,cur,e1,_⟩
  ·omega
  ·injection e1 with e1;exact ⟨g,e1⟩
 have hsl:=a1.sl (by omega) (by omega)
 obtain ⟨b,off,e,hlt,hc⟩:=hsl.at' (by omega)
 injection e with e
 injection e with e1 e2
 subst e1 e2
 have key:∀ j i,j < t.length + 2→i < 3→w.cell? ⟨g,j * 3 + i,none⟩=(ratE.cells (nth (hs ++ [g1,g2]) j))[i]?:=fun j i hj hi=>by
  have:=hc j i hj hi
  rw [Nat.zero_add] at this
  exact this
 have e1:nth (hs ++ [g1,g2]) t.length=g1:=by
  unfold nth List.getD
  rw [List.getElem?_append_right (by omega),a2,Nat.sub_self];rfl
 have e2:nth (hs ++ [g1,g2]) (t.length + 1)=g2:=by
  unfold nth List.getD
  rw [List.getElem?_append_right (by omega),a2,show t.length + 1 - t.length=1 by omega];rfl
 subst hn
 have o1:=a4.own
 have o2:=a5.own
 refine ⟨g,hs,g1.D,g2.D,rfl,hcap,hlt,rfl,fun j hj=>?_,a3,?_,?_,o1,o2⟩
 ·have k0:=key j 0 (by omega) (by omega)
  have k1:=key j 1 (by omega) (by omega)
  have k2:=key j 2 (by omega) (by omega)
  rw [nth_app_lt (by omega)] at k0 k1 k2
  exact ⟨k0,k1,k2⟩
 ·have k2:=key t.length 2 (by omega) (by omega)
  rw [e1] at k2
  refine k2.trans ?_
  show some (Value.slice g1.D g1.k g1.e)=_
  rw [a4.k,a4.e]
 ·have k2:=key (t.length + 1) 2 (by omega) (by omega)
  rw [e2] at k2
  refine k2.trans ?_
  show some (Value.slice g2.D g2.k g2.e)=_
  rw [a5.k,a5.e]
theorem OpenT.below {w w':World} {lo g n:Nat} {t:List RawR} {hs:List RH} {D1 D2:Option Addr} (h:OpenT w lo g n t hs D1 D2) (hb:Below w.heap.size w w'):OpenT w' lo g n t hs D1 D2:=
 ⟨Nat.lt_of_lt_of_le h.lt hb.size,h.nn,fun j hj=>by
   obtain ⟨a,b,c⟩:=h.cells j hj
   exact ⟨bc hb a h.lt,bc hb b h.lt,bc hb c h.lt⟩,
  fun j hj=>(h.row j hj).below (Nat.le_refl _) hb,bc hb h.c1 h.lt,bc hb h.c2 h.lt,h.m1.below (Nat.le_refl _) hb,h.m2.below (Nat.le_refl _) hb⟩
end Go.Proofs.YtmncjibcoffmfaaGreat
