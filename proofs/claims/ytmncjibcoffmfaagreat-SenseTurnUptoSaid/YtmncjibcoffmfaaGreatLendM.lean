/- A network that was lent: its lists in memory of their own, with two marks behind each; it reads as the network. Conditions: lengths within Go's bound. -/
import Derived.Test.YtmncjibcoffmfaaGreatLendB
import Derived.Test.YtmncjibcoffmfaaGreatJ22
import Derived.Great.Walk
set_option linter.unusedVariables false
set_option linter.unusedSimpArgs false
namespace Go.Proofs.YtmncjibcoffmfaaGreat
open Go.RowKit

theorem Lst.own.parted {l l':Lst} {w:World} {b b':Nat} (h:l.own w b) (k:l'.own w b') (hne:l.e ≠ l'.e):l.val.ownBlock=none ∨ l.val.ownBlock ≠ l'.val.ownBlock:=by
 rcases h.addr with ⟨h1,_⟩ | ⟨g,h1,h2,_⟩
 ·left;unfold Lst.val;rw [h1];rfl
 ·right
  rw [h2]
  intro e
  obtain ⟨cs,r1,_⟩:=h.row h2
  obtain ⟨cs',r2,_⟩:=k.row e.symm
  unfold RowC at r1 r2
  rw [r1] at r2
  injection r2 with r2
  injection r2 with _ r3
  exact hne r3
theorem OwnR.parted {α β:Type} {enc:α→Value} {enc':β→Value} {w w':World} {b b':Nat} {e e':TypeId} {A A':Option Addr} {n n' c c':Nat} {xs:List α} {ys:List β} (h:OwnR enc w b e A n c xs) (k:OwnR enc' w b' e' A' n' c' ys) (hne:e ≠ e') (hg:w.grownBy w' (Value.slice A' n' c').ownBlock):OwnR enc w' b e A n c xs:=
 World.ownsRow.kept h hg (Lst.own.parted (l:=⟨e,1,A,n,c,xs.map enc⟩) (l':=⟨e',1,A',n',c',ys.map enc'⟩) h k hne)
theorem OwnR.partedM {α β:Type} {enc:α→Value} {k':Nat} {E:Enc β k'} {w w':World} {b b':Nat} {e e':TypeId} {A A':Option Addr} {n n' c c':Nat} {xs:List α} {ys:List β} (h:OwnR enc w b e A n c xs) (k:OwnM E w b' e' A' n' c' ys) (hne:e ≠ e') (hg:w.grownBy w' (Value.slice A' n' c').ownBlock):OwnR enc w' b e A n c xs:=
 World.ownsRow.kept h hg (Lst.own.parted (l:=⟨e,1,A,n,c,xs.map enc⟩) (l':=⟨e',k',A',n',c',ys.flatMap E.cells⟩) h k hne)
theorem OwnM.parted {α β:Type} {k':Nat} {E:Enc α k'} {enc':β→Value} {w w':World} {b b':Nat} {e e':TypeId} {A A':Option Addr} {n n' c c':Nat} {xs:List α} {ys:List β} (h:OwnM E w b e A n c xs) (k:OwnR enc' w b' e' A' n' c' ys) (hne:e ≠ e') (hg:w.grownBy w' (Value.slice A' n' c').ownBlock):OwnM E w' b e A n c xs:=
 World.ownsRow.kept h hg (Lst.own.parted (l:=⟨e,k',A,n,c,xs.flatMap E.cells⟩) (l':=⟨e',1,A',n',c',ys.map enc'⟩) h k hne)
theorem LentR.parted {β:Type} {enc':β→Value} {w w':World} {b b':Nat} {h:RH} {r:RawR} {e':TypeId} {A':Option Addr} {n' c':Nat} {ys:List β} (x:LentR w b h r) (k:OwnR enc' w b' e' A' n' c' ys) (hne:54 ≠ e') (hg:w.grownBy w' (Value.slice A' n' c').ownBlock):LentR w' b h r:=
 ⟨x.neg,x.n,x.k,x.num.parted k hne hg,x.den.parted k hne hg,x.nl,x.dl,x.nb,x.db⟩
theorem LentR.partedM {β:Type} {k':Nat} {E:Enc β k'} {w w':World} {b b':Nat} {h:RH} {r:RawR} {e':TypeId} {A':Option Addr} {n' c':Nat} {ys:List β} (x:LentR w b h r) (k:OwnM E w b' e' A' n' c' ys) (hne:54 ≠ e') (hg:w.grownBy w' (Value.slice A' n' c').ownBlock):LentR w' b h r:=
 ⟨x.neg,x.n,x.k,x.num.partedM k hne hg,x.den.partedM k hne hg,x.nl,x.dl,x.nb,x.db⟩
theorem LentR.turn {a b:World} {S:Nat→Prop} {base:Nat} {h:RH} {r:RawR} (x:LentR a base h r) (ht:Turn a b S) (hS:∀ k,base≤k→¬ S k):LentR b base h r:=by
 have key:∀ {A:Option Addr} {n c:Nat} {l:List Nat},OwnR eU a base 54 A n c l→OwnR eU b base 54 A n c l:=fun {A n c l} ho =>
  ho.turn ht fun g e=>by
   rcases ho.at_row with h1 | ⟨g',h1,h2,_⟩
   ·rw [h1] at e;cases e
   ·rw [h1] at e;injection e with e;injection e with e;exact hS g (by omega)
 exact ⟨x.neg,x.n,x.k,key x.num,key x.den,x.nl,x.dl,x.nb,x.db⟩
theorem OwnR.turnGe {α:Type} {enc:α→Value} {a b:World} {S:Nat→Prop} {base:Nat} {e:TypeId} {A:Option Addr} {n c:Nat} {xs:List α} (ho:OwnR enc a base e A n c xs) (ht:Turn a b S) (hS:∀ k,base≤k→¬ S k):OwnR enc b base e A n c xs:=
 ho.turn ht fun g e=>by
  rcases ho.at_row with h1 | ⟨g',h1,h2,_⟩
  ·rw [h1] at e;cases e
  ·rw [h1] at e;injection e with e;injection e with e;exact hS g (by omega)
theorem OwnM.turnGe {α:Type} {k:Nat} {E:Enc α k} {a b:World} {S:Nat→Prop} {base:Nat} {e:TypeId} {A:Option Addr} {n c:Nat} {xs:List α} (ho:OwnM E a base e A n c xs) (ht:Turn a b S) (hS:∀ k,base≤k→¬ S k):OwnM E b base e A n c xs:=
 ho.turn ht fun g o e=>hS g (ho.geT e).1
structure Stay (p:Prop):Prop where
 out:p
theorem wpL_build {P:Program} {ops:Array Oper} {rest:List Oper} {op:Oper} {a:Act} {w:World} {Q:Exit→Act→World→Prop} (hgd:op.guard=none) (t:TypeId) (parts:Array (Nat × Operand)) (ho:op.op=.build t parts) (cells:Array Value) (h:P.built t (parts.map fun (i,x)=>(i,a.eval x)).toList=some cells)
 (hk:wpList P ops Q rest (a.put op.dst (.agg cells)) w):wpList P ops Q (op :: rest) a w:=by
 refine wpList_plain hgd fun K hK=>?_
 unfold Oper.wp
 rw [run_build_op (S:=fun _=>True) t parts ho cells h w trivial]
 exact hK _ _ hk
theorem litU (w:World) {base:Nat} (hb:base≤w.heap.size) (k:Nat) (v:Value) (hv:v=eU k):OwnR eU (w.alloc (.cells #[v] 54)) base 54 (some ⟨w.heap.size,0,none⟩) 1 1 [k]:=by
 subst hv
 exact World.ownsRow_lit w #[eU k] 1 hb (by decide) rfl
structure LentX {α:Type} (enc:α→Value) (w:World) (lo:Nat) (eI:TypeId) (h:Option Addr × Nat × Nat) (l:List α) (m1 m2:α):Prop where
 n:h.2.1=l.length
 own:OwnR enc w lo eI h.1 (l.length + 2) h.2.2 (l ++ [m1,m2])
structure MarkR (w:World) (lo:Nat) (h:RH) (mk:Nat):Prop where
 neg:h.neg=false
 A:h.A=none
 n:h.n=0
 c:h.c=0
 k:h.k=1
 e:h.e=1
 own:OwnR eU w lo 54 h.D 1 1 [mk]
structure LentP (w:World) (lo:Nat) (A:Option Addr) (q c:Nat) (l:List RawR) (hs:List RH):Prop where
 own:OwnM ratE w lo 36 A q c hs
 row:∀ j,j < q→LentR w lo (nth hs j) (nth l j)
structure LentT (w:World) (lo:Nat) (h:Option Addr × Nat × Nat) (l:List RawR):Prop where
 n:h.2.1=l.length
 ex:∃ (hs:List RH) (h1 h2:RH),OwnM ratE w lo 36 h.1 (l.length + 2) h.2.2 (hs ++ [h1,h2])∧hs.length=l.length∧(∀ j,j < l.length→LentR w lo (nth hs j) (nth l j))∧MarkR w lo h1 97∧MarkR w lo h2 98
section
variable {α:Type} {enc:α→Value} {w w':World} {lo:Nat} {eI:TypeId} {h:Option Addr × Nat × Nat} {l:List α} {m1 m2:α}
theorem LentX.below (x:LentX enc w lo eI h l m1 m2) (hb:Below w.heap.size w w'):LentX enc w' lo eI h l m1 m2:=⟨x.n,x.own.below (Nat.le_refl _) hb⟩
theorem LentX.mono (x:LentX enc w lo eI h l m1 m2) {l2:Nat} (hl:l2≤lo):LentX enc w l2 eI h l m1 m2:=⟨x.n,x.own.mono hl⟩
theorem LentX.turn {S:Nat→Prop} (x:LentX enc w lo eI h l m1 m2) (ht:Turn w w' S) (hS:∀ k,lo≤k→¬ S k):LentX enc w' lo eI h l m1 m2:=⟨x.n,x.own.turnGe ht hS⟩
theorem LentX.parted {β:Type} {enc':β→Value} {b':Nat} {e':TypeId} {A':Option Addr} {n' c':Nat} {ys:List β} (x:LentX enc w lo eI h l m1 m2) (k:OwnR enc' w b' e' A' n' c' ys) (hne:eI ≠ e') (hg:w.grownBy w' (Value.slice A' n' c').ownBlock):LentX enc w' lo eI h l m1 m2:=⟨x.n,x.own.parted k hne hg⟩
theorem LentX.sl [Inhabited α] (x:LentX enc w lo eI h l m1 m2) (hb:l.length≤1000000000):Sl enc w h.1 l.length l∧l.length≤h.2.2:=by
 have h1:=x.own.sl (by omega)
 refine ⟨⟨rfl,by omega,fun hn=>?_⟩,by have:=x.own.cap;omega⟩
 obtain ⟨b,off,e,hlt,hc⟩:=h1.at' (by omega)
 refine ⟨b,off,e,hlt,fun j hj=>?_⟩
 rw [hc j (by omega)]
 congr 2
 unfold nth List.getD
 rw [List.getElem?_append_left hj]
theorem MarkR.below {g:RH} {k:Nat} (x:MarkR w lo g k) (hb:Below w.heap.size w w'):MarkR w' lo g k:=⟨x.neg,x.A,x.n,x.c,x.k,x.e,x.own.below (Nat.le_refl _) hb⟩
theorem LentP.below {A:Option Addr} {q c:Nat} {t:List RawR} {hs:List RH} (x:LentP w lo A q c t hs) (hb:Below w.heap.size w w'):LentP w' lo A q c t hs:=
 ⟨x.own.below (Nat.le_refl _) hb,fun j hj=>(x.row j hj).below (Nat.le_refl _) hb⟩
theorem LentT.below {t:List RawR} (x:LentT w lo h t) (hb:Below w.heap.size w w'):LentT w' lo h t:=by
 obtain ⟨n,hs,h1,h2,a1,a2,a3,a4,a5⟩:=x
 exact ⟨n,hs,h1,h2,a1.below (Nat.le_refl _) hb,a2,fun j hj=>(a3 j hj).below (Nat.le_refl _) hb,a4.below hb,a5.below hb⟩
theorem LentT.mono {t:List RawR} (x:LentT w lo h t) {l2:Nat} (hl:l2≤lo):LentT w l2 h t:=by
 obtain ⟨n,hs,h1,h2,a1,a2,a3,a4,a5⟩:=x
 exact ⟨n,hs,h1,h2,a1.mono hl,a2,fun j hj=>(a3 j hj).mono hl,⟨a4.neg,a4.A,a4.n,a4.c,a4.k,a4.e,a4.own.mono hl⟩,⟨a5.neg,a5.A,a5.n,a5.c,a5.k,a5.e,a5.own.mono hl⟩⟩
theorem LentT.turn {S:Nat→Prop} {t:List RawR} (x:LentT w lo h t) (ht:Turn w w' S) (hS:∀ k,lo≤k→¬ S k):LentT w' lo h t:=by
 obtain ⟨n,hs,h1,h2,a1,a2,a3,a4,a5⟩:=x
 exact ⟨n,hs,h1,h2,a1.turnGe ht hS,a2,fun j hj=>(a3 j hj).turn ht hS,⟨a4.neg,a4.A,a4.n,a4.c,a4.k,a4.e,a4.own.turnGe ht hS⟩,⟨a5.neg,a5.A,a5.n,a5.c,a5.k,a5.e,a5.own.turnGe ht hS⟩⟩
theorem LentT.parted {β:Type} {enc':β→Value} {b':Nat} {e':TypeId} {A':Option Addr} {n' c':Nat} {ys:List β} {t:List RawR} (x:LentT w lo h t) (k:OwnR enc' w b' e' A' n' c' ys) (h1:36 ≠ e') (h2:54 ≠ e') (hg:w.grownBy w' (Value.slice A' n' c').ownBlock):LentT w' lo h t:=by
 obtain ⟨n,hs,g1,g2,a1,a2,a3,a4,a5⟩:=x
 exact ⟨n,hs,g1,g2,a1.parted k h1 hg,a2,fun j hj=>(a3 j hj).parted k h2 hg,⟨a4.neg,a4.A,a4.n,a4.c,a4.k,a4.e,a4.own.parted k h2 hg⟩,⟨a5.neg,a5.A,a5.n,a5.c,a5.k,a5.e,a5.own.parted k h2 hg⟩⟩
theorem nth_app_lt {γ:Type} [Inhabited γ] {xs ys:List γ} {j:Nat} (h:j < xs.length):nth (xs ++ ys) j=nth xs j:=by
 unfold nth List.getD
 rw [List.getElem?_append_left h]
theorem nth_app_eq {γ:Type} [Inhabited γ] (xs:List γ) (y:γ):nth (xs ++ [y]) xs.length=y:=by
 unfold nth List.getD
 rw [List.getElem?_append_right (Nat.le_refl _)]
 simp
theorem LentT.raw {t:List RawR} (x:LentT w lo h t) (hb:t.length≤1000000000):RRow w h.1 t.length t∧t.length≤h.2.2:=by
 obtain ⟨n,hs,g1,g2,a1,a2,a3,a4,a5⟩:=x
 have hcap:t.length + 2≤h.2.2:=by
  rcases a1.2 with ⟨_,h0⟩ | ⟨g,cap,cur,e1,_,_,h3,_⟩
  ·omega
  ·injection e1 with _ _ e3;omega
 have hsl:=a1.sl (by omega) (by omega)
 refine ⟨⟨⟨hs,⟨a2,by omega,fun hp=>?_⟩,fun i hi=>(a3 i hi).raw⟩,rfl⟩,by omega⟩
 obtain ⟨b,off,e,hlt,hc⟩:=hsl.at' (by omega)
 exact ⟨b,off,e,hlt,fun j i hj hi=>by rw [hc j i (by omega) hi,nth_app_lt (by omega)]⟩
end
structure LentH (w:World) (lo:Nat) (eO:TypeId) (A:Option Addr) (n c:Nat) (hs:List (Option Addr × Nat × Nat)) (R:World→Nat→Option Addr × Nat × Nat→Prop):Prop where
 out:OwnR eS w lo eO A n c hs
 row:∀ i,i < n→R w i (nth hs i)
section
variable {w w1 w2 w3:World} {lo:Nat} {eO:TypeId} {A A':Option Addr} {n c c':Nat} {hs:List (Option Addr × Nat × Nat)} {R:World→Nat→Option Addr × Nat × Nat→Prop}
theorem LentH.len (h:LentH w lo eO A n c hs R):hs.length=n:=h.out.length
theorem LentH.below (h:LentH w lo eO A n c hs R) (hb:Below w.heap.size w w1) (hR:∀ i x,R w i x→R w1 i x):LentH w1 lo eO A n c hs R:=⟨h.out.below (Nat.le_refl _) hb,fun i hi=>hR i _ (h.row i hi)⟩
theorem LentH.turn {S:Nat→Prop} (h:LentH w lo eO A n c hs R) (ht:Turn w w1 S) (hS:∀ k,lo≤k→¬ S k) (hR:∀ i x,R w i x→R w1 i x):LentH w1 lo eO A n c hs R:=⟨h.out.turnGe ht hS,fun i hi=>hR i _ (h.row i hi)⟩
theorem LentH.snoc (h:LentH w lo eO A n c hs R) {y:Option Addr × Nat × Nat} (ho:OwnR eS w3 lo eO A' (n + 1) c' (hs ++ [y])) (hR:∀ i x,i < n→R w i x→R w3 i x) (hy:R w3 n y):LentH w3 lo eO A' (n + 1) c' (hs ++ [y]) R:=by
 refine ⟨ho,fun i hi=>?_⟩
 have hl:=h.len
 by_cases e:i=n
 ·subst e
  rw [← hl] at hy ⊢
  rw [nth_app_eq]
  exact hy
 ·rw [nth_app_lt (by omega)]
  exact hR i _ (by omega) (h.row i (by omega))
end
end Go.Proofs.YtmncjibcoffmfaaGreat
