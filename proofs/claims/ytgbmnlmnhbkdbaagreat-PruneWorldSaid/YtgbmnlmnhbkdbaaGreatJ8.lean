/- Joined by program out of: Dag, Visit, Hunt, Moral. What each says stands at its own head. -/
import Derived.Test.YtgbmnlmnhbkdbaaGreatJ6
import Derived.Test.YtgbmnlmnhbkdbaaGreatJ7
import Derived.Test.YtgbmnlmnhbkdbaaGreatJ4
set_option linter.unusedVariables false
set_option linter.unusedSimpArgs false
/- dag.Order, Check, Children, walked: whether parents may be; the children. Conditions: the parents read, within Go's bound. -/
namespace Go.Proofs.YtgbmnlmnhbkdbaaGreat
open Go.RowKit

theorem nodup_toG {Ps:List (List Int)} (hr:inR Ps=true) (hd:Ps.any dup=false):∀ i,i < (toG Ps).length→(nth (toG Ps) i).Nodup:=by
 intro i hi
 rw [toG_length] at hi
 rw [nth_toG hi]
 have h1:dup (nth Ps i)=false:=by
  have:=List.any_eq_false.1 hd _ (nth_mem hi)
  simpa using this
 have h2:=dup_nodup h1
 have h3:=inR_row hr hi
 rw [List.nodup_iff_pairwise_ne] at h2 ⊢
 rw [List.pairwise_map]
 refine h2.imp_of_mem fun {a b} ha hb hne e=>hne ?_
 have:=h3 a ha
 have:=h3 b hb
 omega
theorem fits_check {Ps:List (List Int)} (h:fitsC Ps ≠ 0):checkP Ps=fitsC Ps:=by
 unfold fitsC at h ⊢
 by_cases h1:inR Ps=false
 ·rw [if_pos h1,checkP_3 h1]
 ·rw [if_neg h1] at h ⊢
  by_cases h2:Ps.any dup=true
  ·rw [if_pos h2,checkP_40 (by simpa using h1) h2]
  ·rw [if_neg h2] at h;exact absurd rfl h
theorem fits_ok {Ps:List (List Int)} (h:fitsC Ps=0):inR Ps=true∧Ps.any dup=false:=by
 unfold fitsC at h
 split at h
 ·omega
 ·split at h
  ·omega
  ·exact ⟨by simpa using ‹¬ inR Ps=false›,by simpa using ‹¬ Ps.any dup=true›⟩
def OrderPost (w:World) (Ps:List (List Int)) (e:Ending) (w':World):Prop:=∃ C k d,e=.returned (.tuple #[.slice C k d,.int .i64 (checkP Ps)])∧Below w.heap.size w w'

set_option maxRecDepth 100000 in
set_option maxHeartbeats 1600000 in
theorem order_any (A:Option Addr) (n c:Nat) (Ps:List (List Int)) (w:World) (h:Rows (Value.int .i64) w A n Ps) (hn:n * 24≤140737488351232):Calls Tryz.prog 30 #[.slice A n c] w (OrderPost w Ps):=by
 have hl:=h.len
 obtain ⟨wa,hwa⟩:∃ wa:World,wa=w:=⟨_,rfl⟩
 subst hwa
 have HL:=Lib.hid hl;clear hl
 go_enter Tryz.func30,Tryz.ntmps30
 go_wp2_with fail
 refine (fits_any A n c Ps _ h).mono ?_
 rintro e w1 ⟨rfl,hb⟩
 have HB:=Lib.hid hb;clear hb
 by_cases hf:fitsC Ps=0
 ·have HF:=Lib.hid hf
  rw [hf]
  obtain ⟨hr,hd⟩:=fits_ok hf
  have h1:=(h.below (Nat.le_refl _) HB.out).toNat hr
  have hnd:=nodup_toG hr hd
  have hg:=good_toG hr
  have hlg:(toG Ps).length=n:=by rw [toG_length];exact HL.out
  have HG:=Lib.hid (And.intro hnd (And.intro hg (And.intro hlg (And.intro hr hd))));clear hnd hg hlg hr hd hf
  go_wp2_with fail
  refine (children_any A n c (toG Ps) _ h1 HG.out.2.1 (fun i hi=>HG.out.1 i (by rw [HG.out.2.2.1];exact hi)) hn).mono ?_
  rintro e w2 ⟨B,d,rfl,h2,hb2⟩
  have h3:=h1.below (Nat.le_refl _) hb2
  have HB2:=Lib.hid (HB.out.trans (hb2.mono HB.out.size));clear hb2
  go_wp2_with fail
  refine (sorted_any A B n c d (toG Ps) _ h3 h2.rows HG.out.2.1 (fun i hi=>HG.out.1 i (by rw [HG.out.2.2.1];exact hi)) hn).mono ?_
  rintro e w4 ⟨C,k,d4,L,rfl,hs,hk,hst,hb4⟩
  have hkl:k≤n:=by have h1:=hk.length_le;have h2:=hs.len;have h3:=HG.out.2.2.1;omega
  have hiff:=hk.full_iff HG.out.2.1 hst
  rw [hs.len,HG.out.2.2.1] at hiff
  have HB4:=Lib.hid (And.intro (HB2.out.trans (hb4.mono HB2.out.size)) hiff);clear hb4 hs hk hst hiff h1 h2 h3
  by_cases hlt:k < n
  ·have hc:checkP Ps=42:=checkP_42 HG.out.2.2.2.1 HG.out.2.2.2.2 (fun ha=>by have:=HB4.out.2.2 ha;omega)
   have HC:=Lib.hid hc;clear hc
   go_wp2_with fail
   go_ret2
   exact ⟨none,0,0,by rw [HC.out];rfl,HB4.out.1⟩
  ·have hc:checkP Ps=0:=checkP_0 HG.out.2.2.2.1 HG.out.2.2.2.2 (HB4.out.2.1 (by omega))
   have HC:=Lib.hid hc;clear hc
   go_wp2_with fail
   go_ret2
   exact ⟨C,k,d4,by rw [HC.out];rfl,HB4.out.1⟩
 ·have hc:=fits_check hf
  have HC:=Lib.hid hc;clear hc
  generalize fitsC Ps=x at *
  go_wp2_with fail
  go_ret2
  exact ⟨none,0,0,by rw [HC.out];rfl,HB.out⟩
theorem check_dag (A:Option Addr) (n c:Nat) (Ps:List (List Int)) (w:World) (h:Rows (Value.int .i64) w A n Ps) (hn:n * 24≤140737488351232) :
 Calls Tryz.prog 14 #[.slice A n c] w fun e w'=>e=.returned (.int .i64 (checkP Ps))∧Below w.heap.size w w':=by
 go_enter Tryz.func14,Tryz.ntmps14
 go_wp2_with fail
 refine (order_any A n c Ps _ h hn).mono ?_
 rintro e w1 ⟨C,k,d,rfl,hb⟩
 have HB:=Lib.hid hb;clear hb
 go_wp2_with fail
 go_ret
 exact ⟨rfl,HB.out⟩
def ChildrenPost (w:World) (n:Nat) (Ps:List (List Int)) (e:Ending) (w':World):Prop:=
 ∃ C k d,e=.returned (.tuple #[.slice C k d,.int .i64 (checkP Ps)])∧(checkP Ps=0→k=n∧RowsF w.heap.size eN w' C n (kids (toG Ps)))∧Below w.heap.size w w'
set_option maxRecDepth 100000 in
set_option maxHeartbeats 1600000 in
theorem childrenC_any (A:Option Addr) (n c:Nat) (Ps:List (List Int)) (w:World) (h:Rows (Value.int .i64) w A n Ps) (hn:n * 24≤140737488351232):Calls Tryz.prog 56 #[.slice A n c] w (ChildrenPost w n Ps):=by
 have HL:=Lib.hid h.len
 obtain ⟨wa,hwa⟩:∃ wa:World,wa=w:=⟨_,rfl⟩
 subst hwa
 go_enter Tryz.func56,Tryz.ntmps56
 go_wp2_with fail
 refine (check_dag A n c Ps _ h hn).mono ?_
 rintro e w1 ⟨rfl,hb⟩
 have HB:=Lib.hid hb;clear hb
 by_cases hf:checkP Ps=0
 ·obtain ⟨hr,hd,_⟩:=checkP_ok hf
  have HF:=Lib.hid hf
  rw [hf]
  have h1:=(h.below (Nat.le_refl _) HB.out).toNat hr
  have hnd:=nodup_toG hr hd
  have hg:=good_toG hr
  have hlg:(toG Ps).length=n:=by rw [toG_length];exact HL.out
  have HG:=Lib.hid (And.intro hnd (And.intro hg hlg));clear hnd hg hlg hr hd hf
  go_wp2_with fail
  refine (children_any A n c (toG Ps) _ h1 HG.out.2.1 (fun i hi=>HG.out.1 i (by rw [HG.out.2.2];exact hi)) hn).mono ?_
  rintro e w2 ⟨B,d,rfl,h2,hb2⟩
  have HB2:=Lib.hid (And.intro h2 (HB.out.trans (hb2.mono HB.out.size)));clear hb2 h2 h1
  go_wp2_with fail
  go_ret2
  exact ⟨B,n,d,by rw [HF.out];rfl,fun _=>⟨rfl,HB2.out.1.mono HB.out.size⟩,HB2.out.2⟩
 ·go_wp2_with fail
  go_ret2
  exact ⟨none,0,0,rfl,fun h0=>absurd h0 hf,HB.out⟩
end Go.Proofs.YtgbmnlmnhbkdbaaGreat
/- dag.reach's closure, walked: a point that was not seen is put in. Conditions: the captured variables are the call's own. -/
namespace Go.Proofs.YtgbmnlmnhbkdbaaGreat
open Go.RowKit

structure Vis (wa wr:World) (mb sb ob:Nat) (A:Option Addr) (k c:Nat) (L:List Nat):Prop where
 map:MapI Tryz.prog 3 3 wr mb k (seenI (castL L))
 sc:RowC wr sb 50 [.map (some mb)]
 oc:RowC wr ob 23 [.slice A k c]
 oo:OwnR eN wr (ob + 1) 3 A k c L
 lt1:mb < sb
 lt2:sb < ob
 bel:Below mb wa wr
section
variable {wa wr w':World} {mb sb ob k c:Nat} {L:List Nat} {A:Option Addr}
theorem Vis.row (h:Vis wa wr mb sb ob A k c L) {b:Nat} (e:A=some ⟨b,0,none⟩):ob < b∧b < wr.heap.size:=by
 rcases h.oo.at_row with h1 | ⟨g',h1,h2,h3⟩
 ·rw [e] at h1;cases h1
 ·rw [e] at h1;injection h1 with h1;injection h1 with h1;omega
theorem Vis.step (h:Vis wa wr mb sb ob A k c L) (hb:Below wr.heap.size wr w'):Vis wa w' mb sb ob A k c L:=
 ⟨h.map.below hb,h.sc.below' hb,h.oc.below' hb,h.oo.below (Nat.le_refl _) hb,h.lt1,h.lt2,h.bel.trans (hb.mono (Nat.le_of_lt h.map.lt))⟩
end
def VisPost (wa:World) (mb sb ob:Nat) (L:List Nat) (x:Nat) (e:Ending) (w':World):Prop:=
 e=.returned (.tuple #[])∧∃ A' k' c',Vis wa w' mb sb ob A' k' c' (if x ∈ L then L else L ++ [x])

set_option maxRecDepth 100000 in
set_option maxHeartbeats 1600000 in
theorem visit_any (wa:World) (mb sb ob:Nat) (A:Option Addr) (k c:Nat) (L:List Nat) (x:Nat) (w:World) (h:Vis wa w mb sb ob A k c L) (hx:x≤140737488351232) (hk:(k + 1) * 8≤140737488355328) :
 Calls Tryz.prog 76 #[.int .i64 (x:Int),.pointer (some ⟨sb,0,none⟩),.pointer (some ⟨ob,0,none⟩)] w (VisPost wa mb sb ob L x):=by
 obtain ⟨w0,hw0⟩:∃ w0:World,w0=w:=⟨_,rfl⟩
 subst hw0
 have r1:=h.sc.cell 0
 have hmap:=h.map
 have hwf:(Lit.int .i64 (x:Int)).wf=true:=WalkArith.wf_i64 (by omega)
 have hval:=seenI_val (castL L) (x:Int)
 have hlt1:=h.lt1
 have hlt2:=h.lt2
 have hsz:=Nat.le_of_lt h.map.lt
 have HV:=Lib.hid h;clear h
 by_cases hin:x ∈ L
 ·have hc:(castL L).contains (x:Int)=true:=by rw [List.contains_iff_mem];exact mem_castL.2 hin
  rw [hc] at hval
  have HH:=Lib.hid (And.intro hval hin);clear hval hc hin
  go_enter Tryz.func76,Tryz.ntmps76
  go_wp2_with (first
   | (at_lookup;refine wpList_look_I _ rfl _ _ 50 rfl 3 3 Tryz.underlying3 Tryz.underlying50 Tryz.underlying3 (zeroI _) mb k _ rfl hmap _ rfl hwf ?_;rw [HH.out.1])
   | fail)
  go_end0
  exact ⟨rfl,A,k,c,by rw [if_pos HH.out.2];exact HV.out⟩
 ·have hc:(castL L).contains (x:Int)=false:=by rw [← Bool.not_eq_true,List.contains_iff_mem];exact fun h=>hin (mem_castL.1 h)
  rw [hc] at hval
  have HH:=Lib.hid (And.intro hval hin);clear hval hc hin
  go_enter Tryz.func76,Tryz.ntmps76
  go_wp2_with (first
   | (at_lookup;refine wpList_look_I _ rfl _ _ 50 rfl 3 3 Tryz.underlying3 Tryz.underlying50 Tryz.underlying3 (zeroI _) mb k _ rfl hmap _ rfl hwf ?_;rw [HH.out.1])
   | (at_mapUpdate;refine wpList_store_I _ rfl _ _ _ 50 rfl 3 3 Tryz.underlying3 Tryz.underlying50 Tryz.underlying3 mb k _ rfl hmap (by unfold maxLen;omega) _ rfl hwf 1 rfl (by decide) ?_)
   | fail)
  intro w1 hm1 hg1
  have hs1:=HV.out.sc.grown hg1 (by intro e;injection e;omega)
  have ho1:=HV.out.oc.grown hg1 (by intro e;injection e;omega)
  have hr1:=HV.out.oo.grown hg1 (fun g e e2=>by injection e2 with e2;have:=(HV.out.row e).1;omega)
  have hb1:=HV.out.bel.grown hg1 hsz (fun g e=>by cases e;exact Nat.le_refl _)
  have r2:=ho1.cell 0
  have hos:=hr1.alloc (.cells #[.int .i64 (x:Int)] 3)
  have hol:=ho1.lt
  have H1:=Lib.hid (And.intro hm1 (And.intro hs1 (And.intro ho1 (And.intro hr1 hb1))));clear hm1 hs1 ho1 hr1 hb1 hg1 hmap r1
  go_wp2_with (first
   | (at_builtin;refine wpList_app _ eiInt eN one_eN rfl _ _ rfl (ob + 1) _ _ _ _ rfl hos _ _ _ _ rfl (Sl.one (enc:=eN) _ _ _) (by omega) (by simp;omega) ?_)
   | fail)
  intro A9 c9 w9 ho9 hg9 _ hd9
  have hob:∀ b,(Value.slice A k c).ownBlock=some b→A=some ⟨b,0,none⟩:=fun b e=>by
   rcases HV.out.oo.at_row with h1 | ⟨g',h1,_⟩
   ·rw [h1] at e;cases e
   ·rw [h1] at e ⊢;injection e with e;rw [← e]
  have hne:∀ b,b≤ob→some b ≠ (Value.slice A k c).ownBlock:=fun b hb e=>by have:=(HV.out.row (hob b e.symm)).1;omega
  have hm2:=(H1.out.1.alloc (.cells #[.int .i64 (x:Int)] 3)).grown hg9 (hne mb (by omega))
  have hs2:=(H1.out.2.1.alloc (.cells #[.int .i64 (x:Int)] 3)).grown hg9 (hne sb (by omega))
  have ho2:=(H1.out.2.2.1.alloc (.cells #[.int .i64 (x:Int)] 3)).grown hg9 (hne ob (Nat.le_refl _))
  have hb2:=(H1.out.2.2.2.2.alloc (by omega) (.cells #[.int .i64 (x:Int)] 3)).grown hg9 (by simp;omega) (fun g e=>by have:=(HV.out.row (hob g e)).1;omega)
  have r3:=ho2.cell 0
  have f3:=ho2.frozen 0
  have hfin:Vis wa (w9.setCell ⟨ob,0,none⟩ (.slice A9 (k + 1) c9)) mb sb ob A9 (k + 1) c9 (L ++ [x]):=by
   refine ⟨(hm2.congr fun y=>?_).setCell (by simp;omega) _,hs2.far (by simp;omega) _,ho2.put 0 _,ho9.setFar (fun b e=>?_) _,hlt1,hlt2,hb2.setCell (p:=⟨ob,0,none⟩) (by simp;omega) _⟩
   ·rw [castL_snoc];exact seenI_snoc _ _ _
   ·rcases ho9.at_row with h1 | ⟨g',h1,h2,_⟩
    ·rw [e] at h1;cases h1
    ·rw [e] at h1;injection h1 with h1;injection h1 with h1;simp;omega
  have HF:=Lib.hid hfin;clear hfin hm2 hs2 ho2 hb2 ho9 hg9 hd9 r2
  go_wp2_with fail
  go_end0
  exact ⟨rfl,A9,k + 1,c9,by rw [if_neg HH.out.2];exact HF.out⟩
end Go.Proofs.YtgbmnlmnhbkdbaaGreat
/- Plain law: a hunt through all open trails: what it has come to, and the least trail to a point. No condition. -/
namespace Go.Proofs.YtgbmnlmnhbkdbaaGreat

def lexL:List Nat→List Nat→Bool
 | x :: a,y :: b=>if x=y then lexL a b else decide (x < y)
 | _,_=>false
def lessL (a b:List Nat):Bool:=if a.length=b.length then lexL a b else decide (a.length < b.length)
structure Hst (dst:Int) (Z:Nat→Prop) (P:List Nat→Prop) (L:List Bool) (b:Option (List Nat)):Prop where
 came:∀ x,nth L x=true ↔ ∃ l,P (x :: l)∧¬ Z x
 bnone:b=none→∀ x l,P (x :: l)→¬ Z x→(x:Int) ≠ dst
 bsome:∀ t,b=some t→(∃ x l,P (x :: l)∧¬ Z x∧(x:Int)=dst∧t=(x :: l).reverse)∧∀ x l,P (x :: l)→¬ Z x→(x:Int)=dst→lessL (x :: l).reverse t=false
section
variable {dst:Int} {Z:Nat→Prop} {P Q:List Nat→Prop} {L:List Bool} {b:Option (List Nat)} {x:Nat} {l:List Nat}
theorem Hst.congr (h:Hst dst Z P L b) (e:∀ l,P l ↔ Q l):Hst dst Z Q L b:=by
 have:P=Q:=funext fun l=>propext (e l)
 rw [← this];exact h
theorem Hst.none (n:Nat):Hst dst Z (fun _=>False) (List.replicate n false) none:=by
 refine ⟨fun x=>⟨fun h=>?_,fun ⟨_,h,_⟩=>h.elim⟩,fun _ _ _ h=>h.elim,fun t e=>by cases e⟩
 rcases Nat.lt_or_ge x n with h1 | h1
 ·rw [nth_eq (by simpa using h1)] at h;simp at h
 ·have:nth (List.replicate n false) x=false:=by simp [nth,List.getD,h1]
  rw [this] at h;cases h
theorem Hst.given (h:Hst dst Z P L b) (hz:Z x):Hst dst Z (fun l'=>P l' ∨ l'=x :: l) L b:=by
 have e:∀ y m,(P (y :: m) ∨ y :: m=x :: l)∧¬ Z y→P (y :: m):=fun y m ⟨hp,hn⟩=>by
  rcases hp with hp | hp
  ·exact hp
  ·injection hp with e1 e2;subst e1;exact absurd hz hn
 refine ⟨fun y=>?_,fun e0 y m hp hn=>h.bnone e0 y m (e y m ⟨hp,hn⟩) hn,fun t e0=>?_⟩
 ·rw [h.came]
  exact ⟨fun ⟨m,h1,h2⟩=>⟨m,.inl h1,h2⟩,fun ⟨m,h1,h2⟩=>⟨m,e y m ⟨h1,h2⟩,h2⟩⟩
 ·obtain ⟨⟨y,m,h1,h2,h3,h4⟩,h5⟩:=h.bsome t e0
  exact ⟨⟨y,m,.inl h1,h2,h3,h4⟩,fun y m hp hn ht=>h5 y m (e y m ⟨hp,hn⟩) hn ht⟩
end
section
variable {G:List (List Nat)} {Z Ab:Nat→Prop} {a:Nat}
def Ext (G:List (List Nat)) (Z Ab:Nat→Prop) (a:Nat) (l l':List Nat):Prop:=Trl G Z Ab a l'∧∃ e,l'=e ++ l
def Part (G:List (List Nat)) (Z Ab:Nat→Prop) (a:Nat) (l:List Nat) (k:Nat) (l':List Nat):Prop:=Trl G Z Ab a l'∧(l'=l ∨ ∃ e m,m < k∧l'=e ++ m :: l)
theorem Trl.nodup {l:List Nat} (h:Trl G Z Ab a l):l.Nodup:=by
 induction h with
 | one=>simp
 | two _ _ hn=>rw [List.nodup_cons];exact ⟨hn,by simp⟩
 | more _ _ _ hn _ ih=>rw [List.nodup_cons];exact ⟨hn,ih⟩
theorem Trl.lt {l:List Nat} (h:Trl G Z Ab a l) (ha:a < G.length):∀ x,x ∈ l→x < G.length:=by
 induction h with
 | one=>simpa using ha
 | two hn _ _=>intro x hx;rcases List.mem_cons.1 hx with rfl | hx;exact hn;rw [List.mem_singleton] at hx;subst hx;exact ha
 | more _ hn _ _ _ ih=>intro x hx;rcases List.mem_cons.1 hx with rfl | hx;exact hn;exact ih x hx
def Can (G:List (List Nat)) (Z Ab:Nat→Prop) (x:Nat) (l:List Nat) (n:Nat):Prop:=(n ∈ nth G x ∨ x ∈ nth G n)∧n ∉ x :: l∧(match l with | []=>True | q :: _=>Opn G Z Ab q x n)
end
end Go.Proofs.YtgbmnlmnhbkdbaaGreat
/- Plain law: open ways between points are ways in the moral graph of all that is above them and what is given. Condition: what is above what is given is just that. -/
namespace Go.Proofs.YtgbmnlmnhbkdbaaGreat

def Jnd (G:List (List Nat)) (In:Nat→Prop) (x y:Nat):Prop:=x ∈ nth G y ∨ y ∈ nth G x ∨ ∃ c,In c∧x ∈ nth G c∧y ∈ nth G c
inductive Mor (G:List (List Nat)) (In Z A:Nat→Prop):Nat→Prop
 | base {a:Nat}:A a→¬ Z a→Mor G In Z A a
 | step {x y:Nat}:Mor G In Z A x→Jnd G In x y→In y→¬ Z y→Mor G In Z A y
def InM (G:List (List Nat)) (Z A B:Nat→Prop) (x:Nat):Prop:=Up G (fun y=>A y ∨ B y ∨ Z y) x
def Cm (G:List (List Nat)) (Z Ab A:Nat→Prop) (s:St):Prop:=∃ a m,A a∧¬ Z a∧Go (G:=G) (Z:=Z) (Ab:=Ab) m (a,true) s
section
variable {G:List (List Nat)} {Z Ab A B:Nat→Prop}
theorem Cm.next {s t:St} (h:Cm G Z Ab A s) (hx:Nx G Z Ab s t):Cm G Z Ab A t:=by
 obtain ⟨a,m,h1,h2,h3⟩:=h
 exact ⟨a,m + 1,h1,h2,h3.snoc hx⟩
theorem Cm.start {a:Nat} (h:A a) (hz:¬ Z a):Cm G Z Ab A (a,true):=⟨a,0,h,hz,.refl _⟩
def Hit (G:List (List Nat)) (Z Ab A B:Nat→Prop):Prop:=∃ b u,B b∧¬ Z b∧Cm G Z Ab A (b,u)
theorem len_of_mem {p x:Nat} (h:p ∈ nth G x):x < G.length:=by
 rcases Nat.lt_or_ge x G.length with h4 | h4
 ·exact h4
 ·rw [show nth G x=[] by simp [nth,List.getD,List.getElem?_eq_none h4];rfl] at h;simp at h
theorem Cm.down (hA:AbOk G Z Ab) {x:Nat} (hi:InM G Z A B x):∀ {u:Bool},¬ Ab x→Cm G Z Ab A (x,u)→Hit G Z Ab A B ∨ Cm G Z Ab A (x,true):=by
 induction hi with
 | base h =>
   intro u hn hc
   rcases h with h | h | h
   ·exact .inr (.start h fun hz=>hn (hA.sub _ hz))
   ·exact .inl ⟨_,u,h,fun hz=>hn (hA.sub _ hz),hc⟩
   ·exact absurd (hA.sub _ h) hn
 | @step x p _ hp ih =>
   intro u hn hc
   have hnx:¬ Ab x:=fun h=>hn (hA.up _ h _ hp)
   have h1:Cm G Z Ab A (x,false):=hc.next (.down (fun hz=>hn (hA.sub _ hz)) (len_of_mem hp) hp)
   rcases ih hnx h1 with h2 | h2
   ·exact .inl h2
   ·exact .inr (h2.next (.up (fun h=>hnx (hA.sub _ h.2)) (.inl rfl) hp))
def Full (G:List (List Nat)) (Z Ab A:Nat→Prop) (x:Nat):Prop:=Cm G Z Ab A (x,true) ∨ (Cm G Z Ab A (x,false)∧Ab x)
theorem InM.up {x p:Nat} (h:InM G Z A B x) (hp:p ∈ nth G x):InM G Z A B p:=.step h hp
end
end Go.Proofs.YtgbmnlmnhbkdbaaGreat
