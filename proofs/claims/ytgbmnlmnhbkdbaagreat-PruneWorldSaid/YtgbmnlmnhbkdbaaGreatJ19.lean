/- Joined by program out of: Apart, HuntLaw, Mended, EvenLaw, Blank, Small, Alive. What each says stands at its own head. -/
import Derived.Test.YtgbmnlmnhbkdbaaGreatTells
import Derived.Test.YtgbmnlmnhbkdbaaGreatJ15
import Derived.Test.YtgbmnlmnhbkdbaaGreatJ6
import Derived.Test.YtgbmnlmnhbkdbaaGreatJ8
import Derived.Test.YtgbmnlmnhbkdbaaGreatJ18
import Derived.Test.YtgbmnlmnhbkdbaaGreatJ16
import Derived.Deep.CutRange
import Derived.Test.YtgbmnlmnhbkdbaaGreatLook
import Derived.Deep.RegionWith
set_option linter.unusedVariables false
set_option linter.unusedSimpArgs false
/- sep.Apart, walked: whether some points tell nothing of others. Conditions: the parents and the points within Go's bound. -/
namespace Go.Proofs.YtgbmnlmnhbkdbaaGreat
open Go.RowKit

theorem ISet.zero {w:World} {C:Option Addr} {k:Nat} {l:List Int} (h:ISet w C k l):((k:Int)=0) ↔ l=[]:=by
 obtain ⟨xs,h1,_,h3⟩:=h
 have hl:=h1.len
 constructor
 ·intro hk
  have hx:xs=[]:=List.eq_nil_of_length_eq_zero (by omega)
  subst hx
  cases l with
  | nil=>rfl
  | cons y l=>have:=(h3 y).2 (by simp);simp at this
 ·rintro rfl
  cases xs with
  | nil=>simp at hl;omega
  | cons y xs=>have:=(h3 y).1 (by simp);simp at this
noncomputable def toldC (Ps:List (List Int)) (a given:List Int):List Int:=castL (toldL (toG Ps) given (a.map Int.toNat))
noncomputable def apartB (Ps:List (List Int)) (a b given:List Int):Bool:=if lookE Ps given (a ++ b)=0 then decide (∀ y,y ∈ b→y ∉ toldC Ps a given) else false
theorem apartB_filter {Ps:List (List Int)} {a b given:List Int} (h:lookE Ps given (a ++ b)=0):decide (((toldC Ps a given).filter fun x=>b.contains x)=[])=apartB Ps a b given:=by
 unfold apartB
 rw [if_pos h,Bool.eq_iff_iff,decide_eq_true_iff,decide_eq_true_iff,List.filter_eq_nil_iff]
 constructor
 ·intro h1 y hy hy2;exact h1 y hy2 (by simpa using hy)
 ·intro h1 y hy hy2;exact h1 y (by simpa using hy2) hy
theorem apartB_bad {Ps:List (List Int)} {a b given:List Int} (h:lookE Ps given (a ++ b) ≠ 0):apartB Ps a b given=false:=by unfold apartB;rw [if_neg h]
theorem lookE_left {Ps:List (List Int)} {a b given:List Int} (h:lookE Ps given (a ++ b)=0):lookE Ps given a=0:=by
 obtain ⟨h1,h2,h3⟩:=lookE_inv h
 refine lookE_ok h1 h2 ?_
 rw [inRow_iff] at h3 ⊢
 exact fun p hp=>h3 p (by simp [hp])
theorem toldC_length (Ps:List (List Int)) (a given:List Int):(toldC Ps a given).length≤Ps.length:=by
 unfold toldC castL toldL
 rw [List.length_map]
 have:=ptsOf_length_le (toG Ps).length fun x=>(∃ u,CameS (toG Ps) given (a.map Int.toNat) (x,u))∧zB given x=false
 rw [toG_length] at this;rw [toG_length];exact this
theorem rows_two {w:World} {B0 B1:Option Addr} {m1 d1 m2 d2:Nat} {a b:List Int} (ha:Sl (Value.int .i64) w B0 m1 a) (hb:Sl (Value.int .i64) w B1 m2 b) (h1:m1≤d1) (h2:m2≤d2) :
 Rows (Value.int .i64) (w.alloc (.cells #[.slice B0 m1 d1,.slice B1 m2 d2] 23)) (some ⟨w.heap.size,0,none⟩) 2 [a,b]:=by
 have hr:RowAt eS (w.alloc (.cells #[.slice B0 m1 d1,.slice B1 m2 d2] 23)) w.heap.size 23 [(B0,m1,d1),(B1,m2,d2)] []:=RowC.new w 23 [.slice B0 m1 d1,.slice B1 m2 d2]
 refine ⟨⟨[(B0,m1,d1),(B1,m2,d2)],hr.sl (by simp),fun i hi=>?_⟩,rfl⟩
 rcases (show i=0 ∨ i=1 by omega) with rfl | rfl
 ·exact ⟨ha.alloc _,h1⟩
 ·exact ⟨hb.alloc _,h2⟩
def ApartPost (w:World) (Ps:List (List Int)) (a b given:List Int) (e:Ending) (w':World):Prop:=
 e=.returned (.tuple #[.bool (apartB Ps a b given),.int .i64 (lookE Ps given (a ++ b))])∧Below w.heap.size w w'

set_option maxRecDepth 100000 in
set_option maxHeartbeats 800000 in
theorem apart_any (A B0 B1 C0:Option Addr) (n c m1 d1 m2 d2 m3 d3:Nat) (Ps:List (List Int)) (a b given:List Int) (w:World) (h:Rows (Value.int .i64) w A n Ps) (ha:Sl (Value.int .i64) w B0 m1 a) (hb:Sl (Value.int .i64) w B1 m2 b) (hg:Sl (Value.int .i64) w C0 m3 given)
 (h1:m1≤d1) (h2:m2≤d2) (hn:n * 64≤140737488351232) (hm3:m3 * 8≤140737488355328) (hm12:(m1 + m2) * 8≤140737488355328) (hnm:(n + m2) * 8≤140737488355328) :
 Calls Tryz.prog 21 #[.slice A n c,.slice B0 m1 d1,.slice B1 m2 d2,.slice C0 m3 d3] w (ApartPost w Ps a b given):=by
 obtain ⟨wa,hwa⟩:∃ wa:World,wa=w:=⟨_,rfl⟩
 subst hwa
 have hrows:=rows_two ha hb h1 h2
 have HL:=Lib.hid (And.intro h.len (And.intro hm12 (And.intro ha.len hb.len)))
 have H0:=(((Held.start (P:=fun w=>Rows (Value.int .i64) w A n Ps) wa h).sl ha).sl hb).sl hg
 have H1:=H0.alloc (.cells #[.slice B0 m1 d1,.slice B1 m2 d2] 23)
 have HH:=Lib.hid H1
 clear H0 H1 h ha hb hg hm12
 go_enter Tryz.func21,Tryz.ntmps21
 go_wp2_with fail
 refine (concat_any _ 2 2 [a,b] _ hrows (by have:=HL.out.2.1;have:=HL.out.2.2.1;have:=HL.out.2.2.2;simp;omega)).mono ?_
 rintro e w1 ⟨X,k,d,rfl,hX,hb1⟩
 have H1:=HH.out.step hb1
 have hXl:=hX.length
 have hXs:=hX.sl (by have:=HL.out.2.1;have:=HL.out.2.2.1;have:=HL.out.2.2.2;simp at hXl;omega)
 rw [show [a,b].flatten=a ++ b by simp] at hXs
 have h1r:=H1.has.2.2.2
 have h1g:=H1.has.1
 have HH1:=Lib.hid H1
 clear H1 hX hXl hrows hb1
 go_wp2_with fail
 refine (look_any A C0 X n c m3 d3 k d Ps given (a ++ b) _ h1r h1g hXs (by omega) hm3).mono ?_
 rintro e w2 ⟨hb2,A1,na,ca,Y1,nb,cb,Z1,k1,c1,D1,k2,c2,rfl,_⟩
 have H2:=HH1.out.step hb2
 clear h1r h1g hXs hb2
 by_cases hE:lookE Ps given (a ++ b)=0
 ·have HE:=Lib.hid hE
  rw [hE]
  have H3:=H2.alloc (.cells #[.slice A1 na ca,.slice Y1 nb cb,.slice Z1 k1 c1,.slice D1 k2 c2] 68)
  have h3r:=H3.has.2.2.2
  have h3a:=H3.has.2.2.1
  have h3g:=H3.has.1
  have HH3:=Lib.hid H3
  clear H2 H3 hE
  go_wp2_with fail
  refine (tells_any A B0 C0 n c m1 d1 m3 d3 Ps a given _ h3r h3a h3g hn hm3).mono ?_
  rintro e w4 ⟨hb4,C,q,dq,rfl,_,hT⟩
  have hT:=hT (lookE_left HE.out)
  have hql:=hT.length
  have hqn:q≤n:=by have:=toldC_length Ps a given;unfold toldC at this;have:=HL.out.1;omega
  have hTs:=hT.sl (by omega)
  have H4:=HH3.out.step hb4
  have HH4:=Lib.hid H4
  rw [lookE_left HE.out]
  clear H4 hb4 h3r h3a h3g hT hql
  go_wp2_with fail
  refine (of_I C q dq _ _ hTs (by omega)).mono ?_
  rintro e w5 ⟨F,kf,cf,rfl,hF,hkf,hb5⟩
  have H5:=HH4.out.step hb5
  have h5b:=H5.has.2.1
  have HH5:=Lib.hid (And.intro H5 hF)
  clear H5 hb5 hTs hF
  go_wp2_with fail
  refine (of_I B1 m2 d2 b _ h5b (by omega)).mono ?_
  rintro e w6 ⟨F2,kf2,cf2,rfl,hF2,hkf2,hb6⟩
  have H6:=HH5.out.1.step hb6
  have hF6:=HH5.out.2.1.below (Nat.le_refl _) hb6
  have HH6:=Lib.hid H6
  clear H6 hb6 h5b
  go_wp2_with fail
  refine (meet_I F F2 kf kf2 cf cf2 _ _ _ hF6 hF2.1 (by omega)).mono ?_
  rintro e w7 ⟨F3,k3,d3',rfl,hF3,hb7⟩
  have hz:=hF3.zero
  have hd:decide ((k3:Int)=0)=apartB Ps a b given:=by
   rw [← apartB_filter HE.out]
   rw [Bool.eq_iff_iff,decide_eq_true_iff,decide_eq_true_iff]
   exact hz
  have H7:=HH6.out.step hb7
  have HH7:=Lib.hid (And.intro H7 hd)
  clear H7 hb7 hz hd hF3 hF6 hF2
  go_wp2_with fail
  refine (len_I F3 k3 d3' _).mono ?_
  rintro e w8 ⟨rfl,hb8⟩
  have H8:=Lib.hid ((HH7.out.1.step hb8).bel)
  clear hb8
  go_wp2_with fail
  go_ret2
  refine ⟨?_,H8.out⟩
  rw [HE.out,← HH7.out.2]
  rfl
 ·have HE:=Lib.hid hE
  have hf:=apartB_bad hE
  have H3:=H2.alloc (.cells #[.slice A1 na ca,.slice Y1 nb cb,.slice Z1 k1 c1,.slice D1 k2 c2] 68)
  have HB:=Lib.hid (And.intro H3.bel hf)
  clear H2 H3 hf
  go_wp2_with fail
  go_ret2
  exact ⟨by rw [HB.out.2];rfl,HB.out.1⟩
end Go.Proofs.YtgbmnlmnhbkdbaaGreat
/- Plain law: what is above what is given is closed upward (for seats without the document's side). No condition. -/
namespace Go.Proofs.YtgbmnlmnhbkdbaaGreat

end Go.Proofs.YtgbmnlmnhbkdbaaGreat
/- credencelaw16's points, mended, walked: points out of any numbers; parents that may be, out of any. Conditions: the lists read, within Go's bound. -/
namespace Go.Proofs.YtgbmnlmnhbkdbaaGreat
open Go.RowKit

def PointsPost (m n:Nat) (w:World) (e:Ending) (w':World):Prop:=
 ∃ B d ys,e=.returned (.slice B (if 0 < n then m else 0) d)∧OwnR (Value.int .i64) w' w.heap.size 3 B (if 0 < n then m else 0) d ys∧(∀ y,y ∈ ys→0≤y∧y < (n:Int))∧Below w.heap.size w w'

structure Mats (w:World) (base:Nat) (A:Option Addr) (n c:Nat) (Ps:List (List Int)) (vs:List (Option Addr × Nat × Nat)):Prop where
 out:OwnR eS w base 23 A n c vs
 row:∀ i,i < n→OwnR (Value.int .i64) w base 3 (nth vs i).1 (nth vs i).2.1 (nth vs i).2.2 (nth Ps i)
 len:Ps.length=n
theorem Mats.below {w w':World} {base:Nat} {A:Option Addr} {n c:Nat} {Ps:List (List Int)} {vs:List (Option Addr × Nat × Nat)} (h:Mats w base A n c Ps vs) (hb:Below w.heap.size w w'):Mats w' base A n c Ps vs:=
 ⟨h.out.below (Nat.le_refl _) hb,fun i hi=>(h.row i hi).below (Nat.le_refl _) hb,h.len⟩
instance {base:Nat} {A:Option Addr} {n c:Nat} {Ps:List (List Int)} {vs:List (Option Addr × Nat × Nat)}:Stable (fun w=>Mats w base A n c Ps vs):=⟨fun hb h=>h.below hb⟩
theorem Mats.rows {w:World} {base:Nat} {A:Option Addr} {n c:Nat} {Ps:List (List Int)} {vs:List (Option Addr × Nat × Nat)} (h:Mats w base A n c Ps vs) (hn:n≤140737488351232) (hb:∀ i,i < n→(nth Ps i).length≤140737488351232):Rows (Value.int .i64) w A n Ps:=by
 refine ⟨⟨vs,h.out.sl hn,fun i hi=>?_⟩,h.len⟩
 have h1:=h.row i hi
 have h2:=h1.length
 exact ⟨h1.sl (by have:=hb i hi;omega),h1.cap⟩
def Mend (Ps:List (List Int)):Prop:=∀ i,i < Ps.length→(∀ p,p ∈ nth Ps i→0≤p∧p < (i:Int))∧(nth Ps i).Nodup∧(nth Ps i).length≤4
theorem Mend.snoc {Ps:List (List Int)} (h:Mend Ps) {l:List Int} (h1:∀ p,p ∈ l→0≤p∧p < (Ps.length:Int)) (h2:l.Nodup) (h3:l.length≤4):Mend (Ps ++ [l]):=by
 intro i hi
 rw [List.length_append,List.length_singleton] at hi
 rcases Nat.lt_or_ge i Ps.length with h4 | h4
 ·rw [nth_append_left h4];exact h i h4
 ·obtain rfl:i=Ps.length:=by omega
  rw [nth_append_right (Nat.le_refl _),Nat.sub_self]
  exact ⟨h1,h2,h3⟩
theorem Mats.snoc {w w':World} {base:Nat} {A A':Option Addr} {n c c':Nat} {Ps:List (List Int)} {vs:List (Option Addr × Nat × Nat)} (h:Mats w base A n c Ps vs) {R:Option Addr} {m d:Nat} {l:List Int} (hr:OwnR (Value.int .i64) w base 3 R m d l) (ho:OwnR eS w' base 23 A' (n + 1) c' (vs ++ [(R,m,d)]))
 (hg:(w.alloc (.cells #[.slice R m d] 23)).grownBy w' (Value.slice A n c).ownBlock) (hne:(3:TypeId) ≠ 23):Mats w' base A' (n + 1) c' (Ps ++ [l]) (vs ++ [(R,m,d)]):=by
 have hvl:=h.out.length
 have keep:∀ {X:Option Addr} {a b:Nat} {ys:List Int},OwnR (Value.int .i64) w base 3 X a b ys→OwnR (Value.int .i64) w' base 3 X a b ys:=fun {X a b ys} hX =>
  (hX.alloc (.cells #[.slice R m d] 23)).grown hg fun g e e2=>by
    have h2:=h.out.ownBlock_eq e2
    exact hX.kinds h.out hne e h2
 refine ⟨ho,fun i hi=>?_,by rw [List.length_append,h.len];rfl⟩
 rcases Nat.lt_or_ge i n with h1 | h1
 ·rw [nth_append_left (by omega),nth_append_left (by rw [h.len];exact h1)]
  exact keep (h.row i h1)
 ·obtain rfl:i=n:=by omega
  rw [nth_append_right (by omega),nth_append_right (by rw [h.len];exact Nat.le_refl _),hvl,h.len,Nat.sub_self]
  exact keep hr

def MendedPost (n:Nat) (w:World) (e:Ending) (w':World):Prop:=
 ∃ B k d Ms vs,e=.returned (.slice B k d)∧k=min n 30∧Mats w' w.heap.size B k d Ms vs∧Mend Ms∧Below w.heap.size w w'
end Go.Proofs.YtgbmnlmnhbkdbaaGreat
/- Plain law: apart is even, goes point by point, and is not what is told; parents that hang on points ahead may be. No condition. -/
namespace Go.Proofs.YtgbmnlmnhbkdbaaGreat

section
variable {G:List (List Nat)} {Z A B:Nat→Prop} {In:Nat→Prop}
theorem Jnd.symm {x y:Nat} (h:Jnd G In x y):Jnd G In y x:=by
 rcases h with h | h | ⟨c,h1,h2,h3⟩
 ·exact .inr (.inl h)
 ·exact .inl h
 ·exact .inr (.inr ⟨c,h1,h3,h2⟩)
theorem Mor.congr {In':Nat→Prop} (hi:∀ x,In x ↔ In' x) {x:Nat} (h:Mor G In Z A x):Mor G In' Z A x:=by
 have e:In=In':=funext fun x=>propext (hi x)
 rw [← e];exact h
end
theorem ap_up {G:List (List Nat)} {given:List Int} (hg:GoodG G) (hin:∀ z,z ∈ given→0≤z∧z < (G.length:Int)) (x:Nat):Ap G given x ↔ Up G (Zp given) x:=by
 have hs:∀ x,x ∈ given.map Int.toNat→x < G.length:=fun x hx=>by
  obtain ⟨y,hy,rfl⟩:=List.mem_map.1 hx
  have:=hin y hy
  omega
 unfold Ap aB
 rw [decide_eq_true_iff,mem_castL,mem_upList hg hs]
 have e:∀ x,x ∈ given.map Int.toNat ↔ Zp given x:=fun x=>by
  unfold Zp zB
  rw [decide_eq_true_iff,List.mem_map]
  constructor
  ·rintro ⟨y,hy,rfl⟩
   have:=hin y hy
   rwa [Int.toNat_of_nonneg this.1]
  ·intro h;exact ⟨_,h,by simp⟩
 constructor <;> exact fun h=>Up.mono (fun y hy=>by first | exact (e y).1 hy | exact (e y).2 hy) h
section
variable {Ps:List (List Int)} {a b given:List Int}
def InN (n:Nat) (l:List Int):Prop:=∀ x,x ∈ l→0≤x∧x < (n:Int)
theorem InN.row {n:Nat} {l:List Int} (h:InN n l):inRow n l=true:=inRow_iff.2 h
theorem mem_toldC {x:Int}:x ∈ toldC Ps a given ↔ ∃ z:Nat,x=(z:Int)∧z < Ps.length∧(∃ u,CameS (toG Ps) given (a.map Int.toNat) (z,u))∧zB given z=false:=by
 unfold toldC castL toldL
 rw [List.mem_map]
 constructor
 ·rintro ⟨z,hz,rfl⟩
  obtain ⟨h1,h2,h3⟩:=mem_ptsOf.1 hz
  rw [toG_length] at h1
  exact ⟨z,rfl,h1,h2,h3⟩
 ·rintro ⟨z,rfl,h1,h2,h3⟩
  exact ⟨z,mem_ptsOf.2 ⟨by rw [toG_length];exact h1,h2,h3⟩,rfl⟩
theorem InN.app {n:Nat} {l m:List Int} (h:InN n l) (k:InN n m):InN n (l ++ m):=fun x hx=>by
 rcases List.mem_append.1 hx with h1 | h1
 ·exact h x h1
 ·exact k x h1
theorem apart_iff (hl:lookE Ps given (a ++ b)=0):apartB Ps a b given=true ↔ ∀ y,y ∈ b→y ∉ toldC Ps a given:=by
 unfold apartB;rw [if_pos hl,decide_eq_true_iff]
end
end Go.Proofs.YtgbmnlmnhbkdbaaGreat
/- sep.Blanket, walked: the points that keep all others away, rising, or the error. Conditions: the parents read, within Go's bound. -/
namespace Go.Proofs.YtgbmnlmnhbkdbaaGreat
open Go.RowKit


def Bl (G:List (List Nat)) (a p:Nat):Prop:=p ≠ a∧(p ∈ nth G a ∨ ∃ c,c < G.length∧a ∈ nth G c∧(p=c ∨ p ∈ nth G c))
def blTo (G:List (List Nat)) (a q:Nat):List Int:=castL (nth G a) ++ ((nth (kids G) a).take q).flatMap fun c:Nat=>(c:Int) :: castL (nth G c)
def BlankPost (w:World) (Ps:List (List Int)) (a:Int) (e:Ending) (w':World):Prop:=
 Below w.heap.size w w'∧∃ A k c,e=.returned (.tuple #[.slice A k c,.int .i64 (lookE Ps [] [a])])∧(lookE Ps [] [a] ≠ 0→A=none∧k=0∧c=0) ∧
  (lookE Ps [] [a]=0→OwnR (Value.int .i64) w' w.heap.size 3 A k c (castL (ptsOf Ps.length (Bl (toG Ps) a.toNat))))

end Go.Proofs.YtgbmnlmnhbkdbaaGreat
/- Plain law: what is told, apart, a trail and a blanket in the chapter's small square. No condition. -/
namespace Go.Proofs.YtgbmnlmnhbkdbaaGreat

def nextC (G:List (List Nat)) (Z:List Int) (U:List Nat) (s:St):List St:=
 if (s.2 && decide ((s.1:Int) ∈ Z))=true then [] else (if (s.2 || decide (s.1 ∈ U))=true then (nth G s.1).map (fun p=>(p,true)) else []) ++ (if decide ((s.1:Int) ∈ Z)=true then [] else (nth (kids G) s.1).map (fun p=>(p,false)))
theorem nextL_calc {G:List (List Nat)} {Z:List Int} {U:List Nat} (h:upList G (Z.map Int.toNat)=U) (s:St):nextL G Z s=nextC G Z U s:=by
 have e:aB G Z s.1=decide (s.1 ∈ U):=by
  unfold aB;rw [h,Bool.eq_iff_iff,decide_eq_true_iff,decide_eq_true_iff];exact mem_castL
 unfold nextL nextC
 rw [e]
 rfl
theorem up_calc {G:List (List Nat)} {S L U:List Nat} (hr:Rising U) (hm:(∀ x,x ∈ U→x ∈ L)∧∀ x,x ∈ L→x ∈ U) (h1:∀ x,x ∈ S→x ∈ L) (h2:∀ x,x ∈ L→∀ p,p ∈ nth G x→p ∈ L)
 (h3:∀ j,j < L.length→nth L j ∈ S ∨ ∃ i,i < j∧nth L j ∈ nth G (nth L i)) (h4:∀ x,x ∈ L→x < G.length):upList G S=U:=by
 have h5:∀ j,j < L.length→Up G (· ∈ S) (nth L j):=fun j=>by
  induction j using Nat.strongRecOn with
  | ind j ih =>
    intro hj
    rcases h3 j hj with h | ⟨i,hi,h⟩
    ·exact .base h
    ·exact .step (ih i hi (by omega)) h
 have h6:∀ x,x ∈ L ↔ Up G (· ∈ S) x:=fun x=>⟨fun h=>by obtain ⟨j,hj,rfl⟩:=mem_nth h;exact h5 j hj,fun h=>by
  induction h with
  | base h=>exact h1 _ h
  | step _ hp ih=>exact h2 _ ih _ hp⟩
 unfold upList
 refine (ptsOf_eq hr fun x=>?_).symm
 rw [← h6]
 exact ⟨fun h=>⟨h4 x (hm.1 x h),hm.1 x h⟩,fun h=>hm.2 x h.2⟩
theorem told_calc {G:List (List Nat)} {Z:List Int} {U xs:List Nat} {S:List St} (hU:upList G (Z.map Int.toNat)=U) (h1:∀ a,a ∈ xs→decide ((a:Int) ∈ Z)=false→((a,true):St) ∈ S) (h2:∀ s,s ∈ S→∀ t,t ∈ nextC G Z U s→t ∈ S)
 (h3:∀ j,j < S.length→((nth S j).2=true∧(nth S j).1 ∈ xs∧decide (((nth S j).1:Int) ∈ Z)=false) ∨ ∃ i,i < j∧nth S j ∈ nextC G Z U (nth S i)) (h4:∀ s,s ∈ S→s.1 < G.length) :
 toldL G Z xs=(List.range G.length).filter fun x=>(decide (((x,true):St) ∈ S) || decide (((x,false):St) ∈ S)) && !decide ((x:Int) ∈ Z):=by
 have h5:∀ j,j < S.length→CameS G Z xs (nth S j):=fun j=>by
  induction j using Nat.strongRecOn with
  | ind j ih =>
    intro hj
    rcases h3 j hj with ⟨e1,e2,e3⟩ | ⟨i,hi,h⟩
    ·refine ⟨(nth S j).1,0,e2,e3,?_⟩
     have:(((nth S j).1,true):St)=nth S j:=by rw [← e1]
     rw [this];exact .refl _
    ·obtain ⟨a,m,g1,g2,g3⟩:=ih i hi (by omega)
     rw [← nextL_calc hU] at h
     exact ⟨a,m + 1,g1,g2,g3.snoc ((mem_nextL (h4 _ (nth_mem (by omega)))).1 h)⟩
 have h6:∀ s,s ∈ S ↔ CameS G Z xs s:=fun s=>⟨fun h=>by obtain ⟨j,hj,rfl⟩:=mem_nth h;exact h5 j hj,fun h=>by
  obtain ⟨a,m,g1,g2,g3⟩:=h
  have g4:=h1 a g1 g2
  clear g1 g2
  generalize ((a,true):St)=r at g3 g4
  induction g3 with
  | refl=>exact g4
  | snoc _ hx ih=>exact h2 _ (ih g4) _ (by rw [← nextL_calc hU];exact (mem_nextL (h4 _ (ih g4))).2 hx)⟩
 unfold toldL
 refine (ptsOf_eq (rising_filter _ _) fun x=>?_).symm
 rw [List.mem_filter,List.mem_range,Bool.and_eq_true,Bool.or_eq_true,decide_eq_true_iff,decide_eq_true_iff,Bool.not_eq_true']
 constructor
 ·rintro ⟨hx,h,hz⟩
  refine ⟨hx,?_,hz⟩
  rcases h with h | h
  ·exact ⟨true,(h6 _).1 h⟩
  ·exact ⟨false,(h6 _).1 h⟩
 ·rintro ⟨hx,⟨u,hu⟩,hz⟩
  refine ⟨hx,?_,hz⟩
  have:=(h6 _).2 hu
  cases u
  ·exact .inr this
  ·exact .inl this

abbrev smallP:List (List Int):=[[],[0],[0],[1,2],[3]]
abbrev smallG:List (List Nat):=[[],[0],[0],[1,2],[3]]
end Go.Proofs.YtgbmnlmnhbkdbaaGreat
/- credencelaw16's same, has, small, alive, walked: alive tells true. Conditions: the lists read. -/
namespace Go.Proofs.YtgbmnlmnhbkdbaaGreat
open Go.RowKit



theorem sl_lit (w:World) (xs:List Int) (hb:xs.length≤140737488351232):Sl (Value.int .i64) (w.alloc (.cells (xs.map (Value.int .i64)).toArray 3)) (some ⟨w.heap.size,0,none⟩) xs.length xs:=by
 have hr:RowAt (Value.int .i64) (w.alloc (.cells (xs.map (Value.int .i64)).toArray 3)) w.heap.size 3 xs []:=by
  have:=RowC.new w 3 (xs.map (Value.int .i64))
  unfold RowAt;rw [List.append_nil];exact this
 exact hr.sl hb
theorem alloc_size (w:World) (o:Obj):(w.alloc o).heap.size=w.heap.size + 1:=by simp
end Go.Proofs.YtgbmnlmnhbkdbaaGreat
