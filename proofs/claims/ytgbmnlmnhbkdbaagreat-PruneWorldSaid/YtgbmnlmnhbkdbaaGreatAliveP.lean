/- prune.Barren and credencelaw17's alive, many, walked: alive tells true; many tells whether there is too much. Conditions: the parents read. -/
import Derived.Test.YtgbmnlmnhbkdbaaGreatKept
import Derived.Test.YtgbmnlmnhbkdbaaGreatJ20
set_option linter.unusedVariables false
set_option linter.unusedSimpArgs false
namespace Go.Proofs.YtgbmnlmnhbkdbaaGreat
open Go.RowKit

set_option maxRecDepth 100000 in
set_option maxHeartbeats 400000 in
theorem barren_any (A B C:Option Addr) (n c m1 d1 m2 d2:Nat) (Ps:List (List Int)) (asked given:List Int) (w:World) (h:Rows (Value.int .i64) w A n Ps) (ha:Sl (Value.int .i64) w B m1 asked) (hg:Sl (Value.int .i64) w C m2 given) (hn:n * 24≤140737488351232) (hm:(m1 + m2) * 8≤140737488351232) :
 Calls Tryz.prog 12 #[.slice A n c,.slice B m1 d1,.slice C m2 d2] w (FitsPost w Ps (asked ++ given)):=by
 obtain ⟨wa,hwa⟩:∃ wa:World,wa=w:=⟨_,rfl⟩
 subst hwa
 have HI:=Lib.hid (And.intro h (And.intro ha hg))
 clear h ha hg
 go_enter Tryz.func12,Tryz.ntmps12
 go_wp2_with fail
 refine (fits_prune A B C n c m1 d1 m2 d2 Ps asked given _ HI.out.1 HI.out.2.1 HI.out.2.2 hn hm).mono ?_
 rintro e w1 ⟨hb,U,k,d,rfl,h1,h2⟩
 have HP:=Lib.hid (And.intro hb (And.intro h1 h2))
 clear hb h1 h2
 generalize hae:aboveE Ps (asked ++ given)=ae at *
 have HAE:=Lib.hid hae
 clear hae
 go_wp2_with fail
 go_ret2
 exact ⟨HP.out.1,U,k,d,by rw [HAE.out];rfl,by rw [HAE.out];exact HP.out.2.1,by rw [HAE.out];exact HP.out.2.2⟩
theorem chap_rows (wa:World):∃ wb,wb=(((((wa.alloc (.cells #[] 3)).alloc (.cells #[.int .i64 0] 3)).alloc (.cells #[.int .i64 1] 3)).alloc (.cells #[.int .i64 1] 3)).alloc (.cells #[.int .i64 3] 3)).alloc (.cells #[.slice (some ⟨wa.heap.size,0,none⟩) 0 0,.slice (some ⟨wa.heap.size + 1,0,none⟩) 1 1,.slice (some ⟨wa.heap.size + 1 + 1,0,none⟩) 1 1,.slice (some ⟨wa.heap.size + 1 + 1 + 1,0,none⟩) 1 1,.slice (some ⟨wa.heap.size + 1 + 1 + 1 + 1,0,none⟩) 1 1] 23) ∧
 Rows (Value.int .i64) wb (some ⟨wa.heap.size + 1 + 1 + 1 + 1 + 1,0,none⟩) 5 chapP∧Below wa.heap.size wa wb:=by
 refine ⟨_,rfl,?_,?_⟩
 ·have s1:Sl (Value.int .i64) ((wa.alloc (.cells #[] 3)).alloc (.cells #[.int .i64 0] 3)) (some ⟨wa.heap.size + 1,0,none⟩) 1 [0]:=by
   have:=sl_lit (wa.alloc (.cells #[] 3)) [0] (by simp);rw [alloc_size] at this;exact this
  have s2:Sl (Value.int .i64) (((wa.alloc (.cells #[] 3)).alloc (.cells #[.int .i64 0] 3)).alloc (.cells #[.int .i64 1] 3)) (some ⟨wa.heap.size + 1 + 1,0,none⟩) 1 [1]:=by
   have:=sl_lit ((wa.alloc (.cells #[] 3)).alloc (.cells #[.int .i64 0] 3)) [1] (by simp);rw [alloc_size,alloc_size] at this;exact this
  have s3:Sl (Value.int .i64) ((((wa.alloc (.cells #[] 3)).alloc (.cells #[.int .i64 0] 3)).alloc (.cells #[.int .i64 1] 3)).alloc (.cells #[.int .i64 1] 3)) (some ⟨wa.heap.size + 1 + 1 + 1,0,none⟩) 1 [1]:=by
   have:=sl_lit (((wa.alloc (.cells #[] 3)).alloc (.cells #[.int .i64 0] 3)).alloc (.cells #[.int .i64 1] 3)) [1] (by simp);rw [alloc_size,alloc_size,alloc_size] at this;exact this
  have s4:Sl (Value.int .i64) (((((wa.alloc (.cells #[] 3)).alloc (.cells #[.int .i64 0] 3)).alloc (.cells #[.int .i64 1] 3)).alloc (.cells #[.int .i64 1] 3)).alloc (.cells #[.int .i64 3] 3)) (some ⟨wa.heap.size + 1 + 1 + 1 + 1,0,none⟩) 1 [3]:=by
   have:=sl_lit ((((wa.alloc (.cells #[] 3)).alloc (.cells #[.int .i64 0] 3)).alloc (.cells #[.int .i64 1] 3)).alloc (.cells #[.int .i64 1] 3)) [3] (by simp);rw [alloc_size,alloc_size,alloc_size,alloc_size] at this;exact this
  have s1:=((s1.alloc (.cells #[.int .i64 1] 3)).alloc (.cells #[.int .i64 1] 3)).alloc (.cells #[.int .i64 3] 3)
  have s2:=(s2.alloc (.cells #[.int .i64 1] 3)).alloc (.cells #[.int .i64 3] 3)
  have s3:=s3.alloc (.cells #[.int .i64 3] 3)
  have hsz:((((((wa.alloc (.cells #[] 3)).alloc (.cells #[.int .i64 0] 3)).alloc (.cells #[.int .i64 1] 3)).alloc (.cells #[.int .i64 1] 3))).alloc (.cells #[.int .i64 3] 3)).heap.size=wa.heap.size + 1 + 1 + 1 + 1 + 1:=by simp
  generalize (((((wa.alloc (.cells #[] 3)).alloc (.cells #[.int .i64 0] 3)).alloc (.cells #[.int .i64 1] 3)).alloc (.cells #[.int .i64 1] 3))).alloc (.cells #[.int .i64 3] 3)=wb at *
  have hr:RowAt eS (wb.alloc (.cells #[.slice (some ⟨wa.heap.size,0,none⟩) 0 0,.slice (some ⟨wa.heap.size + 1,0,none⟩) 1 1,.slice (some ⟨wa.heap.size + 1 + 1,0,none⟩) 1 1,.slice (some ⟨wa.heap.size + 1 + 1 + 1,0,none⟩) 1 1,.slice (some ⟨wa.heap.size + 1 + 1 + 1 + 1,0,none⟩) 1 1] 23)) wb.heap.size 23
   [(some ⟨wa.heap.size,0,none⟩,0,0),(some ⟨wa.heap.size + 1,0,none⟩,1,1),(some ⟨wa.heap.size + 1 + 1,0,none⟩,1,1),(some ⟨wa.heap.size + 1 + 1 + 1,0,none⟩,1,1),(some ⟨wa.heap.size + 1 + 1 + 1 + 1,0,none⟩,1,1)] []:=RowC.new wb 23 _
  rw [hsz] at hr
  refine ⟨⟨_,hr.sl (by simp),fun i hi=>?_⟩,rfl⟩
  rcases (show i=0 ∨ i=1 ∨ i=2 ∨ i=3 ∨ i=4 by omega) with rfl | rfl | rfl | rfl | rfl
  ·exact ⟨Sl.nil _ _ _,Nat.le_refl _⟩
  ·exact ⟨s1.alloc _,Nat.le_refl _⟩
  ·exact ⟨s2.alloc _,Nat.le_refl _⟩
  ·exact ⟨s3.alloc _,Nat.le_refl _⟩
  ·exact ⟨s4.alloc _,Nat.le_refl _⟩
 ·exact ((((((Below.refl wa.heap.size wa).alloc (Nat.le_refl _) _).alloc (by simp) _).alloc (by simp;omega) _).alloc (by simp;omega) _).alloc (by simp;omega) _).alloc (by simp;omega) _
set_option maxRecDepth 100000 in
set_option maxHeartbeats 1600000 in
theorem alive17_any (w:World):Calls Tryz.prog 4 #[] w fun e w'=>e=.returned (.bool true)∧Below w.heap.size w w':=by
 obtain ⟨wa,hwa⟩:∃ wa:World,wa=w:=⟨_,rfl⟩
 subst hwa
 obtain ⟨_,rfl,hP,hb0⟩:=chap_rows wa
 have hx:=sl_lit ((((((wa.alloc (.cells #[] 3)).alloc (.cells #[.int .i64 0] 3)).alloc (.cells #[.int .i64 1] 3)).alloc (.cells #[.int .i64 1] 3)).alloc (.cells #[.int .i64 3] 3)).alloc (.cells #[.slice (some ⟨wa.heap.size,0,none⟩) 0 0,.slice (some ⟨wa.heap.size + 1,0,none⟩) 1 1,.slice (some ⟨wa.heap.size + 1 + 1,0,none⟩) 1 1,.slice (some ⟨wa.heap.size + 1 + 1 + 1,0,none⟩) 1 1,.slice (some ⟨wa.heap.size + 1 + 1 + 1 + 1,0,none⟩) 1 1] 23)) [2] (by simp)
 have hP1:=hP.below (Nat.le_refl _) ((Below.refl _ _).alloc (Nat.le_refl _) (.cells #[.int .i64 2] 3))
 have hb1:=hb0.alloc hb0.size (.cells #[.int .i64 2] 3)
 simp only [alloc_size] at hx
 have HB:=Lib.hid (And.intro hb1 (And.intro hP1 hx))
 clear hb0 hb1 hP hP1 hx
 go_enter Tryz.func4,Tryz.ntmps4
 go_wp2_with fail
 refine (barren_any _ _ none 5 5 1 1 0 0 chapP [2] [] _ HB.out.2.1 HB.out.2.2 (Sl.nil _ _ _) (by omega) (by omega)).mono ?_
 rintro e w1 ⟨hb,C1,k1,d1,rfl,h1,_⟩
 rw [chap_above _ (by decide)]
 have h1:=h1 (chap_above _ (by decide))
 rw [chap_bare] at h1
 have hk1:=h1.length
 have hs1:=h1.sl (by simp [castL] at hk1;omega)
 have hb1:=HB.out.1.trans (hb.mono HB.out.1.size)
 have hP1:=HB.out.2.1.below (Nat.le_refl _) hb
 have hP2:=(hP1.below (Nat.le_refl _) ((Below.refl w1.heap.size w1).alloc (Nat.le_refl _) (.cells #[.int .i64 2] 3))).below (Nat.le_refl _) ((Below.refl _ _).alloc (Nat.le_refl _) (.cells #[.int .i64 1,.int .i64 4] 3))
 have hx1:Sl (Value.int .i64) ((w1.alloc (.cells #[.int .i64 2] 3)).alloc (.cells #[.int .i64 1,.int .i64 4] 3)) (some ⟨w1.heap.size,0,none⟩) 1 [2]:=(sl_lit w1 [2] (by simp)).alloc _
 have hx2:Sl (Value.int .i64) ((w1.alloc (.cells #[.int .i64 2] 3)).alloc (.cells #[.int .i64 1,.int .i64 4] 3)) (some ⟨w1.heap.size + 1,0,none⟩) 2 [1,4]:=by
  have:=sl_lit (w1.alloc (.cells #[.int .i64 2] 3)) [1,4] (by simp)
  rw [alloc_size] at this;exact this
 have hs2:=(hs1.alloc (.cells #[.int .i64 2] 3)).alloc (.cells #[.int .i64 1,.int .i64 4] 3)
 have hb2:=(hb1.alloc hb1.size (.cells #[.int .i64 2] 3)).alloc (by have:=hb1.size;simp;omega) (.cells #[.int .i64 1,.int .i64 4] 3)
 have HB:=Lib.hid (And.intro hb2 (And.intro hP2 (And.intro hs2 (And.intro hx1 hx2))))
 clear hb hb1 hb2 hP1 hP2 hs1 hs2 hx1 hx2 h1 hk1
 go_wp2_with fail
 refine (kept_prune _ _ _ 5 5 1 1 2 2 chapP [2] [1,4] false true _ HB.out.2.1 HB.out.2.2.2.1 HB.out.2.2.2.2 (by omega) (by decide) (by omega) (by omega)).mono ?_
 rintro e w2 ⟨hb,C2,k2,d2,rfl,h2,_⟩
 rw [chap_above _ (by decide)]
 have h2:=h2 (chap_above _ (by decide))
 rw [chap_kept1] at h2
 have hk2:=h2.length
 have hs2:=h2.sl (by simp [castL] at hk2;omega)
 have hb2:=HB.out.1.trans (hb.mono HB.out.1.size)
 have hs1:=HB.out.2.2.1.below (Nat.le_refl _) hb
 have hP1:=HB.out.2.1.below (Nat.le_refl _) hb
 have hP2:=(hP1.below (Nat.le_refl _) ((Below.refl w2.heap.size w2).alloc (Nat.le_refl _) (.cells #[.int .i64 2] 3))).below (Nat.le_refl _) ((Below.refl _ _).alloc (Nat.le_refl _) (.cells #[.int .i64 4] 3))
 have hx1:Sl (Value.int .i64) ((w2.alloc (.cells #[.int .i64 2] 3)).alloc (.cells #[.int .i64 4] 3)) (some ⟨w2.heap.size,0,none⟩) 1 [2]:=(sl_lit w2 [2] (by simp)).alloc _
 have hx2:Sl (Value.int .i64) ((w2.alloc (.cells #[.int .i64 2] 3)).alloc (.cells #[.int .i64 4] 3)) (some ⟨w2.heap.size + 1,0,none⟩) 1 [4]:=by
  have:=sl_lit (w2.alloc (.cells #[.int .i64 2] 3)) [4] (by simp)
  rw [alloc_size] at this;exact this
 have hs1:=(hs1.alloc (.cells #[.int .i64 2] 3)).alloc (.cells #[.int .i64 4] 3)
 have hs2:=(hs2.alloc (.cells #[.int .i64 2] 3)).alloc (.cells #[.int .i64 4] 3)
 have hb3:=(hb2.alloc hb2.size (.cells #[.int .i64 2] 3)).alloc (by have:=hb2.size;simp;omega) (.cells #[.int .i64 4] 3)
 have HB:=Lib.hid (And.intro hb3 (And.intro hP2 (And.intro hs1 (And.intro hs2 (And.intro hx1 hx2)))))
 clear hb hb2 hb3 hP1 hP2 hs1 hs2 hx1 hx2 h2 hk2
 go_wp2_with fail
 refine (kept_prune _ _ _ 5 5 1 1 1 1 chapP [2] [4] true false _ HB.out.2.1 HB.out.2.2.2.2.1 HB.out.2.2.2.2.2 (by omega) (by decide) (by omega) (by omega)).mono ?_
 rintro e w3 ⟨hb,C3,k3,d3,rfl,h3,_⟩
 rw [chap_above _ (by decide)]
 have h3:=h3 (chap_above _ (by decide))
 rw [chap_kept2] at h3
 have hk3:=h3.length
 have hs3:=(h3.sl (by simp [castL] at hk3;omega)).alloc (.cells #[.int .i64 3,.int .i64 4] 3)
 have hb3:=HB.out.1.trans (hb.mono HB.out.1.size)
 have hs1:=(HB.out.2.2.1.below (Nat.le_refl _) hb).alloc (.cells #[.int .i64 3,.int .i64 4] 3)
 have hs2:=(HB.out.2.2.2.1.below (Nat.le_refl _) hb).alloc (.cells #[.int .i64 3,.int .i64 4] 3)
 have hx1:Sl (Value.int .i64) (w3.alloc (.cells #[.int .i64 3,.int .i64 4] 3)) (some ⟨w3.heap.size,0,none⟩) 2 [3,4]:=sl_lit w3 [3,4] (by simp)
 have hb4:=hb3.alloc hb3.size (.cells #[.int .i64 3,.int .i64 4] 3)
 have HB:=Lib.hid (And.intro hb4 (And.intro hs2 hs3))
 clear hb hb3 hb4 hs2 hs3 h3 hk3
 go_wp2_with fail
 refine (same_ref C1 _ k1 2 d1 2 [3,4] [3,4] _ hs1 hx1).mono ?_
 rintro e w4 ⟨rfl,t1,rfl⟩
 have hb:=below_drewN HB.out.1 t1
 have hs2:=HB.out.2.1.drewN t1
 have hs3:=HB.out.2.2.drewN t1
 generalize hwx:(w3.alloc (.cells #[.int .i64 3,.int .i64 4] 3)).drewN t1=wx at *
 clear hwx hs1 hx1
 have hx1:Sl (Value.int .i64) (wx.alloc (.cells #[.int .i64 2] 3)) (some ⟨wx.heap.size,0,none⟩) 1 [2]:=sl_lit wx [2] (by simp)
 have hs2:=hs2.alloc (.cells #[.int .i64 2] 3)
 have hs3:=hs3.alloc (.cells #[.int .i64 2] 3)
 have hb4:=hb.alloc hb.size (.cells #[.int .i64 2] 3)
 have HB:=Lib.hid (And.intro hb4 hs3)
 clear hb hb4 hs3
 rw [show decide (([3,4]:List Int)=[3,4])=true from rfl]
 go_wp2_with fail
 refine (same_ref C2 _ k2 1 d2 1 [2] [2] _ hs2 hx1).mono ?_
 rintro e w5 ⟨rfl,t2,rfl⟩
 have hb:=below_drewN HB.out.1 t2
 have hs3:=HB.out.2.drewN t2
 generalize hwy:(wx.alloc (.cells #[.int .i64 2] 3)).drewN t2=wy at *
 clear hwy hs2 hx1
 have hx1:Sl (Value.int .i64) (wy.alloc (.cells #[.int .i64 0,.int .i64 1,.int .i64 2,.int .i64 3,.int .i64 4] 3)) (some ⟨wy.heap.size,0,none⟩) 5 [0,1,2,3,4]:=sl_lit wy [0,1,2,3,4] (by simp)
 have hs3:=hs3.alloc (.cells #[.int .i64 0,.int .i64 1,.int .i64 2,.int .i64 3,.int .i64 4] 3)
 have hb4:=hb.alloc hb.size (.cells #[.int .i64 0,.int .i64 1,.int .i64 2,.int .i64 3,.int .i64 4] 3)
 have HB:=Lib.hid hb4
 clear hb hb4
 rw [show decide (([2]:List Int)=[2])=true from rfl]
 go_wp2_with fail
 refine (same_ref C3 _ k3 5 d3 5 [0,1,2,3,4] [0,1,2,3,4] _ hs3 hx1).mono ?_
 rintro e w6 ⟨rfl,t3,rfl⟩
 have HF:=Lib.hid (below_drewN HB.out t3)
 clear hs3 hx1
 rw [show decide (([0,1,2,3,4]:List Int)=[0,1,2,3,4])=true from rfl]
 go_wp2_with fail
 go_ret
 exact ⟨rfl,HF.out⟩
end Go.Proofs.YtgbmnlmnhbkdbaaGreat
