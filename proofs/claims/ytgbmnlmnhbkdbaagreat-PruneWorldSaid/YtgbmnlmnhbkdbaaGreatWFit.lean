/- credencelaw17.fit, walked: whether a world may be gone through. Condition: the world reads. -/
import Derived.Test.YtgbmnlmnhbkdbaaGreatWEntry
import Derived.Test.YtgbmnlmnhbkdbaaGreatAliveP
import Derived.Test.YtgbmnlmnhbkdbaaGreatJ17
set_option linter.unusedVariables false
set_option linter.unusedSimpArgs false
namespace Go.Proofs.YtgbmnlmnhbkdbaaGreat
open Go.RowKit

theorem has_refB (b:Bool) (A:Option Addr) (n c:Nat) (xs:List Int) (x:Int) (w:World) (h:Sl (Value.int .i64) w A n xs) (hb:decide (x ∈ xs)=b) :
 Calls Tryz.prog 15 #[.slice A n c,.int .i64 x] w fun e w'=>e=.returned (.bool b)∧w'=w:=by
 subst hb;exact has_ref A n c xs x w h
def FitPost (W:WV) (w:World) (e:Ending) (w':World):Prop:=∃ b,e=.returned (.bool b)∧(b=true→WOk W)∧Below w.heap.size w w'
set_option maxRecDepth 100000 in
set_option maxHeartbeats 1600000 in
theorem fit_any (W:WV) (w:World) (h:WAt w W):Calls Tryz.prog 5 #[W.val] w (FitPost W w):=by
 have H:=(Held.init w).new 25 W.cells
 have HW0:WBox w (w.alloc (.cells W.cells.toArray 25)) w.heap.size W:=⟨H.has.1,Stable.below (P:=fun w=>WAt w W) ((Below.refl _ _).alloc (Nat.le_refl _) _) h,H.bel⟩
 obtain ⟨PA,n,pc,TA,m,tc,AA,k,ac,GA,g,gc,V,Ps,Ts,al,gl⟩:=W
 show Calls Tryz.prog 5 #[.agg #[.slice PA n pc,.slice TA m tc,.slice AA k ac,.slice GA g gc,.int .i64 V]] w _
 obtain ⟨wq,hwq⟩:∃ wq:World,wq=w.alloc (.cells #[.slice PA n pc,.slice TA m tc,.slice AA k ac,.slice GA g gc,.int .i64 V] 25):=⟨_,rfl⟩
 have HW0:WBox w wq w.heap.size ⟨PA,n,pc,TA,m,tc,AA,k,ac,GA,g,gc,V,Ps,Ts,al,gl⟩:=by rw [hwq];exact HW0
 obtain ⟨r0,r1,r2,r3,r4⟩:=HW0.cells
 simp only at r0 r1 r2 r3 r4
 have HX:=Lib.hid HW0
 have hPl:=h.par.len
 have hTl:=h.tab.len
 have hAl:=h.ask.len
 have hGl:=h.giv.len
 simp only at hPl hTl hAl hGl
 have hGb:=h.giv.big
 have hAb:=h.ask.big
 have hPb:=h.par.big
 have hTb:=h.tab.big
 simp only at hGb hAb hPb hTb
 clear HW0 H h
 go_enter Tryz.func5,Tryz.ntmps5
 go_upto_region 1 with fail
 rw [← hwq]
 clear hwq
 by_cases h7:7 < n
 ·as_aux_lemma =>
  have i1:(7:Int) < (n:Int):=by omega
  go_wp2_with fail
  go_ret
  exact ⟨false,rfl,(by intro h;cases h),HX.out.bel⟩
 have i1:¬ (7:Int) < (n:Int):=by omega
 by_cases h3:3 < k
 ·as_aux_lemma =>
  have i2:(3:Int) < (k:Int):=by omega
  go_wp2_with fail
  go_ret
  exact ⟨false,rfl,(by intro h;cases h),HX.out.bel⟩
 have i2:¬ (3:Int) < (k:Int):=by omega
 by_cases hmn:m=n
 rotate_left
 ·as_aux_lemma =>
  have i3:((m:Int) == (n:Int))=false:=by simp;omega
  have i4:¬ (m:Int)=(n:Int):=by omega
  go_wp2_with fail
  go_ret
  exact ⟨false,rfl,(by intro h;cases h),HX.out.bel⟩
 subst hmn
 go_wp2_with fail
 refine (check_dag PA m pc Ps _ HX.out.at'.par (by omega)).mono ?_
 rintro e w1 ⟨rfl,hb1⟩
 have HY:=HX.out.step hb1
 clear r0 r1 r2 r3 r4 hb1
 by_cases hc:checkP Ps=0
 rotate_left
 ·as_aux_lemma =>
  have HE:=Lib.hid HY
  generalize checkP Ps=F at *
  have d2:(F == 0)=false:=beq_eq_false_iff_ne.2 hc
  go_wp2_with fail
  go_ret
  exact ⟨false,rfl,(by intro h;cases h),HE.out.bel⟩
 have HC:=Lib.hid hc
 rw [hc]
 clear hc
 obtain ⟨r0,r1,r2,r3,r4⟩:=HY.cells
 simp only at r0 r1 r2 r3 r4
 have HZ:=Lib.hid HY
 clear HY HX
 go_wp2_with fail
 go_loopw [3] (fun i wr=>∃ t:Nat,t≤k∧i=.int .i64 (t:Nat)∧(∀ q,q < t→0≤nth al q∧nth al q < (m:Int))∧WBox w wr w.heap.size ⟨PA,m,pc,TA,m,tc,AA,k,ac,GA,g,gc,V,Ps,Ts,al,gl⟩) (fun i _=>k - (intOf i).toNat)
 case atStart=>exact ⟨0,by omega,rfl,(by intro q hq;omega),HZ.out⟩
 case round =>
  obtain ⟨t,htk,rfl,hall,HWr⟩:=hrel
  obtain ⟨wo,hwo⟩:∃ wo:World,wo=wr:=⟨_,rfl⟩
  subst hwo
  clear r0 r1 r2 r3 r4
  obtain ⟨r0,r1,r2,r3,r4⟩:=HWr.cells
  simp only at r0 r1 r2 r3 r4
  have HW:=Lib.hid HWr
  have hask:=HWr.at'.ask
  simp only at hask
  have HA:=Lib.hid hall
  clear HWr hall
  by_cases htk:t < k
  ·obtain ⟨b1,o1,rfl,hb1,hc1⟩:=hask.at' (by omega)
   have q1:=hc1 t htk
   have i5:(t:Int) < (k:Int):=by omega
   have i6:(t:Int)≤(k:Int):=by omega
   have hkc:=HW.out.at'.kc
   simp only at hkc
   have i8:t≤ac:=by omega
   have i9:(t:Int)≤(ac:Int):=by omega
   have hmem:decide (nth al t ∈ al.take t)=decide (nth al t ∈ al.take t):=rfl
   obtain ⟨y,hy⟩:∃ y,y=nth al t:=⟨_,rfl⟩
   rw [← hy] at q1 hmem
   have HYY:=Lib.hid hy
   clear hy hc1 hask
   go_upto_region 6 with fail
   by_cases hy0:y < 0
   ·as_aux_lemma =>
    refine wp_region_held_drew (S:=fun w'=>w'.cell? ⟨w.heap.size,0,none⟩=some (.slice PA m pc)∧w'.cell? ⟨w.heap.size,2,none⟩=some (.slice (some ⟨b1,o1,none⟩) k ac)∧w'.cell? ⟨w.heap.size,3,none⟩=some (.slice GA g gc)∧w'.cell? ⟨b1,o1 + t,none⟩=some (.int .i64 y)) (by kernel_rfl) ?hS1 (fun hHeld=>?rest1)
    case hS1=>(first | exact ⟨r0,r2,r3,q1⟩ | assumption | go_keep)
    refine tk 0 rfl ?_
    try simp only [Act.put,sp]
    refine tk 1 rfl ?_
    try simp only [Act.put,sp]
    refine tk 2 rfl ?_
    try simp only [Act.put,sp]
    refine tk 3 rfl ?_
    try simp only [Act.put,sp]
    refine tk 4 rfl ?_
    try simp only [Act.put,sp]
    refine tk 5 rfl ?_
    try simp only [Act.put,sp]
    refine tk 6 rfl ?_
    try simp only [Act.put,sp]
    refine sk 7 rfl ?_
    try simp only [Act.put,sp]
    refine sk 8 rfl ?_
    try simp only [Act.put,sp]
    refine sk 9 rfl ?_
    try simp only [Act.put,sp]
    refine sk 10 rfl ?_
    try simp only [Act.put,sp]
    refine sk 11 rfl ?_
    try simp only [Act.put,sp]
    refine sk 12 rfl ?_
    try simp only [Act.put,sp]
    refine sk 13 rfl ?_
    try simp only [Act.put,sp]
    refine sk 14 rfl ?_
    try simp only [Act.put,sp]
    refine sk 15 rfl ?_
    try simp only [Act.put,sp]
    refine tk 16 rfl ?_
    try simp only [Act.put,sp]
    refine tk 17 rfl ?_
    try simp only [Act.put,sp]
    refine sk 18 rfl ?_
    try simp only [Act.put,sp]
    refine sk 19 rfl ?_
    try simp only [Act.put,sp]
    refine sk 20 rfl ?_
    try simp only [Act.put,sp]
    refine sk 21 rfl ?_
    try simp only [Act.put,sp]
    refine sk 22 rfl ?_
    try simp only [Act.put,sp]
    refine sk 23 rfl ?_
    try simp only [Act.put,sp]
    refine sk 24 rfl ?_
    try simp only [Act.put,sp]
    refine sk 25 rfl ?_
    try simp only [Act.put,sp]
    refine tk 26 rfl ?_
    try simp only [Act.put,sp]
    refine tk 27 rfl ?_
    try simp only [Act.put,sp]
    refine sk 28 rfl ?_
    try simp only [Act.put,sp]
    refine sk 29 rfl ?_
    try simp only [Act.put,sp]
    refine sk 30 rfl ?_
    try simp only [Act.put,sp]
    refine sk 31 rfl ?_
    try simp only [Act.put,sp]
    refine sk 32 rfl ?_
    try simp only [Act.put,sp]
    refine sk 33 rfl ?_
    try simp only [Act.put,sp]
    refine sk 34 rfl ?_
    try simp only [Act.put,sp]
    refine sk 35 rfl ?_
    try simp only [Act.put,sp]
    refine sk 36 rfl ?_
    try simp only [Act.put,sp]
    refine sk 37 rfl ?_
    try simp only [Act.put,sp]
    refine tk 38 rfl ?_
    try simp only [Act.put,sp]
    refine wpAnyH_done (by kernel_rfl) ?_ _
    go_simp
    go_simp
    (try go_wp2_with fail)
    go_ret
    exact ⟨false,rfl,(by intro h;cases h),(HW.out.step (below_refl_drewN _ _ 1)).bel⟩
   by_cases hy1:(m:Int)≤y
   ·as_aux_lemma =>
    refine wp_region_held_drew (S:=fun w'=>w'.cell? ⟨w.heap.size,0,none⟩=some (.slice PA m pc)∧w'.cell? ⟨w.heap.size,2,none⟩=some (.slice (some ⟨b1,o1,none⟩) k ac)∧w'.cell? ⟨w.heap.size,3,none⟩=some (.slice GA g gc)∧w'.cell? ⟨b1,o1 + t,none⟩=some (.int .i64 y)) (by kernel_rfl) ?hS41 (fun hHeld=>?rest41)
    case hS41=>(first | exact ⟨r0,r2,r3,q1⟩ | assumption | go_keep)
    refine tk 0 rfl ?_
    try simp only [Act.put,sp]
    refine tk 1 rfl ?_
    try simp only [Act.put,sp]
    refine tk 2 rfl ?_
    try simp only [Act.put,sp]
    refine tk 3 rfl ?_
    try simp only [Act.put,sp]
    refine tk 4 rfl ?_
    try simp only [Act.put,sp]
    refine tk 5 rfl ?_
    try simp only [Act.put,sp]
    refine tk 6 rfl ?_
    try simp only [Act.put,sp]
    refine tk 7 rfl ?_
    try simp only [Act.put,sp]
    refine tk 8 rfl ?_
    try simp only [Act.put,sp]
    refine tk 9 rfl ?_
    try simp only [Act.put,sp]
    refine tk 10 rfl ?_
    try simp only [Act.put,sp]
    refine tk 11 rfl ?_
    try simp only [Act.put,sp]
    refine tk 12 rfl ?_
    try simp only [Act.put,sp]
    refine tk 13 rfl ?_
    try simp only [Act.put,sp]
    refine tk 14 rfl ?_
    try simp only [Act.put,sp]
    refine tk 15 rfl ?_
    try simp only [Act.put,sp]
    refine tk 16 rfl ?_
    try simp only [Act.put,sp]
    refine tk 17 rfl ?_
    try simp only [Act.put,sp]
    refine sk 18 rfl ?_
    try simp only [Act.put,sp]
    refine sk 19 rfl ?_
    try simp only [Act.put,sp]
    refine sk 20 rfl ?_
    try simp only [Act.put,sp]
    refine sk 21 rfl ?_
    try simp only [Act.put,sp]
    refine sk 22 rfl ?_
    try simp only [Act.put,sp]
    refine sk 23 rfl ?_
    try simp only [Act.put,sp]
    refine sk 24 rfl ?_
    try simp only [Act.put,sp]
    refine sk 25 rfl ?_
    try simp only [Act.put,sp]
    refine tk 26 rfl ?_
    try simp only [Act.put,sp]
    refine tk 27 rfl ?_
    try simp only [Act.put,sp]
    refine sk 28 rfl ?_
    try simp only [Act.put,sp]
    refine sk 29 rfl ?_
    try simp only [Act.put,sp]
    refine sk 30 rfl ?_
    try simp only [Act.put,sp]
    refine sk 31 rfl ?_
    try simp only [Act.put,sp]
    refine sk 32 rfl ?_
    try simp only [Act.put,sp]
    refine sk 33 rfl ?_
    try simp only [Act.put,sp]
    refine sk 34 rfl ?_
    try simp only [Act.put,sp]
    refine sk 35 rfl ?_
    try simp only [Act.put,sp]
    refine sk 36 rfl ?_
    try simp only [Act.put,sp]
    refine sk 37 rfl ?_
    try simp only [Act.put,sp]
    refine tk 38 rfl ?_
    try simp only [Act.put,sp]
    refine wpAnyH_done (by kernel_rfl) ?_ _
    go_simp
    go_simp
    (try go_wp2_with fail)
    go_ret
    exact ⟨false,rfl,(by intro h;cases h),(HW.out.step (below_refl_drewN _ _ 1)).bel⟩
   cases hh:decide (y ∈ gl)
   rotate_left
   ·as_aux_lemma =>
    refine wp_region_held_drew (S:=fun w'=>w'.cell? ⟨w.heap.size,0,none⟩=some (.slice PA m pc)∧w'.cell? ⟨w.heap.size,2,none⟩=some (.slice (some ⟨b1,o1,none⟩) k ac)∧w'.cell? ⟨w.heap.size,3,none⟩=some (.slice GA g gc)∧w'.cell? ⟨b1,o1 + t,none⟩=some (.int .i64 y)) (by kernel_rfl) ?hS81 (fun hHeld=>?rest81)
    case hS81=>(first | exact ⟨r0,r2,r3,q1⟩ | assumption | go_keep)
    refine tk 0 rfl ?_
    try simp only [Act.put,sp]
    refine tk 1 rfl ?_
    try simp only [Act.put,sp]
    refine tk 2 rfl ?_
    try simp only [Act.put,sp]
    refine tk 3 rfl ?_
    try simp only [Act.put,sp]
    refine tk 4 rfl ?_
    try simp only [Act.put,sp]
    refine tk 5 rfl ?_
    try simp only [Act.put,sp]
    refine tk 6 rfl ?_
    try simp only [Act.put,sp]
    refine tk 7 rfl ?_
    try simp only [Act.put,sp]
    refine tk 8 rfl ?_
    try simp only [Act.put,sp]
    refine tk 9 rfl ?_
    try simp only [Act.put,sp]
    refine tk 10 rfl ?_
    try simp only [Act.put,sp]
    refine tk 11 rfl ?_
    try simp only [Act.put,sp]
    refine tk 12 rfl ?_
    try simp only [Act.put,sp]
    refine tk 13 rfl ?_
    try simp only [Act.put,sp]
    refine tk 14 rfl ?_
    try simp only [Act.put,sp]
    refine tk 15 rfl ?_
    try simp only [Act.put,sp]
    refine tk 16 rfl ?_
    try simp only [Act.put,sp]
    refine tk 17 rfl ?_
    try simp only [Act.put,sp]
    refine tk 18 rfl ?_
    try simp only [Act.put,sp]
    refine tk 19 rfl ?_
    try simp only [Act.put,sp]
    refine tk 20 rfl ?_
    try simp only [Act.put,sp]
    refine tk 21 rfl ?_
    try simp only [Act.put,sp]
    refine tk 22 rfl ?_
    try simp only [Act.put,sp]
    refine tk 23 rfl ?_
    try simp only [Act.put,sp]
    refine tk 24 rfl ?_
    try simp only [Act.put,sp]
    refine wpAnyH_ready (rs:=[25]) (by kernel_rfl) (by simp) (consL rfl (fun K hK=>?step107))
    (go_simp;(refine (has_refB true _ _ _ _ _ _ (HW.out.at'.giv.drewN 1) hh).mono ?_);(intro e1 y1 hp1);(obtain ⟨rfl,rfl⟩:=hp1))
    refine hK.out _ _ ?hS107 (fun hHeld=>?rest107)
    case hS107=>(first | exact ⟨r0,r2,r3,q1⟩ | assumption | go_keep)
    clear hK K
    try simp only [Act.put,sp]
    refine tk 26 rfl ?_
    try simp only [Act.put,sp]
    refine tk 27 rfl ?_
    try simp only [Act.put,sp]
    refine sk 28 rfl ?_
    try simp only [Act.put,sp]
    refine sk 29 rfl ?_
    try simp only [Act.put,sp]
    refine sk 30 rfl ?_
    try simp only [Act.put,sp]
    refine sk 31 rfl ?_
    try simp only [Act.put,sp]
    refine sk 32 rfl ?_
    try simp only [Act.put,sp]
    refine sk 33 rfl ?_
    try simp only [Act.put,sp]
    refine sk 34 rfl ?_
    try simp only [Act.put,sp]
    refine sk 35 rfl ?_
    try simp only [Act.put,sp]
    refine sk 36 rfl ?_
    try simp only [Act.put,sp]
    refine sk 37 rfl ?_
    try simp only [Act.put,sp]
    refine tk 38 rfl ?_
    try simp only [Act.put,sp]
    refine wpAnyH_done (by kernel_rfl) ?_ _
    go_simp
    go_simp
    (try go_wp2_with fail)
    go_ret
    exact ⟨false,rfl,(by intro h;cases h),(HW.out.step (below_refl_drewN _ _ 1)).bel⟩
   cases hh2:decide (y ∈ al.take t)
   rotate_left
   ·as_aux_lemma =>
    refine wp_region_held_drew (S:=fun w'=>w'.cell? ⟨w.heap.size,0,none⟩=some (.slice PA m pc)∧w'.cell? ⟨w.heap.size,2,none⟩=some (.slice (some ⟨b1,o1,none⟩) k ac)∧w'.cell? ⟨w.heap.size,3,none⟩=some (.slice GA g gc)∧w'.cell? ⟨b1,o1 + t,none⟩=some (.int .i64 y)) (by kernel_rfl) ?hS121 (fun hHeld=>?rest121)
    case hS121=>(first | exact ⟨r0,r2,r3,q1⟩ | assumption | go_keep)
    refine tk 0 rfl ?_
    try simp only [Act.put,sp]
    refine tk 1 rfl ?_
    try simp only [Act.put,sp]
    refine tk 2 rfl ?_
    try simp only [Act.put,sp]
    refine tk 3 rfl ?_
    try simp only [Act.put,sp]
    refine tk 4 rfl ?_
    try simp only [Act.put,sp]
    refine tk 5 rfl ?_
    try simp only [Act.put,sp]
    refine tk 6 rfl ?_
    try simp only [Act.put,sp]
    refine tk 7 rfl ?_
    try simp only [Act.put,sp]
    refine tk 8 rfl ?_
    try simp only [Act.put,sp]
    refine tk 9 rfl ?_
    try simp only [Act.put,sp]
    refine tk 10 rfl ?_
    try simp only [Act.put,sp]
    refine tk 11 rfl ?_
    try simp only [Act.put,sp]
    refine tk 12 rfl ?_
    try simp only [Act.put,sp]
    refine tk 13 rfl ?_
    try simp only [Act.put,sp]
    refine tk 14 rfl ?_
    try simp only [Act.put,sp]
    refine tk 15 rfl ?_
    try simp only [Act.put,sp]
    refine tk 16 rfl ?_
    try simp only [Act.put,sp]
    refine tk 17 rfl ?_
    try simp only [Act.put,sp]
    refine tk 18 rfl ?_
    try simp only [Act.put,sp]
    refine tk 19 rfl ?_
    try simp only [Act.put,sp]
    refine tk 20 rfl ?_
    try simp only [Act.put,sp]
    refine tk 21 rfl ?_
    try simp only [Act.put,sp]
    refine tk 22 rfl ?_
    try simp only [Act.put,sp]
    refine tk 23 rfl ?_
    try simp only [Act.put,sp]
    refine tk 24 rfl ?_
    try simp only [Act.put,sp]
    refine wpAnyH_ready (rs:=[25]) (by kernel_rfl) (by simp) (consL rfl (fun K hK=>?step147))
    (go_simp;(refine (has_refB false _ _ _ _ _ _ (HW.out.at'.giv.drewN 1) hh).mono ?_);(intro e1 y1 hp1);(obtain ⟨rfl,rfl⟩:=hp1))
    refine hK.out _ _ ?hS147 (fun hHeld=>?rest147)
    case hS147=>(first | exact ⟨r0,r2,r3,q1⟩ | assumption | go_keep)
    clear hK K
    try simp only [Act.put,sp]
    refine tk 26 rfl ?_
    try simp only [Act.put,sp]
    refine tk 27 rfl ?_
    try simp only [Act.put,sp]
    refine tk 28 rfl ?_
    try simp only [Act.put,sp]
    refine tk 29 rfl ?_
    try simp only [Act.put,sp]
    refine tk 30 rfl ?_
    try simp only [Act.put,sp]
    refine tk 31 rfl ?_
    try simp only [Act.put,sp]
    refine tk 32 rfl ?_
    try simp only [Act.put,sp]
    refine tk 33 rfl ?_
    try simp only [Act.put,sp]
    refine tk 34 rfl ?_
    try simp only [Act.put,sp]
    refine tk 35 rfl ?_
    try simp only [Act.put,sp]
    refine tk 36 rfl ?_
    try simp only [Act.put,sp]
    refine wpAnyH_ready (rs:=[37]) (by kernel_rfl) (by simp) (consL rfl (fun K hK=>?step159))
    (go_simp;(refine (has_refB true _ _ _ _ _ _ ((HW.out.at'.ask.cut (Nat.le_of_lt htk)).drewN 1) hh2).mono ?_);(intro e1 y1 hp1);(obtain ⟨rfl,rfl⟩:=hp1))
    refine hK.out _ _ ?hS159 (fun hHeld=>?rest159)
    case hS159=>(first | exact ⟨r0,r2,r3,q1⟩ | assumption | go_keep)
    clear hK K
    try simp only [Act.put,sp]
    refine tk 38 rfl ?_
    try simp only [Act.put,sp]
    refine wpAnyH_done (by kernel_rfl) ?_ _
    go_simp
    go_simp
    (try go_wp2_with fail)
    go_ret
    exact ⟨false,rfl,(by intro h;cases h),(HW.out.step (below_refl_drewN _ _ 1)).bel⟩
   refine wp_region_held_drew (S:=fun w'=>w'.cell? ⟨w.heap.size,0,none⟩=some (.slice PA m pc)∧w'.cell? ⟨w.heap.size,2,none⟩=some (.slice (some ⟨b1,o1,none⟩) k ac)∧w'.cell? ⟨w.heap.size,3,none⟩=some (.slice GA g gc)∧w'.cell? ⟨b1,o1 + t,none⟩=some (.int .i64 y)) (by kernel_rfl) ?hS161 (fun hHeld=>?rest161)
   case hS161=>(first | exact ⟨r0,r2,r3,q1⟩ | assumption | go_keep)
   refine tk 0 rfl ?_
   try simp only [Act.put,sp]
   refine tk 1 rfl ?_
   try simp only [Act.put,sp]
   refine tk 2 rfl ?_
   try simp only [Act.put,sp]
   refine tk 3 rfl ?_
   try simp only [Act.put,sp]
   refine tk 4 rfl ?_
   try simp only [Act.put,sp]
   refine tk 5 rfl ?_
   try simp only [Act.put,sp]
   refine tk 6 rfl ?_
   try simp only [Act.put,sp]
   refine tk 7 rfl ?_
   try simp only [Act.put,sp]
   refine tk 8 rfl ?_
   try simp only [Act.put,sp]
   refine tk 9 rfl ?_
   try simp only [Act.put,sp]
   refine tk 10 rfl ?_
   try simp only [Act.put,sp]
   refine tk 11 rfl ?_
   try simp only [Act.put,sp]
   refine tk 12 rfl ?_
   try simp only [Act.put,sp]
   refine tk 13 rfl ?_
   try simp only [Act.put,sp]
   refine tk 14 rfl ?_
   try simp only [Act.put,sp]
   refine tk 15 rfl ?_
   try simp only [Act.put,sp]
   refine tk 16 rfl ?_
   try simp only [Act.put,sp]
   refine tk 17 rfl ?_
   try simp only [Act.put,sp]
   refine tk 18 rfl ?_
   try simp only [Act.put,sp]
   refine tk 19 rfl ?_
   try simp only [Act.put,sp]
   refine tk 20 rfl ?_
   try simp only [Act.put,sp]
   refine tk 21 rfl ?_
   try simp only [Act.put,sp]
   refine tk 22 rfl ?_
   try simp only [Act.put,sp]
   refine tk 23 rfl ?_
   try simp only [Act.put,sp]
   refine tk 24 rfl ?_
   try simp only [Act.put,sp]
   refine wpAnyH_ready (rs:=[25]) (by kernel_rfl) (by simp) (consL rfl (fun K hK=>?step187))
   (go_simp;(refine (has_refB false _ _ _ _ _ _ (HW.out.at'.giv.drewN 1) hh).mono ?_);(intro e1 y1 hp1);(obtain ⟨rfl,rfl⟩:=hp1))
   refine hK.out _ _ ?hS187 (fun hHeld=>?rest187)
   case hS187=>(first | exact ⟨r0,r2,r3,q1⟩ | assumption | go_keep)
   clear hK K
   try simp only [Act.put,sp]
   refine tk 26 rfl ?_
   try simp only [Act.put,sp]
   refine tk 27 rfl ?_
   try simp only [Act.put,sp]
   refine tk 28 rfl ?_
   try simp only [Act.put,sp]
   refine tk 29 rfl ?_
   try simp only [Act.put,sp]
   refine tk 30 rfl ?_
   try simp only [Act.put,sp]
   refine tk 31 rfl ?_
   try simp only [Act.put,sp]
   refine tk 32 rfl ?_
   try simp only [Act.put,sp]
   refine tk 33 rfl ?_
   try simp only [Act.put,sp]
   refine tk 34 rfl ?_
   try simp only [Act.put,sp]
   refine tk 35 rfl ?_
   try simp only [Act.put,sp]
   refine tk 36 rfl ?_
   try simp only [Act.put,sp]
   refine wpAnyH_ready (rs:=[37]) (by kernel_rfl) (by simp) (consL rfl (fun K hK=>?step199))
   (go_simp;(refine (has_refB false _ _ _ _ _ _ ((HW.out.at'.ask.cut (Nat.le_of_lt htk)).drewN 1) hh2).mono ?_);(intro e1 y1 hp1);(obtain ⟨rfl,rfl⟩:=hp1))
   refine hK.out _ _ ?hS199 (fun hHeld=>?rest199)
   case hS199=>(first | exact ⟨r0,r2,r3,q1⟩ | assumption | go_keep)
   clear hK K
   try simp only [Act.put,sp]
   refine tk 38 rfl ?_
   try simp only [Act.put,sp]
   refine wpAnyH_done (by kernel_rfl) ?_ _
   go_simp
   go_simp
   (try go_wp2_with fail)
   exact ⟨⟨t + 1,by omega,by go_num,fun q hq=>by
    rcases Nat.lt_or_ge q t with h1 | h1
    ·exact HA.out q h1
    ·obtain rfl:q=t:=by omega
     rw [← HYY.out];omega,HW.out.step (below_refl_drewN _ _ 1)⟩,by simp [intOf];omega⟩
  ·obtain rfl:t=k:=by omega
   have i5:¬ (t:Int) < (t:Int):=by omega
   clear hask
   go_wp2_with fail
   clear r0 r1 r2 r3 r4
   obtain ⟨wp,hwp⟩:∃ wp:World,wp=wo:=⟨_,rfl⟩
   subst hwp
   go_loopw [4] (fun i wr=>∃ q:Nat,q≤g∧i=.int .i64 (q:Nat)∧(∀ j,j < q→0≤nth gl j∧nth gl j < (m:Int))∧(0 < q→g≤9)∧WBox w wr w.heap.size ⟨PA,m,pc,TA,m,tc,AA,t,ac,GA,g,gc,V,Ps,Ts,al,gl⟩) (fun i _=>g - (intOf i).toNat)
   case atStart=>exact ⟨0,by omega,rfl,(by intro q hq;omega),(by intro h;omega),HW.out⟩
   case round =>
    obtain ⟨q,hqg,rfl,hall,h9,HWr⟩:=hrel
    obtain ⟨wv,hwv⟩:∃ wv:World,wv=wr:=⟨_,rfl⟩
    subst hwv
    obtain ⟨r0,r1,r2,r3,r4⟩:=HWr.cells
    simp only at r0 r1 r2 r3 r4
    have HV:=Lib.hid HWr
    have hgiv:=HWr.at'.giv
    simp only at hgiv
    have HB:=Lib.hid (And.intro hall h9)
    clear HWr hall h9
    by_cases hqlt:q < g
    ·obtain ⟨b1,o1,rfl,hb1,hc1⟩:=hgiv.at' (by omega)
     have q1:=hc1 q hqlt
     have i5:(q:Int) < (g:Int):=by omega
     obtain ⟨y,hy⟩:∃ y,y=nth gl q:=⟨_,rfl⟩
     rw [← hy] at q1
     have HYY:=Lib.hid hy
     clear hy hc1 hgiv
     go_upto_region 11 with fail
     by_cases hy0:y < 0
     ·as_aux_lemma =>
      refine wp_region_held_drew (S:=fun w'=>w'.cell? ⟨w.heap.size,0,none⟩=some (.slice PA m pc)∧w'.cell? ⟨w.heap.size,3,none⟩=some (.slice (some ⟨b1,o1,none⟩) g gc)∧w'.cell? ⟨b1,o1 + q,none⟩=some (.int .i64 y)) (by kernel_rfl) ?hS201 (fun hHeld=>?rest201)
      case hS201=>(first | exact ⟨r0,r3,q1⟩ | assumption | go_keep)
      refine tk 0 rfl ?_
      try simp only [Act.put,sp]
      refine tk 1 rfl ?_
      try simp only [Act.put,sp]
      refine tk 2 rfl ?_
      try simp only [Act.put,sp]
      refine tk 3 rfl ?_
      try simp only [Act.put,sp]
      refine tk 4 rfl ?_
      try simp only [Act.put,sp]
      refine tk 5 rfl ?_
      try simp only [Act.put,sp]
      refine tk 6 rfl ?_
      try simp only [Act.put,sp]
      refine sk 7 rfl ?_
      try simp only [Act.put,sp]
      refine sk 8 rfl ?_
      try simp only [Act.put,sp]
      refine sk 9 rfl ?_
      try simp only [Act.put,sp]
      refine sk 10 rfl ?_
      try simp only [Act.put,sp]
      refine sk 11 rfl ?_
      try simp only [Act.put,sp]
      refine sk 12 rfl ?_
      try simp only [Act.put,sp]
      refine sk 13 rfl ?_
      try simp only [Act.put,sp]
      refine sk 14 rfl ?_
      try simp only [Act.put,sp]
      refine sk 15 rfl ?_
      try simp only [Act.put,sp]
      refine tk 16 rfl ?_
      try simp only [Act.put,sp]
      refine tk 17 rfl ?_
      try simp only [Act.put,sp]
      refine sk 18 rfl ?_
      try simp only [Act.put,sp]
      refine sk 19 rfl ?_
      try simp only [Act.put,sp]
      refine sk 20 rfl ?_
      try simp only [Act.put,sp]
      refine sk 21 rfl ?_
      try simp only [Act.put,sp]
      refine tk 22 rfl ?_
      try simp only [Act.put,sp]
      refine wpAnyH_done (by kernel_rfl) ?_ _
      go_simp
      go_simp
      (try go_wp2_with fail)
      go_ret
      exact ⟨false,rfl,(by intro h;cases h),(HV.out.step (below_refl_drewN _ _ 1)).bel⟩
     by_cases hy1:(m:Int)≤y
     ·as_aux_lemma =>
      refine wp_region_held_drew (S:=fun w'=>w'.cell? ⟨w.heap.size,0,none⟩=some (.slice PA m pc)∧w'.cell? ⟨w.heap.size,3,none⟩=some (.slice (some ⟨b1,o1,none⟩) g gc)∧w'.cell? ⟨b1,o1 + q,none⟩=some (.int .i64 y)) (by kernel_rfl) ?hS225 (fun hHeld=>?rest225)
      case hS225=>(first | exact ⟨r0,r3,q1⟩ | assumption | go_keep)
      refine tk 0 rfl ?_
      try simp only [Act.put,sp]
      refine tk 1 rfl ?_
      try simp only [Act.put,sp]
      refine tk 2 rfl ?_
      try simp only [Act.put,sp]
      refine tk 3 rfl ?_
      try simp only [Act.put,sp]
      refine tk 4 rfl ?_
      try simp only [Act.put,sp]
      refine tk 5 rfl ?_
      try simp only [Act.put,sp]
      refine tk 6 rfl ?_
      try simp only [Act.put,sp]
      refine tk 7 rfl ?_
      try simp only [Act.put,sp]
      refine tk 8 rfl ?_
      try simp only [Act.put,sp]
      refine tk 9 rfl ?_
      try simp only [Act.put,sp]
      refine tk 10 rfl ?_
      try simp only [Act.put,sp]
      refine tk 11 rfl ?_
      try simp only [Act.put,sp]
      refine tk 12 rfl ?_
      try simp only [Act.put,sp]
      refine tk 13 rfl ?_
      try simp only [Act.put,sp]
      refine tk 14 rfl ?_
      try simp only [Act.put,sp]
      refine tk 15 rfl ?_
      try simp only [Act.put,sp]
      refine tk 16 rfl ?_
      try simp only [Act.put,sp]
      refine tk 17 rfl ?_
      try simp only [Act.put,sp]
      refine sk 18 rfl ?_
      try simp only [Act.put,sp]
      refine sk 19 rfl ?_
      try simp only [Act.put,sp]
      refine sk 20 rfl ?_
      try simp only [Act.put,sp]
      refine sk 21 rfl ?_
      try simp only [Act.put,sp]
      refine tk 22 rfl ?_
      try simp only [Act.put,sp]
      refine wpAnyH_done (by kernel_rfl) ?_ _
      go_simp
      go_simp
      (try go_wp2_with fail)
      go_ret
      exact ⟨false,rfl,(by intro h;cases h),(HV.out.step (below_refl_drewN _ _ 1)).bel⟩
     by_cases hg9:9 < g
     ·as_aux_lemma =>
      have i7:(9:Int) < (g:Int):=by omega
      refine wp_region_held_drew (S:=fun w'=>w'.cell? ⟨w.heap.size,0,none⟩=some (.slice PA m pc)∧w'.cell? ⟨w.heap.size,3,none⟩=some (.slice (some ⟨b1,o1,none⟩) g gc)∧w'.cell? ⟨b1,o1 + q,none⟩=some (.int .i64 y)) (by kernel_rfl) ?hS249 (fun hHeld=>?rest249)
      case hS249=>(first | exact ⟨r0,r3,q1⟩ | assumption | go_keep)
      refine tk 0 rfl ?_
      try simp only [Act.put,sp]
      refine tk 1 rfl ?_
      try simp only [Act.put,sp]
      refine tk 2 rfl ?_
      try simp only [Act.put,sp]
      refine tk 3 rfl ?_
      try simp only [Act.put,sp]
      refine tk 4 rfl ?_
      try simp only [Act.put,sp]
      refine tk 5 rfl ?_
      try simp only [Act.put,sp]
      refine tk 6 rfl ?_
      try simp only [Act.put,sp]
      refine tk 7 rfl ?_
      try simp only [Act.put,sp]
      refine tk 8 rfl ?_
      try simp only [Act.put,sp]
      refine tk 9 rfl ?_
      try simp only [Act.put,sp]
      refine tk 10 rfl ?_
      try simp only [Act.put,sp]
      refine tk 11 rfl ?_
      try simp only [Act.put,sp]
      refine tk 12 rfl ?_
      try simp only [Act.put,sp]
      refine tk 13 rfl ?_
      try simp only [Act.put,sp]
      refine tk 14 rfl ?_
      try simp only [Act.put,sp]
      refine tk 15 rfl ?_
      try simp only [Act.put,sp]
      refine tk 16 rfl ?_
      try simp only [Act.put,sp]
      refine tk 17 rfl ?_
      try simp only [Act.put,sp]
      refine tk 18 rfl ?_
      try simp only [Act.put,sp]
      refine tk 19 rfl ?_
      try simp only [Act.put,sp]
      refine tk 20 rfl ?_
      try simp only [Act.put,sp]
      refine tk 21 rfl ?_
      try simp only [Act.put,sp]
      refine tk 22 rfl ?_
      try simp only [Act.put,sp]
      refine wpAnyH_done (by kernel_rfl) ?_ _
      go_simp
      go_simp
      (try go_wp2_with fail)
      go_ret
      exact ⟨false,rfl,(by intro h;cases h),(HV.out.step (below_refl_drewN _ _ 1)).bel⟩
     have i7:¬ (9:Int) < (g:Int):=by omega
     refine wp_region_held_drew (S:=fun w'=>w'.cell? ⟨w.heap.size,0,none⟩=some (.slice PA m pc)∧w'.cell? ⟨w.heap.size,3,none⟩=some (.slice (some ⟨b1,o1,none⟩) g gc)∧w'.cell? ⟨b1,o1 + q,none⟩=some (.int .i64 y)) (by kernel_rfl) ?hS273 (fun hHeld=>?rest273)
     case hS273=>(first | exact ⟨r0,r3,q1⟩ | assumption | go_keep)
     refine tk 0 rfl ?_
     try simp only [Act.put,sp]
     refine tk 1 rfl ?_
     try simp only [Act.put,sp]
     refine tk 2 rfl ?_
     try simp only [Act.put,sp]
     refine tk 3 rfl ?_
     try simp only [Act.put,sp]
     refine tk 4 rfl ?_
     try simp only [Act.put,sp]
     refine tk 5 rfl ?_
     try simp only [Act.put,sp]
     refine tk 6 rfl ?_
     try simp only [Act.put,sp]
     refine tk 7 rfl ?_
     try simp only [Act.put,sp]
     refine tk 8 rfl ?_
     try simp only [Act.put,sp]
     refine tk 9 rfl ?_
     try simp only [Act.put,sp]
     refine tk 10 rfl ?_
     try simp only [Act.put,sp]
     refine tk 11 rfl ?_
     try simp only [Act.put,sp]
     refine tk 12 rfl ?_
     try simp only [Act.put,sp]
     refine tk 13 rfl ?_
     try simp only [Act.put,sp]
     refine tk 14 rfl ?_
     try simp only [Act.put,sp]
     refine tk 15 rfl ?_
     try simp only [Act.put,sp]
     refine tk 16 rfl ?_
     try simp only [Act.put,sp]
     refine tk 17 rfl ?_
     try simp only [Act.put,sp]
     refine tk 18 rfl ?_
     try simp only [Act.put,sp]
     refine tk 19 rfl ?_
     try simp only [Act.put,sp]
     refine tk 20 rfl ?_
     try simp only [Act.put,sp]
     refine tk 21 rfl ?_
     try simp only [Act.put,sp]
     refine tk 22 rfl ?_
     try simp only [Act.put,sp]
     refine wpAnyH_done (by kernel_rfl) ?_ _
     go_simp
     go_simp
     (try go_wp2_with fail)
     exact ⟨⟨q + 1,by omega,by go_num,fun j hj=>by
      rcases Nat.lt_or_ge j q with h1 | h1
      ·exact HB.out.1 j h1
      ·obtain rfl:j=q:=by omega
       rw [← HYY.out];omega,(fun _=>by omega),HV.out.step (below_refl_drewN _ _ 1)⟩,by simp [intOf];omega⟩
    ·obtain rfl:q=g:=by omega
     have i5:¬ (q:Int) < (q:Int):=by omega
     have hok:WOk ⟨PA,m,pc,TA,m,tc,AA,t,ac,GA,q,gc,V,Ps,Ts,al,gl⟩:=⟨by simp only;omega,rfl,HC.out,by simp only;omega,by
      simp only
      rcases Nat.eq_zero_or_pos q with h | h
      ·omega
      ·exact HB.out.2 h,fun x hx=>by
      obtain ⟨j,hj,rfl⟩:=mem_nth hx
      exact HA.out j (by rw [hAl] at hj;exact hj),fun x hx=>by
      obtain ⟨j,hj,rfl⟩:=mem_nth hx
      exact HB.out.1 j (by rw [hGl] at hj;exact hj)⟩
     have HO:=Lib.hid hok
     clear hgiv hok
     go_wp2_with fail
     go_ret
     exact ⟨true,rfl,fun _=>HO.out,HV.out.bel⟩
end Go.Proofs.YtgbmnlmnhbkdbaaGreat
