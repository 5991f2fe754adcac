/- sep.Reach, walked: the points of which some tell something. Conditions: the parents and the points within Go's bound. -/
import Derived.Test.YtgbmnlmnhbkdbaaGreatFlood
import Derived.Maps.RangeWalk
set_option linter.unusedVariables false
set_option linter.unusedSimpArgs false
namespace Go.Proofs.YtgbmnlmnhbkdbaaGreat
open Go.RowKit

noncomputable def toldL (G:List (List Nat)) (Z:List Int) (xs:List Nat):List Nat:=ptsOf G.length fun x=>(∃ u,CameS G Z xs (x,u))∧zB Z x=false
theorem asc_castL {l:List Nat} (h:Rising l):Asc cmpI (castL l):=by
 unfold castL Asc
 rw [List.pairwise_map]
 exact h.imp fun h=>by unfold cmpI;split <;> omega
def TellsPost (w:World) (Ps:List (List Int)) (a given:List Int) (e:Ending) (w':World):Prop:=
 Below w.heap.size w w'∧∃ C k d,e=.returned (.tuple #[.slice C k d,.int .i64 (lookE Ps given a)])∧(lookE Ps given a ≠ 0→C=none∧k=0∧d=0) ∧
  (lookE Ps given a=0→OwnR (Value.int .i64) w' (w.heap.size + 1) 3 C k d (castL (toldL (toG Ps) given (a.map Int.toNat))))
structure Rem (Z:List Int) (S:List St) (left:Lit→Bool) (cnt:Nat) (L:List Int):Prop where
 sub:∀ l,left l=true→∃ s,s ∈ S∧okS s∧kS s=l
 cov:∀ s,s ∈ S→okS s→zB Z s.1=false→left (kS s)=true ∨ (s.1:Int) ∈ L
 low:∀ x,x ∈ L→∃ s,s ∈ S∧x=(s.1:Int)∧zB Z s.1=false
 len:L.length + cnt≤S.length
section
variable {Z:List Int} {S:List St} {left:Lit→Bool} {cnt cnt':Nat} {L:List Int} {s:St}
theorem Rem.struck {t:St} (ht:okS t) (hs:okS s) (h:left (kS t)=true):(left (kS t) && !(kS t).sameKey (kS s))=true ∨ t=s:=by
 rw [h,Bool.true_and]
 cases hk:(kS t).sameKey (kS s)
 ·exact .inl rfl
 ·exact .inr (kS_inj ht hs (WideAt.sameKey_eq hk))
theorem Rem.skip (h:Rem Z S left cnt L) (hc:cnt' < cnt) (hok:okS s) (hz:zB Z s.1=true):Rem Z S (fun z=>left z && !z.sameKey (kS s)) cnt' L:=by
 refine ⟨fun l hl=>h.sub l (by simp at hl;exact hl.1),fun t ht hokt hzt=>?_,h.low,by have:=h.len;omega⟩
 rcases h.cov t ht hokt hzt with h1 | h1
 ·rcases Rem.struck hokt hok h1 with h2 | h2
  ·exact .inl h2
  ·subst h2;rw [hz] at hzt;cases hzt
 ·exact .inr h1
theorem Rem.take (h:Rem Z S left cnt L) (hc:cnt' < cnt) (hok:okS s) (hs:s ∈ S) (hz:zB Z s.1=false):Rem Z S (fun z=>left z && !z.sameKey (kS s)) cnt' (L ++ [(s.1:Int)]):=by
 refine ⟨fun l hl=>h.sub l (by simp at hl;exact hl.1),fun t ht hokt hzt=>?_,fun x hx=>?_,by have:=h.len;simp;omega⟩
 ·rcases h.cov t ht hokt hzt with h1 | h1
  ·rcases Rem.struck hokt hok h1 with h2 | h2
   ·exact .inl h2
   ·subst h2;exact .inr (by simp)
  ·exact .inr (List.mem_append_left _ h1)
 ·rcases List.mem_append.1 hx with h1 | h1
  ·exact h.low x h1
  ·rw [List.mem_singleton] at h1;exact ⟨s,hs,h1,hz⟩
theorem Rem.done (h:Rem Z S left cnt L) (hl:∀ l,left l=false) (hok:∀ s,s ∈ S→okS s) (x:Int):x ∈ L ↔ ∃ s,s ∈ S∧x=(s.1:Int)∧zB Z s.1=false:=by
 refine ⟨h.low x,?_⟩
 rintro ⟨s,hs,rfl,hz⟩
 rcases h.cov s hs (hok s hs) hz with h1 | h1
 ·rw [hl] at h1;cases h1
 ·exact h1

theorem Rem.begin {D:DataW Unit} (hq:∀ kl,Maps.has D kl=(liftS (seenS S) kl).isSome) (hs:Maps.size D≤S.length):Rem Z S (Maps.has D) (Maps.size D) []:=by
 refine ⟨fun l hl=>?_,fun s hsS hok _=>.inl ?_,fun x hx=>by simp at hx,by simpa using hs⟩
 ·rw [hq] at hl
  obtain ⟨s,hok,rfl⟩:=liftS_some hl
  rw [liftS_kS _ hok] at hl
  refine ⟨s,?_,hok,rfl⟩
  by_cases h:s ∈ S
  ·exact h
  ·rw [seenS_out h] at hl;cases hl
 ·rw [hq,liftS_kS _ hok,seenS_in hsS];rfl
end
section
variable (w:World) {ops:Array Oper} {rest:List Oper} {o:Oper} {a:Act} {Q:Exit→Act→World→Prop}
theorem wpList_next_S (hg:o.guard=none) (it:Operand) (hop:o.op=Op.next it false) (b r n:Nat) (D:DataW Unit) (left:Lit→Bool) (cnt:Nat) (hit:a.eval it=.pointer (some ⟨r,0,none⟩)) (h:w.ranges Tryz.prog 97 (plainElem Tryz.prog 3) b r n D left cnt)
 {S:List St} (hsub:∀ l,left l=true→∃ s,s ∈ S∧okS s∧kS s=l) (hDone:cnt=0→(∀ kl,left kl=false)→wpList Tryz.prog ops Q rest (a.put o.dst (.tuple #[.bool false])) w)
 (hMore:∀ (p:Nat) (u:Bool) (c:Int) (w':World) (cnt':Nat),((p,u):St) ∈ S→okS (p,u)→w'.ranges Tryz.prog 97 (plainElem Tryz.prog 3) b r n D (fun z=>left z && !z.sameKey (kS (p,u))) cnt'→cnt' < cnt →
   w.grownBy w' (some r)→w'.heap.size=w.heap.size→(Instr.entry (.pointer (some ⟨r,0,none⟩))).run Tryz.prog w'=.ok (.tuple #[.agg #[.int .i64 (p:Int),.bool u],.int .i64 c]) w'→wpList Tryz.prog ops Q rest (a.put o.dst (.tuple #[.bool true,.agg #[.int .i64 (p:Int),.bool u],.int .i64 c])) w') :
 wpList Tryz.prog ops Q (o :: rest) a w:=by
 refine wpList_next_ranges w hg it hop 97 law97 (plainElem Tryz.prog 3) (fun x:Int × Bool=>.agg #[.int .i64 x.1,.bool x.2]) (Value.int .i64) (fun key kl h=>keyOf_state h) (fun v y h=>by obtain ⟨c,rfl,_⟩:=plainElem_int_inv Tryz.underlying3 h;exact ⟨c,rfl⟩) b r n D left cnt hit h hDone ?_
 intro x c kl y w' cnt' hkey hlk hv hat hrg hlt hgr hsz hen
 obtain ⟨s,hs,hok,rfl⟩:=hsub kl hlk
 have he:=law97.inj hkey (keyOf_sV hok)
 obtain ⟨x1,x2⟩:=x
 obtain ⟨p,u⟩:=s
 simp at he
 obtain ⟨rfl,rfl⟩:=he
 exact hMore p x2 c w' cnt' hs hok hrg hlt hgr hsz hen
end
theorem below_of_none {a b:World} (h:a.grownBy b none):Below a.heap.size a b:=⟨h.os,h.tape,h.output,h.size,fun i hi=>h.block i hi (by simp)⟩

set_option maxRecDepth 100000 in
set_option maxHeartbeats 800000 in
theorem tells_any (A B0 C0:Option Addr) (n c m1 d1 m2 d2:Nat) (Ps:List (List Int)) (a given:List Int) (w:World) (h:Rows (Value.int .i64) w A n Ps) (ha:Sl (Value.int .i64) w B0 m1 a) (hg:Sl (Value.int .i64) w C0 m2 given)
 (hn:n * 64≤140737488351232) (hgb:m2 * 8≤140737488355328):Calls Tryz.prog 35 #[.slice A n c,.slice B0 m1 d1,.slice C0 m2 d2] w (TellsPost w Ps a given):=by
 obtain ⟨wa,hwa⟩:∃ wa:World,wa=w:=⟨_,rfl⟩
 subst hwa
 have HL:=Lib.hid (And.intro h.len (And.intro ha.len hg.len))
 go_enter Tryz.func35,Tryz.ntmps35
 go_wp2_with fail
 refine (look_any A C0 B0 n c m2 d2 m1 d1 Ps given a _ h hg ha (by omega) hgb).mono ?_
 rintro e w1 ⟨hb1,A1,na,ca,B1,nb,cb,C1,k1,c1,D1,k2,c2,rfl,hv⟩
 have ha1:=ha.below (Nat.le_refl _) hb1
 clear h ha hg
 by_cases hE:lookE Ps given a=0
 ·obtain ⟨e1,e2,e3,e4,hvw⟩:=hv hE
  clear hv
  have e1:=e1.symm
  have e2:=e2.symm
  have e3:=e3.symm
  have e4:=e4.symm
  subst e1 e2 e3 e4
  have hv:=hvw
  clear hvw
  rw [hE]
  obtain ⟨hck,hin1,hin2⟩:=lookE_inv hE
  have hga:=inRow_iff.1 hin2
  have han:=ha1.toNat (fun p hp=>(hga p hp).1)
  have hlt:∀ x,x ∈ a.map Int.toNat→x < n:=fun x hx=>by
   obtain ⟨y,hy,rfl⟩:=List.mem_map.1 hx
   have:=hga y hy
   have:=HL.out.1
   omega
  have hgood:=good_toG (checkP_ok hck).1
  have hGl:(toG Ps).length=n:=by rw [toG_length];exact HL.out.1
  have H1:=((Held.start (P:=fun w=>View w (toG Ps) given A B1 C1 D1 n k1 k2) w1 hv).sl han).new 68 [.slice A n c,.slice B1 n cb,.slice C1 k1 c1,.slice D1 k2 c2]
  have hv1:=H1.has.2.2
  have ha2:=H1.has.2.1
  have v0:=H1.has.1.cell 0
  have v1:=H1.has.1.cell 1
  have v2:=H1.has.1.cell 2
  have v3:=H1.has.1.cell 3
  simp only [List.getElem?_cons_zero,List.getElem?_cons_succ] at v0 v1 v2 v3
  have HF:=Lib.hid (And.intro hb1 (And.intro hE (And.intro hGl (And.intro hgood hlt))));clear hb1 hv ha1 hE hck hin1 hin2 hga han hlt hgood hGl
  have HH:=Lib.hid H1;clear H1
  go_wp2_with fail
  refine (flood_any (toG Ps) given A B1 C1 D1 B0 n k1 k2 c cb c1 c2 m1 d1 _ _ hv1 HF.out.2.2.1 HF.out.2.2.2.1 ha2 HF.out.2.2.2.2 hn).mono ?_
  rintro e w2 ⟨mb,S,rfl,hmb,hmap,hnd,hS,hSn,hb2⟩
  have H2:=HH.out.step hb2
  obtain ⟨D,hD,hq⟩:=hmap
  have hDs:=hD.size_le
  have hmlt:=hD.lt
  clear hv1 ha2 v0 v1 v2 v3 hb2
  have HS:=Lib.hid (And.intro hnd (And.intro hS (And.intro hSn (And.intro hq hDs))));clear hnd hS hSn hq hDs
  have HH2:=Lib.hid H2;clear H2
  go_wp2_with (first
   | (at_range;refine wpList_range_own _ rfl _ 94 rfl 97 3 law97 Tryz.underlying94 _ mb S.length D rfl hD ?_;intro w3 hrg3 hg3 hs3)
   | fail)
  go_frame
  have H3:=HH2.out.step (below_of_none hg3)
  have hrem:=Rem.begin (Z:=given) (S:=S) (fun kl=>(HS.out.2.2.2.1 kl).1) HS.out.2.2.2.2
  have hbel3:Below w2.heap.size w2 w3:=below_of_none hg3
  have HB:=Lib.hid (And.intro hrem (And.intro hrg3 hbel3));clear hrem hrg3 hbel3 H3 hg3
  generalize hr:w2.heap.size=r at *
  have hpl:=HH2.out.has.1.lt
  generalize hp8:w1.heap.size=p8 at *
  go_loopw [10] (fun o wr=>∃ (left:Lit→Bool) (cnt k c9:Nat) (A9:Option Addr) (L:List Int),o=.slice A9 k c9∧wr.ranges Tryz.prog 97 (plainElem Tryz.prog 3) mb r S.length D left cnt∧OwnR (Value.int .i64) wr (r + 1) 3 A9 k c9 L∧Below r w2 wr∧Rem given S left cnt L) (fun _ wr=>wr.rangeLeft mb r)
  case atStart=>exact ⟨_,_,0,0,none,[],rfl,HB.out.2.1,OwnR.nil _ _ _ _,HB.out.2.2,HB.out.1⟩
  case round =>
   obtain ⟨left,cnt,k,c9,A9,L,rfl,hrg,how,hbel,hrem⟩:=hrel
   obtain ⟨wb,hwb⟩:∃ wb:World,wb=wr:=⟨_,rfl⟩
   subst hwb
   have HW:=Lib.hid (And.intro how (And.intro hbel hrem));clear how hbel hrem
   have hsub:=HW.out.2.2.sub
   have hlold:=Lib.hid hrg.left_eq
   go_wp2_with (first
    | (at_next;refine wpList_next_S _ rfl _ rfl mb r S.length D left cnt rfl hrg hsub (fun hc0 hl0=>?_) (fun px u cv w4 cnt4 hps hok hrg4 hlt4 hg4 hs4 hen=>?_) <;> refine Hid.out ?_)
    | fail)
   ·refine Lib.hid ?_
    clear hsub hrg
    have hbelw:=HW.out.2.1
    have hmem:=HW.out.2.2.done hl0 (fun s hs=>by have:=HS.out.2.2.1 s hs;unfold okS;omega)
    have hkS:k≤S.length:=by have:=HW.out.2.2.len;have:=HW.out.1.length;omega
    have hk2:S.length≤2 * n:=states_length HS.out.1 HS.out.2.2.1
    have hsl:=HW.out.1.sl (by omega)
    have HM:=Lib.hid (And.intro hmem (And.intro hkS hk2));clear hmem hbelw
    have hk16:k * 8≤140737488355328:=by omega
    clear hkS hk2 hc0 hl0
    go_wp2_with fail
    refine (of_I A9 k c9 L _ hsl hk16).mono ?_
    rintro e w7 ⟨A7,k7,c7,rfl,hs7,hk7,hb7⟩
    clear hsl
    go_wp2_with fail
    refine (list_I A7 k7 c7 L _ hs7.1 (by omega)).mono ?_
    rintro e w8 ⟨A8,c8,xs8,rfl,ho8,ha8,hm8,hb8⟩
    have hbw:Below wa.heap.size wa w8:=by
     have h1:=HF.out.1.size
     have h2:=HH.out.bel.size
     have h3:=HH2.out.bel.size
     have h4:=HW.out.2.1.size
     have h5:=hb7.size
     have h6:=HF.out.1.trans (HH2.out.bel.mono h1)
     have h7:=h6.trans (HW.out.2.1.mono (by omega))
     exact (h7.trans (hb7.mono (by omega))).trans (hb8.mono (by omega))
    have hsz8:wa.heap.size≤w7.heap.size:=by
     have h1:=HF.out.1.size
     have h3:=HH2.out.bel.size
     have h4:=HW.out.2.1.size
     have h5:=hb7.size
     omega
    have hxs:xs8=castL (toldL (toG Ps) given (a.map Int.toNat)):=by
     refine Asc.ext cmpokI ha8 (asc_castL (rising_ptsOf _ _)) fun y=>?_
     rw [hm8,HM.out.1]
     unfold toldL
     constructor
     ·rintro ⟨s,hs,rfl,hz⟩
      rw [mem_castL,mem_ptsOf]
      exact ⟨by rw [HF.out.2.2.1];exact HS.out.2.2.1 s hs,⟨s.2,(HS.out.2.1 s).1 hs⟩,hz⟩
     ·intro hy
      obtain ⟨z,hz,rfl⟩:=List.mem_map.1 hy
      obtain ⟨_,⟨u,hu⟩,hz2⟩:=mem_ptsOf.1 hz
      exact ⟨(z,u),(HS.out.2.1 _).2 hu,rfl,hz2⟩
    rw [hxs] at ho8
    have H8:=Lib.hid (And.intro ho8 (And.intro hbw hsz8));clear ho8 hbw hxs hb8 ha8 hm8 hb7 hs7 hsz8
    go_wp2_with fail
    go_ret2
    exact ⟨H8.out.2.1,A8,k7,c8,by rw [HF.out.2.1];rfl,fun h=>absurd HF.out.2.1 h,fun _=>H8.out.1.mono (by have:=H8.out.2.2;omega)⟩
   ·refine Lib.hid ?_
    have hlenO:=HW.out.1.length
    have hrow:∀ g,A9=some ⟨g,0,none⟩→r < g:=fun g e=>by
     rcases HW.out.1.at_row with h1 | ⟨g',h1,h2,_⟩
     ·rw [e] at h1;cases h1
     ·rw [e] at h1;injection h1 with h1;injection h1 with h1;omega
    have hk8:(k + 1) * 8≤140737488355328:=by
     have h1:=states_length HS.out.1 HS.out.2.2.1
     have h2:=HW.out.2.2.len
     have h3:=HW.out.1.length
     omega
    have hbel4:Below r w2 w4:=HW.out.2.1.grown hg4 (by have:=HW.out.2.1.size;omega) (fun g e=>by injection e with e;omega)
    have how4:OwnR (Value.int .i64) w4 (r + 1) 3 A9 k c9 L:=HW.out.1.grown hg4 (fun g e e2=>by have:=hrow g e;injection e2 with e2;omega)
    have hlt4r:r < w4.heap.size:=hrg4.lt
    have hb5:Below r w2 (w4.alloc (.cells #[.int .i64 (px:Int),.bool u] 97)):=hbel4.alloc (by omega) _
    have hrg5:=hrg4.alloc (.cells #[.int .i64 (px:Int),.bool u] 97)
    have how5:=how4.alloc (.cells #[.int .i64 (px:Int),.bool u] 97)
    have hvb:=HH2.out.has.1.below (B:=r) hb5 (by omega)
    have hq5:=RowC.new w4 97 [.int .i64 (px:Int),.bool u]
    have hgiv:=(HH2.out.has.2.2.below (Nat.le_of_eq hr) hb5).giv
    have v2:=hvb.cell 2
    have t0:=hq5.cell 0
    simp only [List.getElem?_cons_zero,List.getElem?_cons_succ] at v2 t0
    have H5:=Lib.hid (And.intro hb5 (And.intro hrg5 (And.intro how5 (And.intro hq5 (And.intro hrow (And.intro hps (And.intro hok (And.intro hlt4 hlenO))))))))
    clear hb5 hrg5 how5 hq5 hrow hps hok hlt4 hlenO hbel4 how4 hvb hrg4 hg4 hs4 hsub hrg
    have hrge:=HW.out.2.2
    go_wp2_with fail
    refine (has_I C1 k1 c1 _ _ _ hgiv).mono ?_
    rintro e w6 ⟨rfl,hb6⟩
    have hbel6:Below r w2 w6:=H5.out.1.trans (hb6.mono (by simp;omega))
    have hrg6:=H5.out.2.1.kept (below_grown hb6 none) (by simp) (by simp)
    have how6:=H5.out.2.2.1.below (Nat.le_refl _) hb6
    have hq6:=H5.out.2.2.2.1.below' hb6
    clear hb6 hgiv v2 t0
    cases hz:zB given px with
    | true =>
      rw [show decide ((px:Int) ∈ given)=true from hz]
      have H6:=Lib.hid (And.intro hrg6 (And.intro how6 (And.intro hbel6 (hrge.skip H5.out.2.2.2.2.2.2.2.1 H5.out.2.2.2.2.2.2.1 hz))));clear hrg6 how6 hbel6 hq6 hrge
      go_wp2_with fail
      exact ⟨⟨_,_,k,c9,A9,L,rfl,H6.out.1,H6.out.2.1,H6.out.2.2.1,H6.out.2.2.2⟩,by rw [H6.out.1.left_eq,hlold.out];exact H5.out.2.2.2.2.2.2.2.1⟩
    | false =>
      rw [show decide ((px:Int) ∈ given)=false from hz]
      have t0:=hq6.cell 0
      simp only [List.getElem?_cons_zero] at t0
      have hrem6:=hrge.take H5.out.2.2.2.2.2.2.2.1 H5.out.2.2.2.2.2.2.1 H5.out.2.2.2.2.2.1 hz
      have hlt6:=hrg6.lt
      have hos:=how6.alloc (.cells #[.int .i64 (px:Int)] 3)
      have H6:=Lib.hid (And.intro hrg6 (And.intro hbel6 hrem6));clear hrg6 hbel6 hq6 hrem6 hrge how6
      go_wp2_with (first
       | (at_builtin;refine wpList_app _ eiInt (Value.int .i64) (fun _=>rfl) rfl _ _ rfl (r + 1) _ _ _ _ rfl hos _ _ _ _ rfl (Sl.one (enc:=Value.int .i64) _ _ _) (by omega) (by simp;omega) ?_)
       | fail)
      intro A7 c7 w7 ho7 hg7 hb7 hd7
      have hne:∀ b,b≤r→some b ≠ (Value.slice A9 k c9).ownBlock:=fun b hb e=>by
       cases hA:A9 with
       | none=>rw [hA] at e;cases e
       | some ad =>
         have h1:A9=some ⟨ad.block,0,none⟩:=by
          rcases H5.out.2.2.1.at_row with h1 | ⟨g',h1,_⟩
          ·rw [hA] at h1;cases h1
          ·rw [h1] at hA ⊢;injection hA with hA;rw [← hA]
         have h2:=H5.out.2.2.2.2.1 _ h1
         rw [hA] at e
         injection e with e
         omega
      have hrg7:=(H6.out.1.alloc (.cells #[.int .i64 (px:Int)] 3)).kept hg7 (hne mb (by omega)) (hne r (Nat.le_refl _))
      have hbel7:Below r w2 w7:=(H6.out.2.1.alloc (by omega) (.cells #[.int .i64 (px:Int)] 3)).trans (hb7.mono (Nat.le_succ _))
      have H7:=Lib.hid (And.intro hrg7 (And.intro ho7 hbel7));clear hrg7 ho7 hbel7 hg7 hb7 hd7 hne hos t0
      go_wp2_with fail
      exact ⟨⟨_,_,k + 1,c7,A7,_,rfl,H7.out.1,H7.out.2.1,H7.out.2.2,H6.out.2.2⟩,by rw [H7.out.1.left_eq,hlold.out];exact H5.out.2.2.2.2.2.2.2.1⟩
 ·have HF:=Lib.hid (And.intro hb1 hE);clear hb1 hv ha1
  go_wp2_with fail
  go_ret2
  exact ⟨HF.out.1.alloc HF.out.1.size _,none,0,0,rfl,fun _=>⟨rfl,rfl,rfl⟩,fun h=>absurd h hE⟩
end Go.Proofs.YtgbmnlmnhbkdbaaGreat
