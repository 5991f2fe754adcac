/- Joined by program out of: NatG, WholeA. What each says stands at its own head. -/
import Derived.Test.YtgbmnlmnhbkdbaaGreatNatF
set_option linter.unusedVariables false
set_option linter.unusedSimpArgs false
/- nat.Gcd and Bits, walked. Conditions: the slices read as limbs, within Go's bound together. -/
namespace Go.Proofs.YtgbmnlmnhbkdbaaGreat
open Go.RowKit

def natAt (w:World):Value→Nat
 | .slice (some a) n _=>val ((List.range n).map fun i=>match w.cell? ⟨a.block,a.off + i,none⟩ with
   | some (.int _ x)=>x.toNat
   | _=>0)
 | _=>0
theorem natAt_eq {w:World} {A:Option Addr} {n c:Nat} {l:List Nat} (h:Sl eU w A n l):natAt w (.slice A n c)=val l:=by
 rcases Nat.eq_zero_or_pos n with h0 | h0
 ·subst h0
  have hl:l=[]:=List.eq_nil_of_length_eq_zero h.len
  subst hl
  rcases A with _ | a
  ·rfl
  ·rfl
 ·obtain ⟨b,o,rfl,_,hc⟩:=h.at' h0
  show val ((List.range n).map fun i=>match w.cell? ⟨b,o + i,none⟩ with | some (.int _ x)=>x.toNat | _=>0)=val l
  congr 1
  apply nth_ext
  ·rw [List.length_map,List.length_range,h.len]
  ·intro j hj
   rw [List.length_map,List.length_range] at hj
   rw [nth_map _ (by simpa using hj)]
   have e:nth (List.range n) j=j:=by rw [nth_eq (by simpa using hj)];simp
   rw [e,hc j hj]
   unfold eU
   simp
theorem limbs_mono {a b:Nat} (h:a≤b):(limbs a).length≤(limbs b).length:=by
 rcases Nat.lt_or_ge (limbs b).length (limbs a).length with h1 | h1
 ·have:=limbs_fewer h1;omega
 ·exact h1
theorem limbs_val_len {xs:List Nat} (hl:L32 xs):(limbs (val xs)).length≤xs.length:=by rw [limbs_val hl];exact trimL_length xs
set_option maxRecDepth 100000 in
set_option maxHeartbeats 800000 in
theorem nat_gcd (A B:Option Addr) (n c m d:Nat) (xs ys:List Nat) (w:World) (h:Sl eU w A n xs) (hc:n≤c) (hl:L32 xs) (k:Sl eU w B m ys) (kc:m≤d) (kl:L32 ys) (hb:(n + m + 4) * 8≤140737488351232) :
 Calls Tryz.prog 44 #[.slice A n c,.slice B m d] w (NatPost (Nat.gcd (val xs) (val ys)) w):=by
 obtain ⟨wa,hwa⟩:∃ wa:World,wa=w:=⟨_,rfl⟩
 subst hwa
 have hle:=limbs_val_len hl
 have kle:=limbs_val_len kl
 rw [h.len] at hle
 rw [k.len] at kle
 obtain ⟨a,hva⟩:∃ a,a=val xs:=⟨_,rfl⟩
 obtain ⟨b,hvb⟩:∃ b,b=val ys:=⟨_,rfl⟩
 rw [← hva,← hvb]
 rw [← hva] at hle
 rw [← hvb] at kle
 have HV:=Lib.hid (And.intro hva hvb)
 clear hva hvb
 go_enter Tryz.func44,Tryz.ntmps44
 go_wp2_with fail
 refine (nat_own A n c xs _ h hc hl (by omega)).mono ?_
 rintro e w1 ⟨R1,c1,rfl,ho1,hb1⟩
 rw [← HV.out.1] at ho1 ⊢
 have k1:=k.below (Nat.le_refl _) hb1
 have hs1:=hb1.size
 have H1:=Lib.hid (And.intro ho1 hb1)
 clear h ho1 hb1 k
 go_wp2_with fail
 refine (nat_own B m d ys _ k1 kc kl (by omega)).mono ?_
 rintro e w2 ⟨R2,c2,rfl,ho2,hb2⟩
 rw [← HV.out.2] at ho2 ⊢
 have H2:=Lib.hid (And.intro (H1.out.1.below (Nat.le_refl _) hb2) (And.intro (ho2.mono hs1) (H1.out.2.trans (hb2.mono hs1))))
 clear k1 ho2 hb2 H1
 go_wp2_with fail
 go_loopw [0,1] (fun v0 v1 wr=>∃ (x y:Nat) (P Q:Option Addr) (cp cq:Nat),v0=.slice P (limbs x).length cp∧v1=.slice Q (limbs y).length cq∧Nat.gcd x y=Nat.gcd a b∧(limbs x).length≤n + m∧(limbs y).length≤n + m ∧
  OwnR eU wr wa.heap.size 83 P (limbs x).length cp (limbs x)∧OwnR eU wr wa.heap.size 83 Q (limbs y).length cq (limbs y)∧Below wa.heap.size wa wr) (fun _ v1 wr=>natAt wr v1)
 case atStart=>exact ⟨a,b,R1,R2,c1,c2,rfl,rfl,rfl,by omega,by omega,H2.out.1,H2.out.2.1,H2.out.2.2⟩
 case round =>
  obtain ⟨x,y,P,Q,cp,cq,rfl,rfl,hg,hxn,hyn,hP,hQ,hbl⟩:=hrel
  obtain ⟨wb,hwb⟩:∃ wb:World,wb=wr:=⟨_,rfl⟩
  subst hwb
  have hsx:=hP.sl (by omega)
  have hsy:=hQ.sl (by omega)
  have hcx:=hP.cap
  have hcy:=hQ.cap
  have hsz:=hbl.size
  have hm:=natAt_eq (c:=cq) hsy
  rw [val_limbs] at hm
  have HR:=Lib.hid (And.intro hg (And.intro hP (And.intro hQ (And.intro hbl hm))))
  clear hg hP hQ hbl hm
  generalize hp:(limbs x).length=p at *
  generalize hq:(limbs y).length=q at *
  have HL:=Lib.hid (And.intro hp hq)
  clear hp hq
  rcases Nat.eq_zero_or_pos q with hq0 | hq0
  ·have hy:y=0:=limbs_nil.1 (List.eq_nil_of_length_eq_zero (by rw [HL.out.2];exact hq0))
   have hx:x=Nat.gcd a b:=by have:=HR.out.1;rw [hy,Nat.gcd_zero_right] at this;exact this
   subst hq0
   have HX:=Lib.hid hx
   clear hx hy hsx hsy
   go_wp2_with fail
   go_ret
   exact ⟨P,cp,by rw [← HX.out,HL.out.1];rfl,by rw [← HX.out,HL.out.1];exact HR.out.2.1,HR.out.2.2.2.1⟩
  ·have hq1:(0:Int) < (q:Nat):=by omega
   have hy0:y ≠ 0:=fun e=>by have:=HL.out.2;rw [e,limbs_zero] at this;simp at this;omega
   go_wp2_with fail
   refine (nat_divmod P Q p cp q cq (limbs x) (limbs y) _ hsx hcx (limbs_L32 x) hsy hcy (limbs_L32 y) (by omega)).mono ?_
   rintro e w3 ⟨Q3,cq3,R3,cr3,rfl,_,ho,hb3⟩
   rw [val_limbs,val_limbs,if_neg hy0] at ho
   rw [val_limbs,val_limbs,if_neg hy0,if_neg hy0]
   have hmod:x % y < y:=Nat.mod_lt _ (by omega)
   have hQ3:=HR.out.2.2.1.below (Nat.le_refl _) hb3
   have hR3:=ho.mono hsz
   have hsr:=natAt_eq (c:=cr3) (hR3.sl (by have:=limbs_mono (Nat.le_of_lt hmod);have:=HL.out.2;omega))
   rw [val_limbs] at hsr
   have hgc:Nat.gcd y (x % y)=Nat.gcd a b:=by rw [← HR.out.1,Nat.gcd_comm x y,Nat.gcd_rec y x,Nat.gcd_comm]
   have hln:=limbs_mono (Nat.le_of_lt hmod)
   rw [HL.out.2] at hln
   have HF:=Lib.hid (And.intro hgc (And.intro hQ3 (And.intro hR3 (And.intro (HR.out.2.2.2.1.trans (hb3.mono hsz)) (And.intro hsr (And.intro hmod hln))))))
   clear ho hb3 hmod hQ3 hR3 hsr hgc hsx hsy hln
   go_wp2_with fail
   refine ⟨⟨y,x % y,Q,R3,cq,cr3,by rw [HL.out.2],rfl,HF.out.1,by rw [HL.out.2];omega,by have:=HF.out.2.2.2.2.2.2;omega,by rw [HL.out.2];exact HF.out.2.1,HF.out.2.2.1,HF.out.2.2.2.1⟩,?_⟩
   rw [HF.out.2.2.2.2.1,HR.out.2.2.2.2]
   exact HF.out.2.2.2.2.2.1
def bitsN (v:Nat):Int:=if v=0 then 0 else 32 * ((limbs v).length - 1:Nat) + Lib.bitLen (nth (limbs v) ((limbs v).length - 1))
theorem bitsN_zero {v:Nat}:bitsN v=0 ↔ v=0:=by
 unfold bitsN
 constructor
 ·intro h
  by_cases h0:v=0
  ·exact h0
  ·rw [if_neg h0] at h
   exfalso
   have hl:0 < (limbs v).length:=by
    rcases Nat.eq_zero_or_pos (limbs v).length with h1 | h1
    ·exact absurd (limbs_nil.1 (List.eq_nil_of_length_eq_zero h1)) h0
    ·exact h1
   have he:=limbs_end hl
   have hb:=(limbs_L32 v).nth ((limbs v).length - 1)
   have:=bitLen_bounds _ he (by rw [bB_eq] at hb;omega)
   generalize nth (limbs v) ((limbs v).length - 1)=x at *
   have h0:Lib.bitLen x=0:=by omega
   rw [h0] at this
   omega
 ·intro h;rw [if_pos h]
set_option maxRecDepth 100000 in
set_option maxHeartbeats 800000 in
theorem nat_bits (A:Option Addr) (n c:Nat) (xs:List Nat) (w:World) (h:Sl eU w A n xs) (hc:n≤c) (hl:L32 xs) (hb:n≤140737488351232) :
 Calls Tryz.prog 49 #[.slice A n c] w fun e w'=>e=.returned (.int .i64 (bitsN (val xs)))∧w'=w:=by
 have ht:=h.trimV hl
 have hle:=limbs_val_len hl
 rw [h.len] at hle
 obtain ⟨a,hva⟩:∃ a,a=val xs:=⟨_,rfl⟩
 rw [← hva]
 rw [← hva] at ht hle
 have HV:=Lib.hid hva
 clear hva
 go_enter Tryz.func49,Tryz.ntmps49
 go_wp2_with fail
 refine (nat_trim A n c xs _ h hc hl).mono ?_
 rintro e w1 ⟨rfl,rfl⟩
 rw [← HV.out]
 clear h hl
 generalize hp:(limbs a).length=p at *
 have HP:=Lib.hid hp
 clear hp
 rcases Nat.eq_zero_or_pos p with hp0 | hp0
 ·have ha:a=0:=limbs_nil.1 (List.eq_nil_of_length_eq_zero (by rw [HP.out];exact hp0))
  subst hp0
  have hr:bitsN a=0:=bitsN_zero.2 ha
  have HR:=Lib.hid hr
  clear hr ha ht
  go_wp2_with fail
  go_ret
  exact ⟨ret_int (by rw [HR.out]),rfl⟩
 ·have ha:a ≠ 0:=fun e=>by have:=HP.out;rw [e,limbs_zero] at this;simp at this;omega
  have hr:bitsN a=32 * ((p - 1:Nat):Int) + Lib.bitLen (nth (limbs a) (p - 1)):=by unfold bitsN;rw [if_neg ha,HP.out]
  obtain ⟨b,o,hAe⟩:=sl_someU ht hp0
  subst hAe
  have g1:=sl_atU ht (i:=p - 1) (by omega)
  have hx:=(limbs_L32 a).nth (p - 1)
  generalize nth (limbs a) (p - 1)=x at *
  have HR:=Lib.hid hr
  have i1:((p:Int) - 1).toNat=p - 1:=by omega
  have i3:(0:Int)≤(p:Int) - 1:=by omega
  have i5:(p:Int) - 1 < (p:Nat):=by omega
  have i6:¬ (p:Int)=0:=by omega
  have i7:((p:Int) == 0)=false:=by simpa using i6
  have hx':(x:Int)≤4294967295:=by rw [bB_eq] at hx;omega
  have hbl:Lib.bitLen x≤32:=Lib.bitLen_le x 32 (by omega) (by rw [bB_eq] at hx;omega)
  clear hr ha hx
  go_wp2_with fail
  refine (Tryz.bits_Len32 (x:Int) _ (by omega) hx').mono ?_
  rintro e w2 ⟨rfl,rfl⟩
  rw [show ((x:Int)).toNat=x by omega]
  generalize Lib.bitLen x=bl at *
  have hbl':(bl:Int)≤32:=by omega
  have hbl0:(0:Int)≤(bl:Nat):=by omega
  go_wp2_with fail
  go_ret
  exact ⟨ret_int (by rw [HR.out];omega),rfl⟩
end Go.Proofs.YtgbmnlmnhbkdbaaGreat
/- whole.of, Norm, Of, Sign, Mul, Add, Cmp, walked. Conditions: the limbs read, within Go's bound together. -/
namespace Go.Proofs.YtgbmnlmnhbkdbaaGreat
open Go.RowKit

def IntPost (z:Int) (w:World) (e:Ending) (w':World):Prop:=
 ∃ R c,e=.returned (.agg #[.bool (isNeg z),.slice R (limbs z.natAbs).length c])∧OwnR eU w' w.heap.size 83 R (limbs z.natAbs).length c (limbs z.natAbs)∧Below w.heap.size w w'
set_option maxRecDepth 100000 in
set_option maxHeartbeats 400000 in
theorem whole_of (neg:Bool) (A:Option Addr) (n c:Nat) (xs:List Nat) (w:World) (h:Sl eU w A n xs) (hc:n≤c) (hl:L32 xs) (hb:n * 4≤140737488351232) :
 Calls Tryz.prog 39 #[.bool neg,.slice A n c] w (IntPost (sgn neg (val xs)) w):=by
 have hz1:(sgn neg (val xs)).natAbs=val xs:=sgn_natAbs _ _
 have hz2:isNeg (sgn neg (val xs))=(neg && decide (0 < (limbs (val xs)).length)):=by
  rw [sgn_neg]
  congr 1
  rw [decide_eq_decide]
  constructor
  ·intro h0
   rcases Nat.eq_zero_or_pos (limbs (val xs)).length with h1 | h1
   ·exact absurd (limbs_nil.1 (List.eq_nil_of_length_eq_zero h1)) h0
   ·exact h1
  ·intro h1 h0
   rw [h0,limbs_zero] at h1
   simp at h1
 have HZ:=Lib.hid (And.intro hz1 hz2)
 clear hz1 hz2
 have H1:=((Held.init w).sl h).new 36 [.bool false,.slice none 0 0]
 have hsl:=H1.has.2.1
 clear h
 go_enter Tryz.func39,Tryz.ntmps39
 go_wp2_with fail
 refine (nat_norm A n c xs _ hsl hc hl (by omega)).mono ?_
 rintro e w1 ⟨R,d,rfl,ho,hb1⟩
 have hbox:=(H1.step hb1).has.1
 have hbel:=(H1.step hb1).bel
 have r0:=hbox.cell 0
 have r1:=hbox.cell 1
 have f0:=hbox.frozen 0
 have f1:=hbox.frozen 1
 have hob:=ho.mono (base':=w.heap.size + 1) (by simp)
 have HB:=Lib.hid (And.intro hbox (And.intro hbel hob))
 clear hbox hbel ho hb1 hsl H1 hob
 generalize hL:(limbs (val xs)).length=L at *
 have hfin:∀ b:Bool,(neg && decide (0 < L))=b→RowC ((w1.setCell ⟨w.heap.size,0,none⟩ (.bool b)).setCell ⟨w.heap.size,1,none⟩ (.slice R L d)) w.heap.size 36 [.bool b,.slice R L d] ∧
  OwnR eU ((w1.setCell ⟨w.heap.size,0,none⟩ (.bool b)).setCell ⟨w.heap.size,1,none⟩ (.slice R L d)) w.heap.size 83 R L d (limbs (val xs))∧Below w.heap.size w ((w1.setCell ⟨w.heap.size,0,none⟩ (.bool b)).setCell ⟨w.heap.size,1,none⟩ (.slice R L d)):=fun b _=>by
  have hne:∀ g,R=some ⟨g,0,none⟩→g ≠ w.heap.size:=fun g e=>by
   rcases HB.out.2.2.at_row with h1 | ⟨g',h1,h2,_⟩
   ·rw [h1] at e;cases e
   ·rw [h1] at e;injection e with e;injection e with e;omega
  exact ⟨(HB.out.1.put 0 _).put 1 _,((HB.out.2.2.setFar (p:=⟨w.heap.size,0,none⟩) hne _).setFar (p:=⟨w.heap.size,1,none⟩) hne _).mono (by omega),(HB.out.2.1.setCell (p:=⟨w.heap.size,0,none⟩) (Nat.le_refl _) _).setCell (p:=⟨w.heap.size,1,none⟩) (Nat.le_refl _) _⟩
 have HF:=Lib.hid hfin
 have HL:=Lib.hid hL
 clear hfin hL
 cases neg
 ·have hq:=HF.out false rfl
  have c0:=hq.1.cell 0
  have c1:=hq.1.cell 1
  have HQ:=Lib.hid hq
  clear hq
  go_wp2_with fail
  exact bodyPost_ret (v:=.agg #[.bool false,.slice R L d]) (by simp [results,Tryz.results39,go_sem,c0,c1]) rfl ⟨R,d,by rw [HZ.out.1,HL.out,HZ.out.2];rfl,by rw [HZ.out.1,HL.out];exact HQ.out.2.1,HQ.out.2.2⟩
 ·rcases Nat.eq_zero_or_pos L with hL0 | hL0
  ·subst hL0
   have hq:=HF.out false (by simp)
   have hz:isNeg (sgn true (val xs))=false:=by rw [HZ.out.2];rfl
   have c0:=hq.1.cell 0
   have c1:=hq.1.cell 1
   have HQ:=Lib.hid (And.intro hq hz)
   clear hq hz
   go_wp2_with fail
   exact bodyPost_ret (v:=.agg #[.bool false,.slice R 0 d]) (by simp [results,Tryz.results39,go_sem,c0,c1]) rfl ⟨R,d,by rw [HZ.out.1,HL.out,HQ.out.2],by rw [HZ.out.1,HL.out];exact HQ.out.1.2.1,HQ.out.1.2.2⟩
  ·have hd:decide ((0:Int) < (L:Nat))=true:=by simp;omega
   have hd2:decide (0 < L)=true:=by simp;omega
   have hq:=HF.out true (by simp;omega)
   have hz:isNeg (sgn true (val xs))=true:=by rw [HZ.out.2];simp;omega
   have c0:=hq.1.cell 0
   have c1:=hq.1.cell 1
   have HQ:=Lib.hid (And.intro hq hz)
   clear hq hz
   go_wp2_with fail
   exact bodyPost_ret (v:=.agg #[.bool true,.slice R L d]) (by simp [results,Tryz.results39,go_sem,c0,c1]) rfl ⟨R,d,by rw [HZ.out.1,HL.out,HQ.out.2],by rw [HZ.out.1,HL.out];exact HQ.out.1.2.1,HQ.out.1.2.2⟩
theorem box2_fin {w w1:World} {g:Nat} {v0 v1 u0 u1:Value} {R:Option Addr} {L d:Nat} {l:List Nat} (hg:w.heap.size≤g) (hbox:RowC w1 g 36 [u0,u1]) (hbel:Below w.heap.size w w1) (ho:OwnR eU w1 (g + 1) 83 R L d l) :
 RowC ((w1.setCell ⟨g,0,none⟩ v0).setCell ⟨g,1,none⟩ v1) g 36 [v0,v1]∧OwnR eU ((w1.setCell ⟨g,0,none⟩ v0).setCell ⟨g,1,none⟩ v1) w.heap.size 83 R L d l ∧
  Below w.heap.size w ((w1.setCell ⟨g,0,none⟩ v0).setCell ⟨g,1,none⟩ v1):=by
 have hne:∀ g',R=some ⟨g',0,none⟩→g' ≠ g:=fun g' e=>by
  rcases ho.at_row with h1 | ⟨g'',h1,h2,_⟩
  ·rw [h1] at e;cases e
  ·rw [h1] at e;injection e with e;injection e with e;omega
 exact ⟨(hbox.put 0 _).put 1 _,((ho.setFar (p:=⟨g,0,none⟩) hne _).setFar (p:=⟨g,1,none⟩) hne _).mono (by omega),(hbel.setCell (p:=⟨g,0,none⟩) hg _).setCell (p:=⟨g,1,none⟩) hg _⟩
set_option maxRecDepth 100000 in
set_option maxHeartbeats 400000 in
theorem whole_norm (neg:Bool) (A:Option Addr) (n c:Nat) (xs:List Nat) (w:World) (h:Sl eU w A n xs) (hc:n≤c) (hl:L32 xs) (hb:n * 4≤140737488351232) :
 Calls Tryz.prog 46 #[.agg #[.bool neg,.slice A n c]] w (IntPost (sgn neg (val xs)) w):=by
 have H1:=(((Held.init w).sl h).new 36 [.bool neg,.slice A n c])
 have H2:=H1.new 36 [.bool false,.slice none 0 0]
 rw [show (w.alloc (.cells [.bool neg,.slice A n c].toArray 36)).heap.size=w.heap.size + 1 from by simp] at H2
 have a0:=H2.has.2.1.cell 0
 have a1:=H2.has.2.1.cell 1
 have hsl:=H2.has.2.2.1
 clear h H1
 go_enter Tryz.func46,Tryz.ntmps46
 go_wp2_with fail
 refine (whole_of neg A n c xs _ hsl hc hl hb).mono ?_
 rintro e w1 ⟨R,d,rfl,ho,hb1⟩
 have H3:=H2.step hb1
 have hq:=box2_fin (v0:=.bool (isNeg (sgn neg (val xs)))) (v1:=.slice R (limbs (sgn neg (val xs)).natAbs).length d) (by omega) H3.has.1 H3.bel (ho.mono (by simp))
 have r0:=H3.has.1.cell 0
 have r1:=H3.has.1.cell 1
 have f0:=H3.has.1.frozen 0
 have f1:=H3.has.1.frozen 1
 generalize sgn neg (val xs)=z at *
 generalize hL:(limbs z.natAbs).length=L at *
 have HL:=Lib.hid hL
 have c0:=hq.1.cell 0
 have c1:=hq.1.cell 1
 have HQ:=Lib.hid hq
 clear hq H3 H2 hsl ho hb1 a0 a1 hL
 go_wp2_with fail
 exact bodyPost_ret (v:=.agg #[.bool (isNeg z),.slice R L d]) (by simp [results,Tryz.results46,go_sem,c0,c1]) rfl ⟨R,d,by rw [HL.out],by rw [HL.out];exact HQ.out.2.1,HQ.out.2.2⟩
set_option maxRecDepth 100000 in
set_option maxHeartbeats 400000 in
theorem whole_sign (neg:Bool) (A:Option Addr) (n c:Nat) (xs:List Nat) (w:World) (h:Sl eU w A n xs) (hc:n≤c) (hl:L32 xs) :
 Calls Tryz.prog 29 #[.agg #[.bool neg,.slice A n c]] w fun e w'=>e=.returned (.int .i64 (sgnI (sgn neg (val xs))))∧Below w.heap.size w w':=by
 have H1:=(((Held.init w).sl h).new 36 [.bool neg,.slice A n c])
 have a0:=H1.has.1.cell 0
 have a1:=H1.has.1.cell 1
 have hsl:=H1.has.2.1
 have hbig:=h.big
 clear h
 obtain ⟨z,hz⟩:∃ z,z=sgn neg (val xs):=⟨_,rfl⟩
 rw [← hz]
 have hz0:bitsN (val xs)=0 ↔ z=0:=by rw [bitsN_zero,hz,sgn_eq_zero]
 have hzn:z ≠ 0→(z < 0 ↔ neg=true):=fun h0=>by
  rw [hz] at h0 ⊢
  have hv:val xs ≠ 0:=fun h=>h0 (by rw [h];exact sgn_zero _)
  unfold sgn
  cases neg
  ·simp
  ·simp;omega
 have HB:=Lib.hid (And.intro H1.bel (And.intro hz0 hzn))
 clear hz hz0 hzn H1
 go_enter Tryz.func29,Tryz.ntmps29
 go_wp2_with fail
 refine (nat_bits A n c xs _ hsl hc hl hbig).mono ?_
 rintro e w1 ⟨rfl,rfl⟩
 generalize bitsN (val xs)=bn at *
 clear hsl
 by_cases h0:bn=0
 ·have hs:sgnI z=0:=by unfold sgnI;rw [HB.out.2.1.1 h0];rfl
  have HS:=Lib.hid hs
  subst h0
  clear hs
  go_wp2_with fail
  go_ret
  exact ⟨ret_int HS.out.symm,HB.out.1⟩
 ·have hne:z ≠ 0:=fun e=>h0 (HB.out.2.1.2 e)
  have h1:(bn == 0)=false:=by simpa using h0
  cases neg
  ·have hs:sgnI z=1:=by
    unfold sgnI
    rw [if_neg (fun h=>by have:=(HB.out.2.2 hne).1 h;cases this),if_neg hne]
   have HS:=Lib.hid hs
   clear hs hne
   go_wp2_with fail
   go_ret
   exact ⟨ret_int HS.out.symm,HB.out.1⟩
  ·have hs:sgnI z=-1:=by
    unfold sgnI
    rw [if_pos ((HB.out.2.2 hne).2 rfl)]
   have HS:=Lib.hid hs
   clear hs hne
   go_wp2_with fail
   go_ret
   exact ⟨ret_int HS.out.symm,HB.out.1⟩
set_option maxRecDepth 100000 in
set_option maxHeartbeats 400000 in
theorem whole_ofI (k:Nat) (w:World) (h:k < 4294967296):Calls Tryz.prog 23 #[.int .i64 (k:Int)] w (IntPost (k:Int) w):=by
 have H2:=(Held.init w).new 36 [.bool false,.slice none 0 0]
 have hk:¬ (k:Int) < 0:=by omega
 have hk2:(k:Int) < 4294967296:=by omega
 have hs:sgn false (val (limbs k))=(k:Int):=by rw [val_limbs];rfl
 have HS:=Lib.hid hs
 clear hs
 go_enter Tryz.func23,Tryz.ntmps23
 go_wp2_with fail
 refine (nat_of k _ (by rw [bB_eq];omega)).mono ?_
 rintro e w1 ⟨R1,d1,rfl,ho1,hb1⟩
 have H3:=H2.step hb1
 have hlen:=limbs_len (n:=k) (k:=1) (by rw [Nat.pow_one,bB_eq];exact h)
 have hsl:=ho1.sl (by omega)
 have hcap:=ho1.cap
 clear H2 ho1 hb1
 go_wp2_with fail
 refine (whole_of false R1 (limbs k).length d1 (limbs k) _ hsl hcap (limbs_L32 k) (by omega)).mono ?_
 rintro e w2 ⟨R,d,rfl,ho,hb1⟩
 rw [HS.out] at ho ⊢
 have H4:=H3.step hb1
 have hq:=box2_fin (v0:=.bool (isNeg (k:Int))) (v1:=.slice R (limbs (k:Int).natAbs).length d) (by omega) H4.has.1 H4.bel (ho.mono (by have h2:=H3.has.1.lt;omega))
 have r0:=H4.has.1.cell 0
 have r1:=H4.has.1.cell 1
 have f0:=H4.has.1.frozen 0
 have f1:=H4.has.1.frozen 1
 have hn:isNeg (k:Int)=false:=by unfold isNeg;simp
 rw [hn] at hq ⊢
 generalize hL:(limbs (k:Int).natAbs).length=L at *
 have HL:=Lib.hid (And.intro hL hn)
 have c0:=hq.1.cell 0
 have c1:=hq.1.cell 1
 have HQ:=Lib.hid hq
 clear hq H4 H3 hsl ho hb1 hL hn hlen hcap
 go_wp2_with fail
 exact bodyPost_ret (v:=.agg #[.bool false,.slice R L d]) (by simp [results,Tryz.results23,go_sem,c0,c1]) rfl ⟨R,d,by rw [HL.out.1,HL.out.2],by rw [HL.out.1];exact HQ.out.2.1,HQ.out.2.2⟩
end Go.Proofs.YtgbmnlmnhbkdbaaGreat
