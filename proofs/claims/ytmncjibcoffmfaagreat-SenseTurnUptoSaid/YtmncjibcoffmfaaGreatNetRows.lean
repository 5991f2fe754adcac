/- Networks as they stand; how many rows a table must have: model.rows, credenceref19's Choices, Over, Sizes, walked. Conditions: the network reads; parents are variables; within Go's bound. -/
import Derived.Test.YtmncjibcoffmfaaGreatJ5
import Derived.Test.YtmncjibcoffmfaaGreatJ17
import Derived.Test.YtmncjibcoffmfaaGreatJ3
set_option linter.unusedVariables false
set_option linter.unusedSimpArgs false
namespace Go.Proofs.YtmncjibcoffmfaaGreat
open Go.RowKit

structure NetV where
 name:ByteArray
 names:List ByteArray
 values:List (List ByteArray)
 parents:List (List Int)
 tables:List (List RawR)
structure Tabs (w:World) (A:Option Addr) (n:Nat) (L:List (List RawR)):Prop where
 ex:∃ vs:List (Option Addr × Nat × Nat),Sl eS w A n vs∧∀ i,i < n→RRow w (nth vs i).1 (nth vs i).2.1 (nth L i)∧(nth vs i).2.1≤(nth vs i).2.2
 len:L.length=n
theorem Tabs.below {w w':World} {A:Option Addr} {n:Nat} {L:List (List RawR)} (h:Tabs w A n L) {B:Nat} (hB:w.heap.size≤B) (hb:Below B w w'):Tabs w' A n L:=by
 obtain ⟨⟨vs,h1,h2⟩,h3⟩:=h
 exact ⟨⟨vs,h1.below hB hb,fun i hi=>⟨(h2 i hi).1.below hB hb,(h2 i hi).2⟩⟩,h3⟩
instance {A:Option Addr} {n:Nat} {L:List (List RawR)}:Stable (fun w=>Tabs w A n L):=⟨fun hb h=>h.below (Nat.le_refl _) hb⟩
theorem Tabs.big {w:World} {A:Option Addr} {n:Nat} {L:List (List RawR)} (h:Tabs w A n L):n≤140737488351232:=by obtain ⟨⟨vs,h1,_⟩,_⟩:=h;exact h1.big
theorem Tabs.row {w:World} {A:Option Addr} {n:Nat} {L:List (List RawR)} (h:Tabs w A n L) {i:Nat} (hi:i < n):∃ b off B m d,A=some ⟨b,off,none⟩∧b < w.heap.size∧w.cell? ⟨b,off + i,none⟩=some (.slice B m d)∧RRow w B m (nth L i)∧m≤d:=by
 obtain ⟨⟨vs,h1,h2⟩,_⟩:=h
 obtain ⟨b,off,e,hlt,hc⟩:=h1.at' (by omega)
 exact ⟨b,off,(nth vs i).1,(nth vs i).2.1,(nth vs i).2.2,e,hlt,hc i hi,h2 i hi⟩
def netC (N:NetV) (A1 A2 A3 A4:Option Addr) (c1 c2 c3 c4:Nat):List Value:=[.string N.name,.slice A1 N.names.length c1,.slice A2 N.values.length c2,.slice A3 N.parents.length c3,.slice A4 N.tables.length c4]
structure NetAt (w:World) (N:NetV) (A1 A2 A3 A4:Option Addr) (c1 c2 c3 c4:Nat):Prop where
 n1:Sl Value.string w A1 N.names.length N.names
 n2:Rows Value.string w A2 N.values.length N.values
 n3:Rows (Value.int .i64) w A3 N.parents.length N.parents
 n4:Tabs w A4 N.tables.length N.tables
 k1:N.names.length≤c1
 k2:N.values.length≤c2
 k3:N.parents.length≤c3
 k4:N.tables.length≤c4
section
variable {w w':World} {N:NetV} {A1 A2 A3 A4:Option Addr} {c1 c2 c3 c4:Nat}
theorem NetAt.below (h:NetAt w N A1 A2 A3 A4 c1 c2 c3 c4) {B:Nat} (hB:w.heap.size≤B) (hb:Below B w w'):NetAt w' N A1 A2 A3 A4 c1 c2 c3 c4:=
 ⟨h.n1.below hB hb,h.n2.below hB hb,h.n3.below hB hb,h.n4.below hB hb,h.k1,h.k2,h.k3,h.k4⟩
instance:Stable (fun w=>NetAt w N A1 A2 A3 A4 c1 c2 c3 c4):=⟨fun hb h=>h.below (Nat.le_refl _) hb⟩
end
structure NetB (N:NetV):Prop where
 names:N.names.length≤1048576
 text:∀ x,x ∈ N.names→x.size≤maxLen
 vals:N.values.length≤1048576
 val:∀ l,l ∈ N.values→l.length≤1048576∧∀ x,x ∈ l→x.size≤maxLen
 pars:N.parents.length≤1048576
 par:∀ l,l ∈ N.parents→l.length≤1048576
 tabs:N.tables.length≤1048576
 tab:∀ l,l ∈ N.tables→l.length≤1048576∧totTo l l.length≤8388608
def NetV.Z (N:NetV):List Nat:=N.values.map List.length
theorem NetV.Z_len (N:NetV):N.Z.length=N.values.length:=by simp [NetV.Z]
theorem NetV.nth_Z {N:NetV} {i:Nat} (h:i < N.values.length):nth N.Z i=(nth N.values i).length:=by unfold NetV.Z;rw [nth_map _ h]
theorem NetB.z {N:NetV} (h:NetB N) (i:Nat):nth N.Z i≤1048576:=by
 by_cases hi:i < N.values.length
 ·rw [NetV.nth_Z hi];exact (h.val _ (nth_mem hi)).1
 ·unfold nth List.getD;rw [List.getElem?_eq_none (by rw [NetV.Z_len];omega)];exact Nat.zero_le _
def rowsMany:Nat:=1099511627776
def rowsTo (Z:List Nat) (ps:List Int):Nat→Nat
 | 0=>1
 | i + 1=>min (rowsTo Z ps i * nth Z (nth ps i).toNat) rowsMany
def rowsC (Z:List Nat) (ps:List Int):Nat:=rowsTo Z ps ps.length
theorem rowsTo_le (Z:List Nat) (ps:List Int):∀ i,rowsTo Z ps i≤1099511627776
 | 0=>by rw [rowsTo];omega
 | i + 1=>by rw [rowsTo];exact Nat.min_le_right _ _
set_option maxRecDepth 100000 in
set_option maxHeartbeats 800000 in
theorem rows_net (N:NetV) (A1 A2 A3 A4:Option Addr) (c1 c2 c3 c4:Nat) (v:Nat) (w:World) (h:NetAt w N A1 A2 A3 A4 c1 c2 c3 c4) (hB:NetB N) (hv:v < N.parents.length) (hp:∀ p,p ∈ nth N.parents v→0≤p∧p < (N.values.length:Int)) :
 Calls Tryz.prog 74 #[.agg (netC N A1 A2 A3 A4 c1 c2 c3 c4).toArray,.int .i64 (v:Nat)] w fun e w'=>e=.returned (.int .i64 (rowsC N.Z (nth N.parents v):Nat))∧Below w.heap.size w w':=by
 have H:=(Held.init w).new 27 (netC N A1 A2 A3 A4 c1 c2 c3 c4)
 unfold netC at H ⊢
 have r3:=H.has.1.cell 3
 have r2:=H.has.1.cell 2
 obtain ⟨wq,hwq⟩:∃ wq:World,wq=w.alloc (.cells #[.string N.name,.slice A1 N.names.length c1,.slice A2 N.values.length c2,.slice A3 N.parents.length c3,.slice A4 N.tables.length c4] 27):=⟨_,rfl⟩
 rw [← hwq] at H r3 r2
 have hN:=h.below (Nat.le_refl _) H.bel
 obtain ⟨b,off,B,m,d,e3,hb,g1,hrow⟩:=hN.n3.row hv
 have hvv:(v:Int) < (N.parents.length:Int):=by omega
 have hbig:=hN.n3.big
 have hml:=hrow.len
 have hmb:=hrow.big
 have HN:=Lib.hid (And.intro hN (And.intro hB (And.intro hp (And.intro hrow H.bel))))
 subst e3
 clear hN hB hp h H
 go_enter Tryz.func74,Tryz.ntmps74
 go_upto_region 1 with fail
 rw [← hwq]
 clear hwq
 go_wp2_with fail
 go_loopw [14,5] (fun i k wr=>∃ j:Nat,j≤m∧i=.int .i64 (j:Nat)∧k=.int .i64 (rowsTo N.Z (nth N.parents v) j:Nat)∧wr=wq) (fun i _ _=>m - (intOf i).toNat)
 case atStart=>exact ⟨0,by omega,rfl,rfl,rfl⟩
 case round =>
  obtain ⟨j,hj,rfl,rfl,hwr⟩:=hrel
  have hwr:=hwr.symm
  subst hwr
  have hle:=rowsTo_le N.Z (nth N.parents v) j
  by_cases hjm:j < m
  ·obtain ⟨b2,off2,rfl,hb2,hc⟩:=HN.out.2.2.2.1.at' (by omega)
   have g2:=hc j hjm
   clear hc
   have hpj:=HN.out.2.2.1 _ (nth_mem (xs:=nth N.parents v) (j:=j) (by omega))
   have hsucc:rowsTo N.Z (nth N.parents v) (j + 1)=min (rowsTo N.Z (nth N.parents v) j * nth N.Z (nth (nth N.parents v) j).toNat) 1099511627776:=rfl
   obtain ⟨p,hpe⟩:∃ p:Nat,nth (nth N.parents v) j=(p:Int):=⟨_,(Int.toNat_of_nonneg hpj.1).symm⟩
   rw [hpe] at g2 hpj hsucc
   have hpl:p < N.values.length:=by omega
   obtain ⟨b3,off3,B3,m3,d3,e2,hb3,g3,hrow3⟩:=HN.out.1.n2.row hpl
   have hzp:=HN.out.2.1.z p
   rw [show (p:Int).toNat=p from rfl,NetV.nth_Z hpl,hrow3.len] at hsucc
   rw [NetV.nth_Z hpl,hrow3.len] at hzp
   generalize rowsTo N.Z (nth N.parents v) j=k at *
   have hmul:k * m3≤1099511627776 * 1048576:=Nat.mul_le_mul hle hzp
   obtain ⟨km,hkm⟩:∃ km,km=k * m3:=⟨_,rfl⟩
   rw [← hkm] at hsucc hmul
   have e1:(k:Int) * (m3:Int)=(km:Int):=by rw [hkm];exact (Int.natCast_mul _ _).symm
   have HS:=Lib.hid (And.intro hsucc hpe)
   rw [e2] at r2
   clear hsucc hpe hkm hrow3 e2
   go_wp2_with fail
   exact ⟨⟨j + 1,by omega,by go_num,by rw [HS.out.1];exact congrArg (Value.int .i64) (by omega),by first | rfl | trivial⟩,by simp [intOf];omega⟩
  ·obtain rfl:m=j:=by omega
   have HE:=Lib.hid (show rowsC N.Z (nth N.parents v)=rowsTo N.Z (nth N.parents v) m by unfold rowsC;rw [hml])
   go_wp2_with fail
   go_ret
   exact ⟨by rw [HE.out];rfl,HN.out.2.2.2.2⟩
theorem over_any (r k:Nat) (w:World) (hk:0 < k) (hb:k≤1048576):Calls Tryz.prog 58 #[.int .i64 (r:Nat),.int .i64 (k:Nat)] w fun e w'=>e=.returned (.bool (decide (65536 < r * k)))∧w=w':=by
 have hq:decide (65536 / k < r)=decide (65536 < r * k):=by
  rw [Bool.eq_iff_iff,decide_eq_true_iff,decide_eq_true_iff,Nat.div_lt_iff_lt_mul hk]
 have HQ:=Lib.hid hq
 have e1:(65536:Int) / (k:Int)=((65536 / k:Nat):Int):=(Int.natCast_ediv 65536 k).symm
 have e2:(65536:Int).tdiv (k:Int)=((65536 / k:Nat):Int):=by rw [Int.tdiv_eq_ediv_of_nonneg (by omega),e1]
 have h1:65536 / k≤65536:=Nat.div_le_self _ _
 generalize 65536 / k=q at *
 have d1:(0:Int) < (k:Int):=by omega
 have d2:¬ (k:Int)=0:=by omega
 have d3:decide ((0:Int) < (k:Int))=true:=decide_eq_true d1
 clear hq
 go_enter Tryz.func58,Tryz.ntmps58
 go_wp2_with fail
 go_ret
 exact ⟨by rw [← HQ.out];rfl,rfl⟩
set_option maxRecDepth 100000 in
set_option maxHeartbeats 800000 in
theorem choices_any (A B:Option Addr) (n c m d:Nat) (ps:List Int) (Z:List Nat) (w:World) (h:Sl (Value.int .i64) w A n ps) (k:Sl eN w B m Z) (hp:∀ p,p ∈ ps→0≤p∧p < (m:Int)) (hz:∀ i,i < m→1≤nth Z i∧nth Z i≤1048576) :
 Calls Tryz.prog 57 #[.slice A n c,.slice B m d] w fun e w'=>e=.returned (.int .i64 (rowsC Z ps:Nat))∧w=w':=by
 have hbig:=h.big
 have hbig2:=k.big
 have hlen:=h.len
 have HH:=Lib.hid (And.intro h (And.intro k (And.intro hp hz)))
 clear h k hp hz
 go_enter Tryz.func57,Tryz.ntmps57
 go_wp2_with fail
 go_loopw [5] (fun i wr=>∃ j:Nat,j≤n∧i=.int .i64 (j:Nat)∧wr=w) (fun i _=>n - (intOf i).toNat)
 case atStart=>exact ⟨0,by omega,rfl,rfl⟩
 case round =>
  obtain ⟨j,hj,rfl,rfl⟩:=hrel
  by_cases hjn:j < n
  ·obtain ⟨b1,o1,rfl,hb1,hc1⟩:=HH.out.1.at' (by omega)
   have g1:=hc1 j hjn
   have hpj:=HH.out.2.2.1 _ (nth_mem (xs:=ps) (j:=j) (by omega))
   obtain ⟨p,hpe⟩:∃ p:Nat,nth ps j=(p:Int):=⟨_,(Int.toNat_of_nonneg hpj.1).symm⟩
   rw [hpe] at g1 hpj
   obtain ⟨b2,o2,rfl,hb2,hc2⟩:=HH.out.2.1.at' (by omega)
   have g2:wr.cell? ⟨b2,o2 + p,none⟩=some (.int .i64 (nth Z p:Nat)):=hc2 p (by omega)
   have hzp:=HH.out.2.2.2 p (by omega)
   generalize nth Z p=z at *
   have hz1:¬ (z:Int) < 1:=by omega
   clear hc1 hc2 hpe
   go_wp2_with fail
   exact ⟨⟨j + 1,by omega,by go_num,by first | rfl | trivial⟩,by simp [intOf];omega⟩
  ·obtain rfl:j=n:=by omega
   clear hj
   go_wp2_with fail
   go_loopw [7,6] (fun i r wx=>∃ q:Nat,q≤j∧i=.int .i64 (q:Nat)∧r=.int .i64 (rowsTo Z ps q:Nat)∧wx=wr) (fun i _ _=>j - (intOf i).toNat)
   case atStart=>exact ⟨0,by omega,rfl,rfl,rfl⟩
   case round =>
    obtain ⟨q,hq,rfl,rfl,hwx⟩:=hrel
    have hwx:=hwx.symm
    subst hwx
    by_cases hqn:q < j
    ·obtain ⟨b1,o1,rfl,hb1,hc1⟩:=HH.out.1.at' (by omega)
     have g1:=hc1 q hqn
     have hpj:=HH.out.2.2.1 _ (nth_mem (xs:=ps) (j:=q) (by omega))
     have hsucc:rowsTo Z ps (q + 1)=min (rowsTo Z ps q * nth Z (nth ps q).toNat) 1099511627776:=rfl
     have hle:=rowsTo_le Z ps q
     obtain ⟨p,hpe⟩:∃ p:Nat,nth ps q=(p:Int):=⟨_,(Int.toNat_of_nonneg hpj.1).symm⟩
     rw [hpe] at g1 hpj hsucc
     rw [show (p:Int).toNat=p from rfl] at hsucc
     obtain ⟨b2,o2,rfl,hb2,hc2⟩:=HH.out.2.1.at' (by omega)
     have g2:wr.cell? ⟨b2,o2 + p,none⟩=some (.int .i64 (nth Z p:Nat)):=hc2 p (by omega)
     have hzp:=HH.out.2.2.2 p (by omega)
     generalize nth Z p=z at *
     generalize rowsTo Z ps q=r at *
     have e1:(1099511627776:Int) / (z:Int)=((1099511627776 / z:Nat):Int):=(Int.natCast_ediv 1099511627776 z).symm
     have e2:(1099511627776:Int).tdiv (z:Int)=((1099511627776 / z:Nat):Int):=by rw [Int.tdiv_eq_ediv_of_nonneg (by omega),e1]
     have hq1:1099511627776 / z≤1099511627776:=Nat.div_le_self _ _
     have hq2:1099511627776 / z < r ↔ 1099511627776 < r * z:=Nat.div_lt_iff_lt_mul (by omega)
     generalize 1099511627776 / z=y at *
     obtain ⟨rz,hrz⟩:∃ rz,rz=r * z:=⟨_,rfl⟩
     rw [← hrz] at hsucc hq2
     have e3:(r:Int) * (z:Int)=(rz:Int):=by rw [hrz];exact (Int.natCast_mul _ _).symm
     have HS:=Lib.hid hsucc
     have d2:¬ (z:Int)=0:=by omega
     clear hc1 hc2 hpe hsucc hrz
     by_cases hover:y < r
     ·have HO:=Lib.hid (hq2.1 hover)
      have d1:decide ((y:Int) < (r:Int))=true:=decide_eq_true (by omega)
      clear hq2
      go_wp2_with fail
      exact ⟨⟨q + 1,by omega,by go_num,by rw [HS.out,Nat.min_eq_right (Nat.le_of_lt HO.out)];rfl,by first | rfl | trivial⟩,by simp [intOf];omega⟩
     ·have hno:rz≤1099511627776:=Nat.le_of_not_lt fun h=>hover (hq2.2 h)
      have d1:decide ((y:Int) < (r:Int))=false:=decide_eq_false (by omega)
      clear hq2
      go_wp2_with fail
      exact ⟨⟨q + 1,by omega,by go_num,by rw [HS.out,Nat.min_eq_left hno],by first | rfl | trivial⟩,by simp [intOf];omega⟩
    ·obtain rfl:q=j:=by omega
     have HE:=Lib.hid (show rowsC Z ps=rowsTo Z ps q by unfold rowsC;rw [hlen])
     go_wp2_with fail
     go_ret
     exact ⟨by rw [HE.out];rfl,rfl⟩
set_option maxRecDepth 100000 in
set_option maxHeartbeats 800000 in
theorem sizes_net (N:NetV) (A1 A2 A3 A4:Option Addr) (c1 c2 c3 c4:Nat) (w:World) (h:NetAt w N A1 A2 A3 A4 c1 c2 c3 c4) (hB:NetB N) :
 Calls Tryz.prog 56 #[.agg (netC N A1 A2 A3 A4 c1 c2 c3 c4).toArray] w fun e w'=>∃ R d,e=.returned (.slice R N.values.length d)∧OwnR eN w' w.heap.size 3 R N.values.length d N.Z∧Below w.heap.size w w':=by
 have H:=(Held.init w).new 27 (netC N A1 A2 A3 A4 c1 c2 c3 c4)
 unfold netC at H ⊢
 obtain ⟨wq,hwq⟩:∃ wq:World,wq=w.alloc (.cells #[.string N.name,.slice A1 N.names.length c1,.slice A2 N.values.length c2,.slice A3 N.parents.length c3,.slice A4 N.tables.length c4] 27):=⟨_,rfl⟩
 rw [← hwq] at H
 have hv:=hB.vals
 have hN:=(h.below (Nat.le_refl _) H.bel).n2
 have HN:=Lib.hid (And.intro hN (And.intro hB (And.intro H.has.1 H.bel)))
 have hlt:=H.has.1.lt
 clear hN hB h H
 go_enter Tryz.func56,Tryz.ntmps56
 go_upto_region 1 with fail
 rw [← hwq]
 clear hwq
 go_wp2_with fail
 go_loopw [3,4] (fun l i wr=>∃ (j:Nat) (R:Option Addr) (d:Nat),j≤N.values.length∧i=.int .i64 (j:Nat)∧l=.slice R j d∧OwnR eN wr wq.heap.size 3 R j d (N.Z.take j)∧Below wq.heap.size wq wr) (fun _ i _=>N.values.length - (intOf i).toNat)
 case atStart=>exact ⟨0,none,0,by omega,rfl,rfl,OwnR.nil _ _ _ _,Below.refl _ _⟩
 case round =>
  obtain ⟨j,R,d,hj,rfl,rfl,ho,hbr⟩:=hrel
  obtain ⟨wo,hwo⟩:∃ wo:World,wo=wr:=⟨_,rfl⟩
  subst hwo
  have hbox:=HN.out.2.2.1.below' hbr
  have r2:=hbox.cell 2
  by_cases hjn:j < N.values.length
  ·obtain ⟨b,off,B,m,d2,e2,hblt,g1,hrow⟩:=HN.out.1.row hjn
   have hZ:N.Z.take (j + 1)=N.Z.take j ++ [m]:=by rw [take_snoc (by rw [NetV.Z_len];exact hjn),NetV.nth_Z hjn,hrow.len]
   have hm:=(HN.out.2.1.val _ (nth_mem hjn)).1
   rw [hrow.len] at hm
   have g1:=bc hbr g1 hblt
   have hsz:=hbr.size
   have ho1:=ho.alloc (.cells #[.int .i64 (m:Nat)] 3)
   have hbq:=hbr.alloc hsz (.cells #[.int .i64 (m:Nat)] 3)
   have hsz1:=hbq.size
   have hq8:(j + 1) * 8≤140737488355328:=by omega
   rw [e2] at r2
   have HB:=Lib.hid (And.intro hbq hZ)
   clear hbq hbr ho hsz hZ hrow e2 hbox
   go_wp2_with (first
    | (at_builtin;refine wpList_app _ eiInt eN one_eN rfl _ _ rfl wq.heap.size _ _ _ _ rfl ho1 _ _ _ _ rfl (Sl.one (enc:=eN) _ _ m) hq8 hsz1 ?_)
    | fail)
   intro C9 k9 w9 ho9 _ hb9 _
   rw [← HB.out.2] at ho9
   have HR:=Lib.hid (And.intro ho9 (HB.out.1.trans hb9))
   clear ho9 hb9 ho1 hsz1 hq8
   go_wp2_with fail
   exact ⟨⟨j + 1,C9,k9,by omega,by go_num,rfl,HR.out.1,HR.out.2⟩,by simp [intOf];omega⟩
  ·obtain rfl:j=N.values.length:=by omega
   rw [List.take_of_length_le (by rw [NetV.Z_len];exact Nat.le_refl _)] at ho
   have HE:=Lib.hid (And.intro ho hbr)
   clear ho hbr
   go_wp2_with fail
   go_ret
   exact ⟨R,d,rfl,HE.out.1.mono (by omega),HN.out.2.2.2.trans (HE.out.2.mono (by omega))⟩
end Go.Proofs.YtmncjibcoffmfaaGreat
