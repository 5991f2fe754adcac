/- Joined by program out of: NetStr, Dag, RefDag, RefOut. What each says stands at its own head. -/
import Derived.Test.YtmncjibcoffmfaaGreatJ3
import Derived.Test.YtmncjibcoffmfaaGreatJ4
set_option linter.unusedVariables false
set_option linter.unusedSimpArgs false
/- Lists of texts: slices.Index, slices.Contains, model.twice, credenceref19.Find, walked. Conditions: the list reads; texts within Go's bound. -/
namespace Go.Proofs.YtmncjibcoffmfaaGreat
open Go.RowKit Go.Maps

theorem text_ext {a b:ByteArray} (h:a.toList=b.toList):a=b:=by
 rw [ByteArray.toList_eq,ByteArray.toList_eq] at h
 exact ByteArray.ext (Array.ext' h)
instance:LawfulBEq ByteArray where
 eq_of_beq {a b} h:=by
  cases a;cases b
  have h2:ByteArray.beq _ _=true:=h
  unfold ByteArray.beq at h2
  simpa using h2
 rfl {a}:=by
  cases a
  show ByteArray.beq _ _=true
  unfold ByteArray.beq
  simp
theorem text_ne {a b:ByteArray} (h:¬ a=b):(a.toList == b.toList)=false:=beq_eq_false_iff_ne.2 fun e=>h (text_ext e)
def findS (x:ByteArray):List ByteArray→Nat→Int
 | [],_=>-1
 | y :: l,k=>if y=x then (k:Int) else findS x l (k + 1)
theorem findS_drop {x:ByteArray} {xs:List ByteArray} {k:Nat} (h:k < xs.length):findS x (xs.drop k) k=if nth xs k=x then (k:Int) else findS x (xs.drop (k + 1)) (k + 1):=by
 rw [List.drop_eq_getElem_cons h,findS,nth_eq h]
theorem findS_end {x:ByteArray} {xs:List ByteArray} {k:Nat} (h:xs.length≤k):findS x (xs.drop k) k=-1:=by rw [List.drop_eq_nil_of_le h];rfl
theorem findS_neg (x:ByteArray):∀ (xs:List ByteArray) (k:Nat),(0≤findS x xs k ↔ x ∈ xs)
 | [],k=>by simp [findS]
 | y :: l,k=>by
   rw [findS]
   by_cases h:y=x
   ·rw [if_pos h];simp [h]
   ·rw [if_neg h,findS_neg x l (k + 1)];simp [Ne.symm h]
   termination_by xs=>xs.length
theorem findS_lt {x:ByteArray}:∀ (xs:List ByteArray) (k i:Nat),k≤i→(x ∈ xs→(findS x xs k < (i:Int) ↔ x ∈ xs.take (i - k)))
 | [],k,i,_=>by simp
 | y :: l,k,i,hk=>by
   intro hx
   rw [findS]
   by_cases h:y=x
   ·rw [if_pos h]
    rcases Nat.eq_or_lt_of_le hk with h1 | h1
    ·subst h1;simp
    ·rw [show i - k=(i - k - 1) + 1 by omega];simp [h];omega
   ·rw [if_neg h]
    have hx':x ∈ l:=by simpa [Ne.symm h] using hx
    rcases Nat.eq_or_lt_of_le hk with h1 | h1
    ·subst h1
     have h2:=(findS_lt l (k + 1) (k + 1) (Nat.le_refl _) hx')
     simp only [Nat.sub_self,List.take_zero,List.not_mem_nil,iff_false] at h2 ⊢
     have:=(findS_neg x l (k + 1)).2 hx'
     omega
    ·rw [findS_lt l (k + 1) i h1 hx',show i - k=(i - (k + 1)) + 1 by omega]
     simp [Ne.symm h]
   termination_by xs=>xs.length
theorem findS_dup {xs:List ByteArray} {k:Nat} (h:k < xs.length):decide (findS (nth xs k) xs 0 < (k:Int))=dupAt xs k:=by
 have h1:=findS_lt xs 0 k (Nat.zero_le _) (nth_mem h)
 unfold dupAt
 rw [Nat.sub_zero] at h1
 rw [Bool.eq_iff_iff,decide_eq_true_iff,h1]
 simp
set_option maxRecDepth 100000 in
set_option maxHeartbeats 400000 in
theorem find_s (A:Option Addr) (n c:Nat) (xs:List ByteArray) (v:ByteArray) (w:World) (hx:Sl Value.string w A n xs) :
 Calls Tryz.prog 54 #[.slice A n c,.string v] w fun e w'=>e=.returned (.int .i64 (findS v xs 0))∧w=w':=by
 have hbig:=hx.big
 have HL:=Lib.hid hx.len
 have HX:=Lib.hid hx
 clear hx
 go_enter Tryz.func54,Tryz.ntmps54
 go_wp2_with fail
 go_loopw [5] (fun i wr=>∃ k:Nat,k≤n∧i=.int .i64 k∧wr=w∧findS v xs 0=findS v (xs.drop k) k) (fun i _=>n - (intOf i).toNat)
 case atStart=>exact ⟨0,Nat.zero_le _,rfl,rfl,rfl⟩
 case round =>
  obtain ⟨k,hk,rfl,rfl,heq⟩:=hrel
  have HQ:=Lib.hid heq;clear heq
  by_cases hlt:k < n
  ·obtain ⟨b,off,rfl,hb,hc⟩:=HX.out.at' (by omega)
   have g1:=hc k hlt
   clear hc
   have HK:=Lib.hid (findS_drop (x:=v) (xs:=xs) (k:=k) (by rw [HL.out];exact hlt))
   by_cases hne:nth xs k=v
   ·have HN:=Lib.hid hne
    rw [hne] at g1
    clear hne
    go_wp2_with fail
    go_ret
    exact ⟨ret_int (by rw [HQ.out,HK.out,if_pos HN.out]),rfl⟩
   ·have HN:=Lib.hid hne
    have hbe:=text_ne hne
    clear hne
    go_wp2_with fail
    go_roundw
    case rel=>exact ⟨k + 1,by omega,by go_num,by first | rfl | trivial,by rw [HQ.out,HK.out,if_neg HN.out]⟩
    case measure=>simp [intOf];omega
  ·have he:=findS_end (x:=v) (xs:=xs) (k:=k) (by rw [HL.out];omega)
   have HE:=Lib.hid he
   clear he
   go_wp2_with fail
   go_ret
   exact ⟨ret_int (by rw [HQ.out,HE.out]),rfl⟩
set_option maxRecDepth 100000 in
set_option maxHeartbeats 400000 in
theorem index_s (A:Option Addr) (n c:Nat) (xs:List ByteArray) (v:ByteArray) (w:World) (hx:Sl Value.string w A n xs) :
 Calls Tryz.prog 129 #[.slice A n c,.string v] w fun e w'=>e=.returned (.int .i64 (findS v xs 0))∧w=w':=by
 have hbig:=hx.big
 have HL:=Lib.hid hx.len
 have HX:=Lib.hid hx
 clear hx
 go_enter Tryz.func129,Tryz.ntmps129
 go_wp2_with fail
 go_loopw [8] (fun i wr=>∃ k:Nat,k≤n∧i=.int .i64 k∧wr=w∧findS v xs 0=findS v (xs.drop k) k) (fun i _=>n - (intOf i).toNat)
 case atStart=>exact ⟨0,Nat.zero_le _,rfl,rfl,rfl⟩
 case round =>
  obtain ⟨k,hk,rfl,rfl,heq⟩:=hrel
  have HQ:=Lib.hid heq;clear heq
  by_cases hlt:k < n
  ·obtain ⟨b,off,rfl,hb,hc⟩:=HX.out.at' (by omega)
   have g1:=hc k hlt
   clear hc
   have HK:=Lib.hid (findS_drop (x:=v) (xs:=xs) (k:=k) (by rw [HL.out];exact hlt))
   by_cases hne:nth xs k=v
   ·have HN:=Lib.hid hne
    rw [hne] at g1
    clear hne
    go_wp2_with fail
    go_ret
    exact ⟨ret_int (by rw [HQ.out,HK.out,if_pos HN.out]),rfl⟩
   ·have HN:=Lib.hid hne
    have hbe:=text_ne (Ne.symm hne)
    clear hne
    go_wp2_with fail
    go_roundw
    case rel=>exact ⟨k + 1,by omega,by go_num,by first | rfl | trivial,by rw [HQ.out,HK.out,if_neg HN.out]⟩
    case measure=>simp [intOf];omega
  ·have he:=findS_end (x:=v) (xs:=xs) (k:=k) (by rw [HL.out];omega)
   have HE:=Lib.hid he
   clear he
   go_wp2_with fail
   go_ret
   exact ⟨ret_int (by rw [HQ.out,HE.out]),rfl⟩
theorem contains_s (A:Option Addr) (n c:Nat) (xs:List ByteArray) (v:ByteArray) (w:World) (hx:Sl Value.string w A n xs) :
 Calls Tryz.prog 106 #[.slice A n c,.string v] w fun e w'=>e=.returned (.bool (xs.contains v))∧w=w':=by
 have hb:decide (0≤findS v xs 0)=xs.contains v:=by rw [Bool.eq_iff_iff,decide_eq_true_iff,findS_neg];simp
 have HB:=Lib.hid hb
 clear hb
 go_enter Tryz.func106,Tryz.ntmps106
 go_wp2_with fail
 refine (index_s A n c xs v _ hx).mono ?_
 rintro e w1 ⟨rfl,rfl⟩
 clear hx
 go_wp2_with fail
 go_ret
 exact ⟨by rw [← HB.out];rfl,rfl⟩
def litS (b:ByteArray):Lit:=.string b.data.toList
theorem litS_inj {a b:ByteArray} (h:litS a=litS b):a=b:=by
 injection h with h
 cases a;cases b
 simpa using h
theorem keyOf_str {P:Program} {k:TypeId} (hk:P.underlying k=some .string) {s:ByteArray} (hs:s.size≤maxLen):keyOf P k (.string s)=some (litS s):=by
 unfold keyOf mapKey
 simp [hk,hs,litS]
open Classical in
noncomputable def seenS (l:List ByteArray):Lit→Option Int:=fun x=>if x ∈ l.map litS then some 1 else none
theorem seenS_nil (x:Lit):(fun _=>none:Lit→Option Int) x=seenS [] x:=by simp [seenS]
theorem seenS_snoc (l:List ByteArray) (s:ByteArray) (x:Lit):putF (seenS l) (litS s) 1 x=seenS (l ++ [s]) x:=by
 unfold putF seenS
 by_cases h:x=litS s
 ·rw [if_pos h,if_pos (by simp [h])]
 ·rw [if_neg h]
  by_cases h2:x ∈ l.map litS
  ·rw [if_pos h2,if_pos (by rw [List.map_append];exact List.mem_append_left _ h2)]
  ·rw [if_neg h2,if_neg (by rw [List.map_append];simpa [h] using h2)]
theorem seenS_val (l:List ByteArray) (s:ByteArray):(seenS l (litS s)).getD 0=if l.contains s then 1 else 0:=by
 unfold seenS
 by_cases h:s ∈ l
 ·rw [if_pos (List.mem_map_of_mem h),if_pos (by simpa using h)];rfl
 ·rw [if_neg (fun h2=>by obtain ⟨y,hy,e⟩:=List.mem_map.1 h2;exact h (litS_inj e ▸ hy)),if_neg (by simpa using h)];rfl
set_option maxRecDepth 100000 in
set_option maxHeartbeats 800000 in
theorem twice_s (A:Option Addr) (n c:Nat) (xs:List ByteArray) (w:World) (hx:Sl Value.string w A n xs) (hz:∀ x,x ∈ xs→x.size≤maxLen) :
 Calls Tryz.prog 107 #[.slice A n c] w fun e w'=>e=.returned (.bool (dup xs))∧Below w.heap.size w w':=by
 have hbig:=hx.big
 have HL:=Lib.hid hx.len
 have HX:=Lib.hid hx
 have HZ:=Lib.hid hz
 have hM:=(MapF.made w Tryz.prog 9 3).congr seenS_nil
 have hb0:Below w.heap.size w (w.alloc (.map #[] 0)):=(Below.refl _ _).alloc (Nat.le_refl _) _
 clear hx hz
 have hmm:=fun (w:World)=>run_makeMap (P:=Tryz.prog) 132 w
 go_enter Tryz.func107,Tryz.ntmps107
 go_wp2_with fail
 generalize hp:w.heap.size=p at *
 have hpw:w.heap.size≤p:=by omega
 have HP:=Lib.hid hp
 generalize hwm:w.alloc (.map #[] 0)=wm at *
 have HM0:=Lib.hid (And.intro hM hb0)
 clear hp hwm hM hb0
 go_loopw [9] (fun x wr=>∃ q:Nat,x=.int .i64 (q:Nat)∧q≤n∧dupTo xs q=false∧MapF Tryz.prog 9 3 wr p q (seenS (xs.take q))∧Below p w wr) (fun x _=>n - (intOf x).toNat)
 case atStart=>exact ⟨0,rfl,Nat.zero_le _,rfl,HM0.out.1,HM0.out.2⟩
 case round =>
  obtain ⟨q,rfl,hq,hdup,hmap,hbl⟩:=hrel
  obtain ⟨wc,hwc⟩:∃ wc:World,wc=wr:=⟨_,rfl⟩
  subst hwc
  by_cases hqm:q < n
  ·obtain ⟨b2,off2,rfl,hb2,hc⟩:=(HX.out.below (by omega) hbl).at' (by omega)
   have g2:=hc q hqm
   have hwf:(nth xs q).size≤maxLen:=HZ.out _ (nth_mem (by rw [HL.out];exact hqm))
   have hsn:=dupTo_succ xs q
   rw [hdup,Bool.false_or] at hsn
   have htk:=take_snoc (xs:=xs) (k:=q) (by rw [HL.out];exact hqm)
   have hval:=seenS_val (xs.take q) (nth xs q)
   have hda:dupAt xs q=(xs.take q).contains (nth xs q):=rfl
   have hup:=dup_up (l:=xs) (k:=q) (by rw [HL.out];exact hqm)
   have hsz2:p≤wc.heap.size:=by have:=hbl.size;have:=HP.out;omega
   have HS:=Lib.hid (And.intro hup (And.intro hsn (And.intro htk (And.intro hda hbl))));clear hup hsn htk hda hc hdup hbl
   generalize hs:nth xs q=s at *
   generalize hl:xs.take q=l at *
   have HE:=Lib.hid (And.intro hs hl);clear hs hl
   have hkey:=keyOf_str (P:=Tryz.prog) Tryz.underlying9 hwf
   rcases hcb:l.contains s
   ·rw [hcb] at hval
    have HV:=Lib.hid (And.intro hval hcb);clear hval hcb
    go_wp2_with (first
     | (at_lookup;refine wpList_look_F _ rfl _ _ 132 rfl 9 3 (string_keyed Tryz.underlying9) Tryz.underlying132 Tryz.underlying3 (zeroI _) p q _ rfl hmap _ (litS s) rfl hkey ?_;rw [HV.out.1])
     | (at_mapUpdate;refine wpList_store_F _ rfl _ _ _ 132 rfl 9 3 (string_keyed Tryz.underlying9) Tryz.underlying132 Tryz.underlying3 p q _ rfl hmap (by unfold maxLen;omega) _ (litS s) rfl 1 rfl hkey (by decide) ?_)
     | fail)
    intro w1 hm1 hg1
    have hm2:=hm1.congr (seenS_snoc l s)
    rw [← HS.out.2.2.1] at hm2
    have hb2:=HS.out.2.2.2.2.grown hg1 hsz2 (fun g e=>by cases e;exact Nat.le_refl _)
    have H2:=Lib.hid (And.intro hm2 hb2);clear hm2 hb2 hm1 hg1 hmap
    go_wp2_with fail
    exact ⟨⟨q + 1,by go_num,by omega,by rw [HS.out.2.1,HS.out.2.2.2.1,HV.out.2],H2.out.1,H2.out.2⟩,by simp [intOf];omega⟩
   ·rw [hcb] at hval
    have HV:=Lib.hid (And.intro hval hcb);clear hval hcb
    go_wp2_with (first
     | (at_lookup;refine wpList_look_F _ rfl _ _ 132 rfl 9 3 (string_keyed Tryz.underlying9) Tryz.underlying132 Tryz.underlying3 (zeroI _) p q _ rfl hmap _ (litS s) rfl hkey ?_;rw [HV.out.1])
     | fail)
    go_ret
    exact ⟨by rw [HS.out.1 (by rw [HS.out.2.2.2.1,HV.out.2])];rfl,by first | exact HS.out.2.2.2.2 | (rw [HP.out];exact HS.out.2.2.2.2)⟩
  ·obtain rfl:q=n:=by omega
   have hdd:dup xs=false:=by unfold dup;rw [HL.out];exact hdup
   have HC:=Lib.hid (And.intro hdd hbl);clear hdd hbl hmap hdup
   go_wp2_with fail
   go_ret
   exact ⟨by rw [HC.out.1];rfl,by first | exact HC.out.2 | (rw [HP.out];exact HC.out.2)⟩
end Go.Proofs.YtmncjibcoffmfaaGreat
/- dag.Order, Check, Children, walked: whether parents may be; the children. Conditions: the parents read, within Go's bound. -/
namespace Go.Proofs.YtmncjibcoffmfaaGreat
open Go.RowKit

theorem nodup_toG {Ps:List (List Int)} (hr:inR Ps=true) (hd:Ps.any dup=false):∀ i,i < (toG Ps).length→(nth (toG Ps) i).Nodup:=by
 intro i hi
 rw [toG_length] at hi
 rw [nth_toG hi]
 have h1:dup (nth Ps i)=false:=by
  have:=List.any_eq_false.1 hd _ (nth_mem hi)
  simpa using this
 have h2:=dup_nodup h1
 have h3:=inR_row hr hi
 rw [List.nodup_iff_pairwise_ne] at h2 ⊢
 rw [List.pairwise_map]
 refine h2.imp_of_mem fun {a b} ha hb hne e=>hne ?_
 have:=h3 a ha
 have:=h3 b hb
 omega
theorem fits_check {Ps:List (List Int)} (h:fitsC Ps ≠ 0):checkP Ps=fitsC Ps:=by
 unfold fitsC at h ⊢
 by_cases h1:inR Ps=false
 ·rw [if_pos h1,checkP_3 h1]
 ·rw [if_neg h1] at h ⊢
  by_cases h2:Ps.any dup=true
  ·rw [if_pos h2,checkP_40 (by simpa using h1) h2]
  ·rw [if_neg h2] at h;exact absurd rfl h
theorem fits_ok {Ps:List (List Int)} (h:fitsC Ps=0):inR Ps=true∧Ps.any dup=false:=by
 unfold fitsC at h
 split at h
 ·omega
 ·split at h
  ·omega
  ·exact ⟨by simpa using ‹¬ inR Ps=false›,by simpa using ‹¬ Ps.any dup=true›⟩
def OrderPost (w:World) (Ps:List (List Int)) (e:Ending) (w':World):Prop:=∃ C k d,e=.returned (.tuple #[.slice C k d,.int .i64 (checkP Ps)])∧Below w.heap.size w w'

set_option maxRecDepth 100000 in
set_option maxHeartbeats 1600000 in
theorem order_any (A:Option Addr) (n c:Nat) (Ps:List (List Int)) (w:World) (h:Rows (Value.int .i64) w A n Ps) (hn:n * 24≤140737488351232):Calls Tryz.prog 108 #[.slice A n c] w (OrderPost w Ps):=by
 have hl:=h.len
 obtain ⟨wa,hwa⟩:∃ wa:World,wa=w:=⟨_,rfl⟩
 subst hwa
 have HL:=Lib.hid hl;clear hl
 go_enter Tryz.func108,Tryz.ntmps108
 go_wp2_with fail
 refine (fits_any A n c Ps _ h).mono ?_
 rintro e w1 ⟨rfl,hb⟩
 have HB:=Lib.hid hb;clear hb
 by_cases hf:fitsC Ps=0
 ·have HF:=Lib.hid hf
  rw [hf]
  obtain ⟨hr,hd⟩:=fits_ok hf
  have h1:=(h.below (Nat.le_refl _) HB.out).toNat hr
  have hnd:=nodup_toG hr hd
  have hg:=good_toG hr
  have hlg:(toG Ps).length=n:=by rw [toG_length];exact HL.out
  have HG:=Lib.hid (And.intro hnd (And.intro hg (And.intro hlg (And.intro hr hd))));clear hnd hg hlg hr hd hf
  go_wp2_with fail
  refine (children_any A n c (toG Ps) _ h1 HG.out.2.1 (fun i hi=>HG.out.1 i (by rw [HG.out.2.2.1];exact hi)) hn).mono ?_
  rintro e w2 ⟨B,d,rfl,h2,hb2⟩
  have h3:=h1.below (Nat.le_refl _) hb2
  have HB2:=Lib.hid (HB.out.trans (hb2.mono HB.out.size));clear hb2
  go_wp2_with fail
  refine (sorted_any A B n c d (toG Ps) _ h3 h2.rows HG.out.2.1 (fun i hi=>HG.out.1 i (by rw [HG.out.2.2.1];exact hi)) hn).mono ?_
  rintro e w4 ⟨C,k,d4,L,rfl,hs,hk,hst,hb4⟩
  have hkl:k≤n:=by have h1:=hk.length_le;have h2:=hs.len;have h3:=HG.out.2.2.1;omega
  have hiff:=hk.full_iff HG.out.2.1 hst
  rw [hs.len,HG.out.2.2.1] at hiff
  have HB4:=Lib.hid (And.intro (HB2.out.trans (hb4.mono HB2.out.size)) hiff);clear hb4 hs hk hst hiff h1 h2 h3
  by_cases hlt:k < n
  ·have hc:checkP Ps=42:=checkP_42 HG.out.2.2.2.1 HG.out.2.2.2.2 (fun ha=>by have:=HB4.out.2.2 ha;omega)
   have HC:=Lib.hid hc;clear hc
   go_wp2_with fail
   go_ret2
   exact ⟨none,0,0,by rw [HC.out];rfl,HB4.out.1⟩
  ·have hc:checkP Ps=0:=checkP_0 HG.out.2.2.2.1 HG.out.2.2.2.2 (HB4.out.2.1 (by omega))
   have HC:=Lib.hid hc;clear hc
   go_wp2_with fail
   go_ret2
   exact ⟨C,k,d4,by rw [HC.out];rfl,HB4.out.1⟩
 ·have hc:=fits_check hf
  have HC:=Lib.hid hc;clear hc
  generalize fitsC Ps=x at *
  go_wp2_with fail
  go_ret2
  exact ⟨none,0,0,by rw [HC.out];rfl,HB.out⟩
theorem check_dag (A:Option Addr) (n c:Nat) (Ps:List (List Int)) (w:World) (h:Rows (Value.int .i64) w A n Ps) (hn:n * 24≤140737488351232) :
 Calls Tryz.prog 73 #[.slice A n c] w fun e w'=>e=.returned (.int .i64 (checkP Ps))∧Below w.heap.size w w':=by
 go_enter Tryz.func73,Tryz.ntmps73
 go_wp2_with fail
 refine (order_any A n c Ps _ h hn).mono ?_
 rintro e w1 ⟨C,k,d,rfl,hb⟩
 have HB:=Lib.hid hb;clear hb
 go_wp2_with fail
 go_ret
 exact ⟨rfl,HB.out⟩
end Go.Proofs.YtmncjibcoffmfaaGreat
/- credenceref14's Has, inside, twice, out, Check, walked: whether parents may be. Conditions: the parents read, within Go's bound. -/
namespace Go.Proofs.YtmncjibcoffmfaaGreat
open Go.RowKit

set_option maxRecDepth 100000 in
set_option maxHeartbeats 400000 in
theorem has_ref (A:Option Addr) (n c:Nat) (xs:List Int) (x:Int) (w:World) (h:Sl (Value.int .i64) w A n xs) :
 Calls Tryz.prog 120 #[.slice A n c,.int .i64 x] w fun e w'=>e=.returned (.bool (decide (x ∈ xs)))∧w'=w:=by
 have hbig:=h.big
 have HI:=Lib.hid h.len
 obtain ⟨wa,hwa⟩:∃ wa:World,wa=w:=⟨_,rfl⟩
 subst hwa
 go_enter Tryz.func120,Tryz.ntmps120
 go_wp2_with fail
 go_loopw [5] (fun i wr=>∃ k:Nat,i=.int .i64 (k:Nat)∧k≤n∧(xs.take k).contains x=false∧wr=wa) (fun i _=>n - (intOf i).toNat)
 case atStart=>exact ⟨0,rfl,Nat.zero_le _,rfl,rfl⟩
 case round =>
  obtain ⟨k,rfl,hk,hno,hwr⟩:=hrel
  have hwr:=hwr.symm
  subst hwr
  by_cases hlt:k < n
  ·obtain ⟨b,off,rfl,_,hc⟩:=h.at' (by omega)
   have g1:=hc k hlt
   have hkl:k < xs.length:=by rw [HI.out];exact hlt
   have hsn:(xs.take (k + 1)).contains x=(x == nth xs k):=by
    rw [take_snoc hkl]
    rw [Bool.eq_iff_iff,List.contains_iff_mem,List.mem_append,List.mem_singleton,beq_iff_eq]
    have:x ∉ xs.take k:=fun hm=>by rw [← List.contains_iff_mem] at hm;rw [hm] at hno;cases hno
    exact ⟨fun h=>h.resolve_left this,.inr⟩
   have hyes:x=nth xs k→xs.contains x=true:=fun e=>by rw [List.contains_iff_mem,e];exact nth_mem hkl
   have HS:=Lib.hid (And.intro hsn hyes);clear hsn hyes hno hc hkl
   generalize nth xs k=s at *
   by_cases hs:s=x
   ·subst hs
    have HC:=Lib.hid (show decide (s ∈ xs)=true by rw [decide_eq_true_iff,← List.contains_iff_mem];exact HS.out.2 rfl)
    go_wp2_with fail
    go_ret
    exact ⟨ret_bool HC.out.symm,rfl⟩
   ·have hs':(s == x)=false:=by simpa using hs
    go_wp2_with fail
    exact ⟨⟨k + 1,by go_num,by omega,by rw [HS.out.1];simp;exact fun e=>hs e.symm,trivial⟩,by simp [intOf];omega⟩
  ·obtain rfl:k=n:=by omega
   have HC:=Lib.hid (show decide (x ∈ xs)=false by rw [take_all (by rw [HI.out];exact Nat.le_refl _)] at hno;rw [decide_eq_false_iff_not,← List.contains_iff_mem,hno];simp)
   clear hno
   go_wp2_with fail
   go_ret
   exact ⟨ret_bool HC.out.symm,rfl⟩

set_option maxRecDepth 100000 in
set_option maxHeartbeats 400000 in
theorem inside_ref (A:Option Addr) (n c:Nat) (Ps:List (List Int)) (w:World) (h:Rows (Value.int .i64) w A n Ps) :
 Calls Tryz.prog 95 #[.slice A n c] w fun e w'=>e=.returned (.bool (inR Ps))∧w'=w:=by
 have hbig:=h.big
 have HI:=Lib.hid h.len
 obtain ⟨wa,hwa⟩:∃ wa:World,wa=w:=⟨_,rfl⟩
 subst hwa
 go_enter Tryz.func95,Tryz.ntmps95
 go_wp2_with fail
 go_loopw [3] (fun i wr=>∃ k:Nat,i=.int .i64 (k:Nat)∧k≤n∧(Ps.take k).all (inRow n)=true∧wr=wa) (fun i _=>n - (intOf i).toNat)
 case atStart=>exact ⟨0,rfl,Nat.zero_le _,by simp,rfl⟩
 case round =>
  obtain ⟨k,rfl,hk,hall,hwr⟩:=hrel
  have hwr:=hwr.symm
  subst hwr
  by_cases hlt:k < n
  ·obtain ⟨b,off,B,m,d,rfl,_,g1,hrow⟩:=h.row hlt
   have hbm:=hrow.big
   have HL:=Lib.hid (And.intro hrow.len hall);clear hall
   go_wp2_with fail
   go_loopw [4] (fun j wr=>∃ q:Nat,j=.int .i64 (q:Nat)∧q≤m∧inRow n ((nth Ps k).take q)=true∧wr=wa) (fun j _=>m - (intOf j).toNat)
   case atStart=>exact ⟨0,rfl,Nat.zero_le _,by simp [inRow],rfl⟩
   case round =>
    obtain ⟨q,rfl,hq,hin,hwr⟩:=hrel
    have hwr:=hwr.symm
    subst hwr
    by_cases hqm:q < m
    ·obtain ⟨b2,off2,rfl,_,hc⟩:=hrow.at' (by omega)
     have g2:=hc q hqm
     have hbad:¬ (0≤nth (nth Ps k) q∧nth (nth Ps k) q < (n:Int))→inR Ps=false:=fun hb=>by
      refine all_down _ (by rw [HI.out];exact hlt) (all_down _ (k:=q) (by rw [HL.out.1];exact hqm) ?_)
      rw [HI.out]
      simp only [Bool.and_eq_false_iff,decide_eq_false_iff_not];omega
     have hsn:inRow n ((nth Ps k).take (q + 1))=(inRow n ((nth Ps k).take q) && (decide (0≤nth (nth Ps k) q) && decide (nth (nth Ps k) q < (n:Int)))):=all_take_succ _ (by rw [HL.out.1];exact hqm)
     rw [hin,Bool.true_and] at hsn
     have HS:=Lib.hid (And.intro hbad hsn);clear hbad hsn hc hin
     generalize hs:nth (nth Ps k) q=s at *
     have HE:=Lib.hid hs;clear hs
     by_cases hs0:s < 0
     ·have HC:=Lib.hid (HS.out.1 (by omega))
      go_wp2_with fail
      go_ret
      exact ⟨ret_bool HC.out.symm,rfl⟩
     ·by_cases hs1:(n:Int)≤s
      ·have HC:=Lib.hid (HS.out.1 (by omega))
       go_wp2_with fail
       go_ret
       exact ⟨ret_bool HC.out.symm,rfl⟩
      ·have HC:=Lib.hid (show inRow n ((nth Ps k).take (q + 1))=true by rw [HS.out.2];simp;omega)
       go_wp2_with fail
       exact ⟨⟨q + 1,by go_num,by omega,HC.out,trivial⟩,by simp [intOf];omega⟩
    ·obtain rfl:q=m:=by omega
     have HC:=Lib.hid (show (Ps.take (k + 1)).all (inRow n)=true by
      rw [all_take_succ _ (by rw [HI.out];exact hlt),HL.out.2]
      rw [take_all (by rw [HL.out.1];exact Nat.le_refl _)] at hin
      simpa using hin)
     clear hin
     go_wp2_with fail
     exact ⟨⟨k + 1,by go_num,by omega,HC.out,trivial⟩,by simp [intOf];omega⟩
  ·obtain rfl:k=n:=by omega
   have HC:=Lib.hid (show inR Ps=true by unfold inR;rw [HI.out];rw [take_all (by rw [HI.out];exact Nat.le_refl _)] at hall;exact hall)
   clear hall
   go_wp2_with fail
   go_ret
   exact ⟨ret_bool HC.out.symm,rfl⟩

theorem Sl.cut {α:Type} [Inhabited α] {enc:α→Value} {w:World} {A:Option Addr} {n:Nat} {xs:List α} (h:Sl enc w A n xs) {k:Nat} (hk:k≤n):Sl enc w A k (xs.take k):=
 ⟨by rw [List.length_take,h.len];omega,by have:=h.big;omega,fun hp=>by
   obtain ⟨b,off,e,hlt,hc⟩:=h.at' (by omega)
   exact ⟨b,off,e,hlt,fun j hj=>by rw [hc j (by omega),nth_take hj]⟩⟩

set_option maxRecDepth 100000 in
set_option maxHeartbeats 1600000 in
theorem twice_ref (A:Option Addr) (n c:Nat) (Ps:List (List Int)) (w:World) (h:Rows (Value.int .i64) w A n Ps) :
 Calls Tryz.prog 96 #[.slice A n c] w fun e w'=>e=.returned (.bool (Ps.any dup))∧∃ d,w'=w.drewN d:=by
 have hbig:=h.big
 have HI:=Lib.hid h.len
 obtain ⟨wa,hwa⟩:∃ wa:World,wa=w:=⟨_,rfl⟩
 subst hwa
 go_enter Tryz.func96,Tryz.ntmps96
 go_wp2_with fail
 go_loopw [3] (fun i wr=>∃ k t:Nat,i=.int .i64 (k:Nat)∧k≤n∧(Ps.take k).any dup=false∧wr=wa.drewN t) (fun i _=>n - (intOf i).toNat)
 case atStart=>exact ⟨0,0,rfl,Nat.zero_le _,by simp,rfl⟩
 case round =>
  obtain ⟨k,t,rfl,hk,hany,hwr⟩:=hrel
  by_cases hlt:k < n
  ·obtain ⟨b,off,B,m,d,rfl,_,g0,hrow0,hmd⟩:=h.rowC hlt
   have g1:wr.cell? ⟨b,off + k,none⟩=some (.slice B m d):=by rw [hwr];exact g0
   have hbm:=hrow0.big
   have HL:=Lib.hid (And.intro hrow0.len (And.intro hrow0 (And.intro g0 (And.intro hwr hany))));clear hrow0 g0 hwr hany
   go_wp2_with fail
   go_loopw [4] (fun j wx=>∃ q u:Nat,j=.int .i64 (q:Nat)∧q≤m∧dupTo (nth Ps k) q=false∧wx=wa.drewN u) (fun j _=>m - (intOf j).toNat)
   case atStart=>exact ⟨0,t,rfl,Nat.zero_le _,rfl,HL.out.2.2.2.1⟩
   case round =>
    clear g1
    obtain ⟨q,u,rfl,hq,hdup,hwx⟩:=hrel
    obtain ⟨wb,hwb⟩:∃ wb:World,wb=wr:=⟨_,rfl⟩
    subst hwb
    have g1:wb.cell? ⟨b,off + k,none⟩=some (.slice B m d):=by rw [hwx];exact HL.out.2.2.1
    by_cases hqm:q < m
    ·have hrow:Sl (Value.int .i64) wb B m (nth Ps k):=by rw [hwx];exact HL.out.2.1.drewN u
     have hcut:=hrow.cut (k:=q) hq
     obtain ⟨b2,off2,rfl,_,hc⟩:=hrow.at' (by omega)
     have g2:=hc q hqm
     have hda:dupAt (nth Ps k) q=decide (nth (nth Ps k) q ∈ (nth Ps k).take q):=by unfold dupAt;rw [Bool.eq_iff_iff,List.contains_iff_mem,decide_eq_true_iff]
     have hsn:=dupTo_succ (nth Ps k) q
     rw [hdup,Bool.false_or,hda] at hsn
     have hbad:decide (nth (nth Ps k) q ∈ (nth Ps k).take q)=true→Ps.any dup=true:=fun hb=>any_upp _ (by rw [HI.out];exact hlt) (dup_up (by rw [HL.out.1];exact hqm) (hda.trans hb))
     have HS:=Lib.hid (And.intro hsn (And.intro hbad (And.intro hcut hwx)));clear hsn hbad hcut hwx hda hc hdup hrow
     have q1:(0:Int)≤(k:Nat):=by omega
     have q2:((k:Nat):Int) < n:=by omega
     have q3:(0:Int)≤(q:Nat):=by omega
     have q4:((q:Nat):Int) < m:=by omega
     have q5:((q:Nat):Int)≤d:=by omega
     have q6:q≤d:=by omega
     generalize nth (nth Ps k) q=s at *
     generalize (nth Ps k).take q=l at *
     by_cases hmem:s ∈ l
     ·have HC:=Lib.hid (HS.out.2.1 (by simpa using hmem))
      go_wp2_with fail
      go_quiet ((go_at_call 120;exact Calls.quiet_of_same (has_ref _ _ _ l _ _ (HS.out.2.2.1.drewN _))))
      go_wp2_with fail
      go_ret
      exact ⟨ret_bool HC.out.symm,u + nq,by rw [HS.out.2.2.2,World.drewN_drewN]⟩
     ·have HC:=Lib.hid (show dupTo (nth Ps k) (q + 1)=false by rw [HS.out.1];simpa using hmem)
      go_wp2_with fail
      go_quiet ((go_at_call 120;exact Calls.quiet_of_same (has_ref _ _ _ l _ _ (HS.out.2.2.1.drewN _))))
      go_wp2_with fail
      exact ⟨⟨q + 1,u + nq,by go_num,by omega,HC.out,by rw [HS.out.2.2.2,World.drewN_drewN]⟩,by simp [intOf];omega⟩
    ·obtain rfl:q=m:=by omega
     have HC:=Lib.hid (show (Ps.take (k + 1)).any dup=false by
      rw [any_take_succ _ (by rw [HI.out];exact hlt),HL.out.2.2.2.2,Bool.false_or]
      unfold dup;rw [HL.out.1];exact hdup)
     have HW:=Lib.hid hwx;clear hwx hdup
     go_wp2_with fail
     exact ⟨⟨k + 1,u,by go_num,by omega,HC.out,HW.out⟩,by simp [intOf];omega⟩
  ·obtain rfl:k=n:=by omega
   have HC:=Lib.hid (show Ps.any dup=false by have:=hany;rw [take_all (by rw [HI.out];exact Nat.le_refl _)] at this;exact this)
   have HW:=Lib.hid hwr;clear hwr hany
   go_wp2_with fail
   go_ret
   exact ⟨ret_bool HC.out.symm,t,HW.out⟩
end Go.Proofs.YtmncjibcoffmfaaGreat
/- credenceref14's out and Check, walked: the points that can be put out one by one. Conditions: the parents read and are points, within Go's bound. -/
namespace Go.Proofs.YtmncjibcoffmfaaGreat
open Go.RowKit

theorem has_refN (A:Option Addr) (n c:Nat) (xs:List Nat) (x:Nat) (w:World) (h:Sl eN w A n xs) :
 Calls Tryz.prog 120 #[.slice A n c,.int .i64 (x:Int)] w fun e w'=>e=.returned (.bool (decide (x ∈ xs)))∧w'=w:=by
 have:=has_ref A n c (castL xs) (x:Int) w h.toInt
 have e:decide ((x:Int) ∈ castL xs)=decide (x ∈ xs):=by rw [Bool.eq_iff_iff,decide_eq_true_iff,decide_eq_true_iff];exact mem_castL
 rw [e] at this
 exact this
def Rdy (G:List (List Nat)) (L:List Nat) (i:Nat):Prop:=i ∉ L∧∀ p,p ∈ nth G i→p ∈ L
def RdyTo (G:List (List Nat)) (L:List Nat) (i k:Nat):Prop:=i ∉ L∧∀ j,j < k→nth (nth G i) j ∈ L
theorem RdyTo_succ {G:List (List Nat)} {L:List Nat} {i k:Nat}:RdyTo G L i (k + 1) ↔ RdyTo G L i k∧nth (nth G i) k ∈ L:=by
 unfold RdyTo
 constructor
 ·rintro ⟨h1,h2⟩
  exact ⟨⟨h1,fun j hj=>h2 j (by omega)⟩,h2 k (by omega)⟩
 ·rintro ⟨⟨h1,h2⟩,h3⟩
  refine ⟨h1,fun j hj=>?_⟩
  rcases Nat.lt_or_ge j k with h | h
  ·exact h2 j h
  ·obtain rfl:j=k:=by omega
   exact h3
theorem RdyTo_full {G:List (List Nat)} {L:List Nat} {i k:Nat} (h:(nth G i).length=k):RdyTo G L i k ↔ Rdy G L i:=by
 unfold RdyTo Rdy
 refine and_congr_right fun _=>⟨fun h2 p hp=>?_,fun h2 j hj=>h2 _ (nth_mem (by omega))⟩
 obtain ⟨j,hj,e⟩:=mem_nth hp
 rw [← e];exact h2 j (by omega)

open Classical in
set_option maxRecDepth 100000 in
set_option maxHeartbeats 1600000 in
theorem out_ref (A:Option Addr) (n c:Nat) (G:List (List Nat)) (w:World) (h:Rows eN w A n G) (hg:GoodG G) (hn:n * 24≤140737488351232) :
 Calls Tryz.prog 97 #[.slice A n c] w (SrtPost w n G):=by
 have hbig:=h.big
 have HI:=Lib.hid (And.intro h.len hg);clear hg
 obtain ⟨wa,hwa⟩:∃ wa:World,wa=w:=⟨_,rfl⟩
 subst hwa
 go_enter Tryz.func97,Tryz.ntmps97
 go_wp2_with fail
 go_loopw [3] (fun l wr=>∃ (k c':Nat) (B:Option Addr) (L:List Nat),l=.slice B k c'∧OwnR eN wr wa.heap.size 3 B k c' L∧Kahn G L∧Below wa.heap.size wa wr) (fun l _=>n - slLen l)
 case atStart=>exact ⟨0,0,none,[],rfl,OwnR.nil _ _ _ _,Kahn.nil G,Below.refl _ _⟩
 case round =>
  obtain ⟨k,c1,B,L,rfl,how,hkahn,hbl⟩:=hrel
  obtain ⟨wb,hwb⟩:∃ wb:World,wb=wr:=⟨_,rfl⟩
  subst hwb
  have hkl:=how.length
  have hLn:=hkahn.length_le
  rw [HI.out.1] at hLn
  have hkn:k≤n:=by omega
  have hsl:=how.sl (by omega)
  have H1:=Lib.hid (And.intro how (And.intro hkahn (And.intro hbl (And.intro hsl hkl))));clear how hkahn hbl hsl hLn hkl
  go_wp2_with fail
  go_loopw [4,5] (fun nx i wr=>∃ (i':Nat) (x:Int),nx=.int .i64 x∧i=.int .i64 (i':Nat)∧i'≤n∧((x=-1∧∀ j,j < i'→¬ Rdy G L j) ∨ (∃ r:Nat,x=(r:Int)∧r < n∧Rdy G L r))∧wr=wb) (fun _ i _=>n - (intOf i).toNat)
  case atStart=>exact ⟨0,-1,rfl,rfl,Nat.zero_le _,.inl ⟨rfl,fun j hj=>by omega⟩,rfl⟩
  case round =>
   obtain ⟨i,x,rfl,rfl,hi,hnx,hwr⟩:=hrel
   have hwr:=hwr.symm
   subst hwr
   by_cases hgo:i < n∧x < 0
   ·obtain ⟨hin,hx0⟩:=hgo
    have hnr:∀ j,j < i→¬ Rdy G L j:=by
     rcases hnx with ⟨_,h2⟩ | ⟨r,rfl,_⟩
     ·exact h2
     ·omega
    have hxe:x=-1:=by
     rcases hnx with ⟨h2,_⟩ | ⟨r,rfl,_⟩
     ·exact h2
     ·omega
    subst hxe
    clear hnx
    obtain ⟨b,off,P,m,d,rfl,hbb,g0,hrow0⟩:=h.row hin
    have g1:=((keeps H1.out.2.2.1).1 b (off + i) hbb).trans g0
    have hrow:=hrow0.below (Nat.le_refl _) H1.out.2.2.1
    have hbm:=hrow.big
    have HR:=Lib.hid (And.intro hnr (And.intro hrow hrow.len));clear hnr hrow hrow0 g0
    go_wp2_with fail
    refine (has_refN B k c1 L i _ H1.out.2.2.2.1).mono ?_
    rintro e w2 ⟨rfl,rfl⟩
    go_wp2_with fail
    go_loopw [6,7] (fun r j wr=>∃ (q:Nat),r=.bool (decide (RdyTo G L i q))∧j=.int .i64 (q:Nat)∧q≤m∧wr=w2) (fun _ j _=>m - (intOf j).toNat)
    case atStart=>exact ⟨0,by simp [RdyTo],rfl,Nat.zero_le _,rfl⟩
    case round =>
     obtain ⟨q,rfl,rfl,hq,hwr⟩:=hrel
     have hwr:=hwr.symm
     subst hwr
     by_cases hqm:q < m
     ·obtain ⟨b2,off2,rfl,_,hc⟩:=HR.out.2.1.at' (by omega)
      have g2:=hc q hqm
      have hsucc:=RdyTo_succ (G:=G) (L:=L) (i:=i) (k:=q)
      have HS:=Lib.hid hsucc;clear hsucc hc
      generalize nth (nth G i) q=s at *
      by_cases hr:RdyTo G L i q
      ·have hr':=decide_eq_true hr
       have HC:=Lib.hid (show decide (RdyTo G L i (q + 1))=decide (s ∈ L) by rw [Bool.eq_iff_iff,decide_eq_true_iff,decide_eq_true_iff,HS.out];exact ⟨fun h=>h.2,fun h=>⟨hr,h⟩⟩)
       clear hr
       go_wp2_with fail
       refine (has_refN B k c1 L s _ H1.out.2.2.2.1).mono ?_
       rintro e w2 ⟨rfl,rfl⟩
       go_wp2_with fail
       exact ⟨⟨q + 1,by rw [HC.out],by go_num,by omega,trivial⟩,by simp [intOf];omega⟩
      ·have hr':=decide_eq_false hr
       have HC:=Lib.hid (show decide (RdyTo G L i (q + 1))=false by rw [decide_eq_false_iff_not,HS.out];exact fun h=>hr h.1)
       clear hr
       go_wp2_with fail
       exact ⟨⟨q + 1,by rw [HC.out],by go_num,by omega,trivial⟩,by simp [intOf];omega⟩
     ·obtain rfl:q=m:=by omega
      have hfull:=RdyTo_full (G:=G) (L:=L) (i:=i) HR.out.2.2
      have HF:=Lib.hid hfull;clear hfull
      obtain ⟨rb,hrb⟩:∃ rb,decide (RdyTo G L i q)=rb:=⟨_,rfl⟩
      rw [hrb]
      rcases rb
      ·have HC:=Lib.hid (fun h=>of_decide_eq_false hrb (HF.out.2 h));clear hrb
       go_wp2_with fail
       refine ⟨⟨i + 1,-1,rfl,by go_num,by omega,.inl ⟨rfl,fun j hj=>?_⟩,trivial⟩,by simp [intOf];omega⟩
       rcases Nat.lt_or_ge j i with h1 | h1
       ·exact HR.out.1 j h1
       ·obtain rfl:j=i:=by omega
        exact HC.out
      ·have HC:=Lib.hid (HF.out.1 (of_decide_eq_true hrb));clear hrb
       go_wp2_with fail
       exact ⟨⟨i + 1,(i:Int),rfl,by go_num,by omega,.inr ⟨i,rfl,hin,HC.out⟩,trivial⟩,by simp [intOf];omega⟩
   ·rcases hnx with ⟨rfl,hnr⟩ | ⟨r,rfl,hrn,hrdy⟩
    ·obtain rfl:i=n:=by omega
     have hfin:SrtPost wa i G (.returned (.slice B k c1)) wb:=⟨B,k,c1,L,rfl,H1.out.2.2.2.1,H1.out.2.1,fun j hj hjL=>by
      apply Classical.byContradiction
      intro hex
      exact hnr j (by rw [← HI.out.1];exact hj) ⟨hjL,fun p hp=>Classical.byContradiction fun hpl=>hex ⟨p,hp,hpl⟩⟩,H1.out.2.2.1⟩
     have HF:=Lib.hid hfin;clear hfin hnr
     go_wp2_with fail
     go_ret
     exact HF.out
    ·have hk2:=H1.out.2.1.snoc (by rw [HI.out.1];exact hrn) hrdy.1 hrdy.2
     have hlen2:=hk2.length_le
     rw [HI.out.1,List.length_append,List.length_singleton,H1.out.2.2.2.2] at hlen2
     have hos:=H1.out.1.alloc (.cells #[.int .i64 (r:Int)] 3)
     have hsz:=H1.out.2.2.1.size
     have HK:=Lib.hid hk2;clear hk2 hrdy
     have q0:¬ ((r:Nat):Int) < 0:=by omega
     by_cases hin:i < n
     all_goals
      go_wp2_with (first
       | (at_builtin;refine wpList_app _ eiInt eN one_eN rfl _ _ rfl wa.heap.size _ _ _ _ rfl hos _ _ _ _ rfl (Sl.one (enc:=eN) _ _ _) (by omega) (by simp;omega) ?_)
       | fail)
      intro A9 c9 w9 ho9 hg9 hb9 _
      have hb10:=(H1.out.2.2.1.alloc hsz (.cells #[.int .i64 (r:Int)] 3)).trans hb9
      have H9:=Lib.hid (And.intro ho9 hb10);clear ho9 hb9 hb10 hg9 hos
      go_wp2_with fail
      exact ⟨⟨k + 1,c9,A9,L ++ [r],rfl,H9.out.1,HK.out,H9.out.2⟩,by simp [slLen];omega⟩

set_option maxRecDepth 100000 in
set_option maxHeartbeats 1600000 in
theorem check_ref (A:Option Addr) (n c:Nat) (Ps:List (List Int)) (w:World) (h:Rows (Value.int .i64) w A n Ps) (hn:n * 24≤140737488351232) :
 Calls Tryz.prog 55 #[.slice A n c] w fun e w'=>e=.returned (.int .i64 (checkP Ps))∧Below w.heap.size w w':=by
 have HL:=Lib.hid h.len
 obtain ⟨wa,hwa⟩:∃ wa:World,wa=w:=⟨_,rfl⟩
 subst hwa
 go_enter Tryz.func55,Tryz.ntmps55
 go_wp2_with fail
 refine (inside_ref A n c Ps _ h).mono ?_
 rintro e w1 ⟨rfl,rfl⟩
 rcases hr:inR Ps
 ·have HC:=Lib.hid (checkP_3 hr);clear hr
  go_wp2_with fail
  go_ret
  exact ⟨ret_int HC.out.symm,Below.refl _ _⟩
 ·have HR:=Lib.hid hr;clear hr
  go_wp2_with fail
  refine (twice_ref A n c Ps _ h).mono ?_
  rintro e w2 ⟨rfl,d,rfl⟩
  rcases hd:Ps.any dup
  ·have HD:=Lib.hid hd;clear hd
   have h2:=(h.drewN d).toNat HR.out
   have hg:=good_toG HR.out
   have hlg:(toG Ps).length=n:=by rw [toG_length];exact HL.out
   have HG:=Lib.hid (And.intro hg hlg);clear hg hlg
   obtain ⟨w3,hw3⟩:∃ w3:World,w3=w1.drewN d:=⟨_,rfl⟩
   rw [← hw3] at h2 ⊢
   have HW:=Lib.hid hw3;clear hw3
   go_wp2_with fail
   refine (out_ref A n c (toG Ps) _ h2 HG.out.1 hn).mono ?_
   rintro e w4 ⟨C,k,d4,L,rfl,hs,hk,hst,hb4⟩
   have hkl:k≤n:=by have h1:=hk.length_le;have h2:=hs.len;have h3:=HG.out.2;omega
   have hiff:=hk.full_iff HG.out.1 hst
   rw [hs.len,HG.out.2] at hiff
   have hbw:Below w1.heap.size w1 w4:=by
    have:=HW.out
    rw [this] at hb4
    exact (below_refl_drewN _ w1 d).trans hb4
   have H4:=Lib.hid (And.intro hbw hiff);clear hbw hiff hb4 hs hk hst h2
   by_cases hlt:k < n
   ·have HC:=Lib.hid (checkP_42 HR.out HD.out (fun ha=>by have:=H4.out.2.2 ha;omega))
    go_wp2_with fail
    go_ret
    exact ⟨ret_int HC.out.symm,H4.out.1⟩
   ·have HC:=Lib.hid (checkP_0 HR.out HD.out (H4.out.2.1 (by omega)))
    go_wp2_with fail
    go_ret
    exact ⟨ret_int HC.out.symm,H4.out.1⟩
  ·have HC:=Lib.hid (checkP_40 HR.out hd);clear hd
   go_wp2_with fail
   go_ret
   exact ⟨ret_int HC.out.symm,below_refl_drewN _ _ _⟩
end Go.Proofs.YtmncjibcoffmfaaGreat
