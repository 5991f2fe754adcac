/- Joined by program out of: SortMath, SetMath. What each says stands at its own head. -/
import Derived.Test.YtgbmnlmnhbkdbaaGreatBase
set_option linter.unusedVariables false
set_option linter.unusedSimpArgs false
/- Plain facts on stable merging, without any program: lists of pairs (a thing, its place), their strict order, merging two sorted lists, blocks. No condition. -/
namespace Go.Proofs.YtgbmnlmnhbkdbaaGreat

structure Swo {α:Type} (lt:α→α→Prop):Prop where
 irr:∀ x,¬ lt x x
 tr:∀ {x y z},lt x y→lt y z→lt x z
 neg:∀ {x z},lt x z→∀ y,lt x y ∨ lt y z

def zlt {α:Type} (lt:α→α→Prop) (x y:α × Nat):Prop:=lt x.1 y.1 ∨ (¬ lt y.1 x.1∧x.2 < y.2)

section
variable {α:Type} {lt:α→α→Prop}
theorem Swo.asymm (h:Swo lt) {x y:α} (a:lt x y):¬ lt y x:=fun b=>h.irr x (h.tr a b)
theorem zlt_trans (h:Swo lt) {x y z:α × Nat} (a:zlt lt x y) (b:zlt lt y z):zlt lt x z:=by
 rcases a with a | ⟨a,a'⟩ <;> rcases b with b | ⟨b,b'⟩
 ·exact .inl (h.tr a b)
 ·rcases h.neg a z.1 with c | c
  ·exact .inl c
  ·exact absurd c b
 ·rcases h.neg b x.1 with c | c
  ·exact absurd c a
  ·exact .inl c
 ·exact .inr ⟨fun c=>(h.neg c y.1).elim b a,Nat.lt_trans a' b'⟩
theorem zlt_of_lt {x y:α × Nat} (a:lt x.1 y.1):zlt lt x y:=.inl a
theorem zlt_late {x y:α × Nat} (hi:y.2 < x.2):zlt lt x y ↔ lt x.1 y.1:=
 ⟨fun a=>a.elim id fun ⟨_,b⟩=>absurd b (by omega),.inl⟩
theorem zlt_early {x y:α × Nat} (hi:y.2 < x.2) (a:¬ lt x.1 y.1):zlt lt y x:=.inr ⟨a,hi⟩

def Srt (lt:α→α→Prop) (l:List (α × Nat)):Prop:=l.Pairwise (zlt lt)
def Ahead (l r:List (α × Nat)):Prop:=∀ y,y ∈ l→∀ x,x ∈ r→y.2 < x.2

theorem nth_pair [Inhabited α] {l:List (α × Nat)} (h:Srt lt l) {i j:Nat} (hij:i < j) (hj:j < l.length):zlt lt (nth l i) (nth l j):=by
 rw [nth_eq (by omega),nth_eq hj]
 exact List.pairwise_iff_getElem.1 h i j (by omega) hj hij
theorem Srt.append {l r:List (α × Nat)} (hl:Srt lt l) (hr:Srt lt r) (h:∀ y,y ∈ l→∀ x,x ∈ r→zlt lt y x):Srt lt (l ++ r):=
 List.pairwise_append.2 ⟨hl,hr,h⟩
theorem Srt.left {l r:List (α × Nat)} (h:Srt lt (l ++ r)):Srt lt l:=(List.pairwise_append.1 h).1
theorem Srt.right {l r:List (α × Nat)} (h:Srt lt (l ++ r)):Srt lt r:=(List.pairwise_append.1 h).2.1
theorem Srt.cross {l r:List (α × Nat)} (h:Srt lt (l ++ r)):∀ y,y ∈ l→∀ x,x ∈ r→zlt lt y x:=(List.pairwise_append.1 h).2.2

def Merged (lt:α→α→Prop) (l r s:List (α × Nat)):Prop:=s.Perm (l ++ r)∧Srt lt s

theorem Merged.nil_left {r:List (α × Nat)} (h:Srt lt r):Merged lt [] r r:=⟨by simp,h⟩
theorem Merged.nil_right {l:List (α × Nat)} (h:Srt lt l):Merged lt l [] l:=⟨by simp,h⟩
theorem Merged.mem {l r s:List (α × Nat)} (h:Merged lt l r s) {x:α × Nat} (hx:x ∈ s):x ∈ l ∨ x ∈ r:=by
 have:=h.1.mem_iff.1 hx;simpa using this
theorem Merged.halves {l1 l2 r1 r2 s1 s2:List (α × Nat)} (h1:Merged lt l1 r1 s1) (h2:Merged lt l2 r2 s2)
 (h:∀ y,y ∈ l1 ∨ y ∈ r1→∀ x,x ∈ l2 ∨ x ∈ r2→zlt lt y x):Merged lt (l1 ++ l2) (r1 ++ r2) (s1 ++ s2):=by
 refine ⟨?_,Srt.append h1.2 h2.2 fun y hy x hx=>h y (h1.mem hy) x (h2.mem hx)⟩
 refine (h1.1.append h2.1).trans ?_
 simp only [List.append_assoc]
 refine List.Perm.append_left _ ?_
 rw [← List.append_assoc,← List.append_assoc]
 exact List.Perm.append_right _ List.perm_append_comm
end

def swp {α:Type} [Inhabited α] (xs:List α) (i j:Nat):List α:=(xs.set i (nth xs j)).set j (nth xs i)
def swapR {α:Type} [Inhabited α] (xs:List α) (a b:Nat):Nat→List α
 | 0=>xs
 | k + 1=>swp (swapR xs a b k) (a + k) (b + k)
section
variable {α:Type} [Inhabited α]
theorem swp_length (xs:List α) (i j:Nat):(swp xs i j).length=xs.length:=by simp [swp]
theorem swapR_length (xs:List α) (a b k:Nat):(swapR xs a b k).length=xs.length:=by
 induction k with
 | zero=>rfl
 | succ k ih=>rw [swapR,swp_length,ih]
theorem nth_append (xs ys:List α) (j:Nat):nth (xs ++ ys) j=if j < xs.length then nth xs j else nth ys (j - xs.length):=by
 split
 ·exact nth_append_left (by omega)
 ·exact nth_append_right (by omega)
theorem nth_swp (xs:List α) (i j k:Nat) (hi:i < xs.length) (hj:j < xs.length) :
 nth (swp xs i j) k=if k=j then nth xs i else if k=i then nth xs j else nth xs k:=by
 unfold swp
 by_cases h1:k=j
 ·subst h1;rw [if_pos rfl,nth_set_same (by simpa using hj)]
 ·rw [if_neg h1,nth_set_other (by omega)]
  by_cases h2:k=i
  ·subst h2;rw [if_pos rfl,nth_set_same hi]
  ·rw [if_neg h2,nth_set_other (by omega)]
theorem nth_swapR (xs:List α) (a b n:Nat) (h:a + n≤b) (hb:b + n≤xs.length) (k:Nat) :
 nth (swapR xs a b n) k=if a≤k∧k < a + n then nth xs (b + (k - a)) else if b≤k∧k < b + n then nth xs (a + (k - b)) else nth xs k:=by
 induction n generalizing k with
 | zero=>rw [if_neg (by omega),if_neg (by omega)];rfl
 | succ n ih =>
   have ih:=ih (by omega) (by omega)
   rw [swapR,nth_swp _ _ _ _ (by rw [swapR_length];omega) (by rw [swapR_length];omega),ih (a + n),ih (b + n),ih k]
   by_cases h1:k=b + n
   ·subst h1
    rw [if_pos rfl,if_neg (by omega),if_neg (by omega),if_neg (by omega),if_pos (by omega)]
    congr 1;omega
   ·rw [if_neg h1]
    by_cases h2:k=a + n
    ·subst h2
     rw [if_pos rfl,if_neg (by omega),if_neg (by omega),if_pos (by omega)]
     congr 1;omega
    ·rw [if_neg h2]
     by_cases h3:a≤k∧k < a + n
     ·rw [if_pos h3,if_pos (by omega)]
     ·rw [if_neg h3]
      by_cases h4:b≤k∧k < b + n
      ·rw [if_pos h4,if_neg (by omega),if_pos (by omega)]
      ·rw [if_neg h4,if_neg (by omega),if_neg (by omega)]
theorem swapR_split (P X M Y Q:List α) (h:X.length=Y.length) :
 swapR (P ++ X ++ M ++ Y ++ Q) P.length (P.length + X.length + M.length) X.length=P ++ Y ++ M ++ X ++ Q:=by
 refine nth_ext (by rw [swapR_length];simp;omega) fun k _=>?_
 rw [nth_swapR _ _ _ _ (by omega) (by simp;omega)]
 simp only [List.append_assoc,nth_append]
 repeat' split
 all_goals first | omega | rfl | (congr 1;omega)
theorem nth_mid {P:List α} {x:α} {Q:List α} {k:Nat} (h:k=P.length):nth (P ++ x :: Q) k=x:=by
 subst h;rw [nth_append_right (Nat.le_refl _)];simp [nth]
theorem nth_mid1 {P:List α} {x y:α} {Q:List α} {k:Nat} (h:k=P.length + 1):nth (P ++ x :: y :: Q) k=y:=by
 subst h;rw [nth_append_right (by omega)];simp [nth,Nat.add_sub_cancel_left]
end
section
variable {α:Type}
theorem set_mid {P:List α} {x y v u:α} {Q:List α} {k:Nat} (h:k=P.length):((P ++ x :: y :: Q).set (k + 1) v).set k u=P ++ u :: v :: Q:=by
 subst h;rw [List.set_append_right _ _ (by omega)];simp
theorem set_mid' {P:List α} {x y v u:α} {Q:List α} {k:Nat} (h:k=P.length):((P ++ x :: y :: Q).set k u).set (k + 1) v=P ++ u :: v :: Q:=by
 subst h;rw [List.set_append_right _ _ (by omega)];simp
end

def seg {α:Type} (xs:List α) (a l:Nat):List α:=(xs.drop a).take l
section
variable {α:Type}
theorem seg_length {xs:List α} {a l:Nat} (h:a + l≤xs.length):(seg xs a l).length=l:=by simp [seg];omega
theorem seg_split (xs:List α) (a l r:Nat):seg xs a (l + r)=seg xs a l ++ seg xs (a + l) r:=by
 simp only [seg,List.take_add,List.drop_drop]
theorem seg_all {xs:List α} {l:Nat} (h:xs.length≤l):seg xs 0 l=xs:=by simp [seg,List.take_of_length_le h]
theorem seg_full {xs:List α} {a l:Nat} (h:xs.length≤a + l):seg xs a l=xs.drop a:=by
 simp only [seg];exact List.take_of_length_le (by simp;omega)
theorem split3 (xs:List α) (a l:Nat):xs=xs.take a ++ seg xs a l ++ xs.drop (a + l):=by
 rw [seg,List.append_assoc,← List.drop_drop,List.take_append_drop,List.take_append_drop]
theorem seg_before {xs s:List α} {a l:Nat} (ha:a≤xs.length) {c k:Nat} (h:c + k≤a):seg (xs.take a ++ s ++ xs.drop (a + l)) c k=seg xs c k:=by
 simp only [seg,List.append_assoc]
 rw [List.drop_append,List.take_append,List.drop_take,List.take_take,Nat.min_eq_left (by omega)]
 have:k - ((xs.drop c).take (a - c)).length=0:=by simp;omega
 rw [this];simp
theorem seg_after {xs s:List α} {a l:Nat} (hl:a + l≤xs.length) (hs:s.length=l) {c k:Nat} (h:a + l≤c):seg (xs.take a ++ s ++ xs.drop (a + l)) c k=seg xs c k:=by
 simp only [seg]
 rw [List.drop_append,List.drop_of_length_le (by simp;omega),List.nil_append,List.drop_drop]
 congr 2
 simp
 omega
theorem seg_here {xs s:List α} {a l:Nat} (ha:a≤xs.length) (hs:s.length=l):seg (xs.take a ++ s ++ xs.drop (a + l)) a l=s:=by
 simp only [seg,List.append_assoc]
 rw [List.drop_append,List.drop_of_length_le (by simp;omega)]
 simp only [List.nil_append,List.length_take,Nat.min_eq_left ha,Nat.sub_self,List.drop_zero]
 rw [List.take_append_of_le_length (by omega),List.take_of_length_le (by omega)]
end

section
variable {α:Type} {lt:α→α→Prop}
def Good (lt:α→α→Prop) (zs cur:List (α × Nat)) (a l:Nat):Prop:=(seg cur a l).Perm (seg zs a l)∧Srt lt (seg cur a l)
def Ups (zs:List (α × Nat)):Prop:=zs.Pairwise (fun x y=>x.2 < y.2)
theorem Ups.seg {zs:List (α × Nat)} (h:Ups zs) (a l:Nat):Ups (seg zs a l):=
 List.Pairwise.sublist ((List.take_sublist _ _).trans (List.drop_sublist _ _)) h
theorem Good.ahead {zs cur:List (α × Nat)} (hu:Ups zs) {a l r:Nat} (h1:Good lt zs cur a l) (h2:Good lt zs cur (a + l) r):Ahead (seg cur a l) (seg cur (a + l) r):=by
 have h:=hu.seg a (l + r)
 rw [seg_split] at h
 intro y hy x hx
 exact (List.pairwise_append.1 h).2.2 y (h1.1.mem_iff.1 hy) x (h2.1.mem_iff.1 hx)
theorem Good.merge {zs cur:List (α × Nat)} {a l r:Nat} (h1:Good lt zs cur a l) (h2:Good lt zs cur (a + l) r) (hl:a + (l + r)≤cur.length) {s:List (α × Nat)}
 (hm:Merged lt (seg cur a l) (seg cur (a + l) r) s):Good lt zs (cur.take a ++ s ++ cur.drop (a + (l + r))) a (l + r):=by
 have hs:s.length=l + r:=by rw [hm.1.length_eq,List.length_append,seg_length (by omega),seg_length (by omega)]
 unfold Good
 rw [seg_here (by omega) hs]
 refine ⟨?_,hm.2⟩
 rw [seg_split]
 exact hm.1.trans (h1.1.append h2.1)
theorem Good.before {zs cur s:List (α × Nat)} {a l c k:Nat} (h:Good lt zs cur c k) (ha:a≤cur.length) (hc:c + k≤a):Good lt zs (cur.take a ++ s ++ cur.drop (a + l)) c k:=by
 unfold Good at *;rwa [seg_before ha hc]
theorem Good.after {zs cur s:List (α × Nat)} {a l c k:Nat} (h:Good lt zs cur c k) (hl:a + l≤cur.length) (hs:s.length=l) (hc:a + l≤c):Good lt zs (cur.take a ++ s ++ cur.drop (a + l)) c k:=by
 unfold Good at *;rwa [seg_after hl hs hc]
end

theorem dvd_same {s a b:Nat} (ha:s ∣ a) (hb:s ∣ b) (h1:b≤a) (h2:a < b + s):a=b:=by
 have h:=Nat.eq_zero_of_dvd_of_lt (Nat.dvd_sub ha hb) (by omega)
 omega
section
variable {α:Type} {lt:α→α→Prop}
def Blocks (lt:α→α→Prop) (zs cur:List (α × Nat)) (bs:Nat):Prop:=∀ a,bs ∣ a→Good lt zs cur a bs
theorem Good.beyond {zs cur:List (α × Nat)} (h:cur.length=zs.length) {a l:Nat} (ha:zs.length≤a):Good lt zs cur a l:=by
 unfold Good seg
 rw [List.drop_of_length_le (by omega),List.drop_of_length_le ha]
 exact ⟨by simp,by simp [Srt]⟩
theorem Good.longer {zs cur:List (α × Nat)} (h:cur.length=zs.length) {a l l':Nat} (hg:Good lt zs cur a l) (ha:zs.length≤a + l) (hl:l≤l'):Good lt zs cur a l':=by
 unfold Good at *
 rw [seg_full (by omega),seg_full (by omega)] at *
 exact hg
theorem Good.start {zs:List (α × Nat)} {cur:List (α × Nat)} {a l:Nat} (hd:cur.drop a=zs.drop a) (ha:a + l≤zs.length) {s:List (α × Nat)} (hl:cur.length=zs.length)
 (hp:s.Perm (seg cur a l)) (hs:Srt lt s):Good lt zs (cur.take a ++ s ++ cur.drop (a + l)) a l:=by
 unfold Good
 rw [seg_here (by omega) (by rw [hp.length_eq,seg_length (by omega)])]
 refine ⟨?_,hs⟩
 unfold seg at *
 rw [← hd];exact hp
theorem put_length {xs s:List (α × Nat)} {a l:Nat} (h:a + l≤xs.length) (hs:s.length=l):(xs.take a ++ s ++ xs.drop (a + l)).length=xs.length:=by simp;omega
structure Pass (lt:α→α→Prop) (zs cur:List (α × Nat)) (bs a:Nat):Prop where
 len:cur.length=zs.length
 dvd:bs + bs ∣ a
 le:a≤zs.length
 done:∀ c,bs + bs ∣ c→c + (bs + bs)≤a→Good lt zs cur c (bs + bs)
 todo:∀ c,bs ∣ c→a≤c→Good lt zs cur c bs
theorem Pass.start {zs cur:List (α × Nat)} {bs:Nat} (h:Blocks lt zs cur bs) (hl:cur.length=zs.length) (hb:0 < bs):Pass lt zs cur bs 0:=
 ⟨hl,Nat.dvd_zero _,Nat.zero_le _,fun c _ h=>by omega,fun c hc _=>h c hc⟩
theorem Pass.step {zs cur:List (α × Nat)} {bs a:Nat} (h:Pass lt zs cur bs a) (hb:0 < bs) (hn:a + (bs + bs)≤zs.length) {s:List (α × Nat)}
 (hm:Merged lt (seg cur a bs) (seg cur (a + bs) bs) s):Pass lt zs (cur.take a ++ s ++ cur.drop (a + (bs + bs))) bs (a + (bs + bs)):=by
 have hl:=h.len
 have hs:s.length=bs + bs:=by rw [hm.1.length_eq,List.length_append,seg_length (by omega),seg_length (by omega)]
 have hbs:bs ∣ bs + bs:=Nat.dvd_add (Nat.dvd_refl _) (Nat.dvd_refl _)
 have hba:bs ∣ a:=Nat.dvd_trans hbs h.dvd
 refine ⟨by rw [put_length (by omega) hs,hl],Nat.dvd_add h.dvd (Nat.dvd_refl _),hn,fun c hc hca=>?_,fun c hc hca=>?_⟩
 ·by_cases e:c + (bs + bs)≤a
  ·exact (h.done c hc e).before (by omega) e
  ·obtain rfl:a=c:=dvd_same h.dvd hc (by omega) (by omega)
   exact Good.merge (h.todo a hba (Nat.le_refl _)) (h.todo (a + bs) (Nat.dvd_add hba (Nat.dvd_refl _)) (by omega)) (by omega) hm
 ·exact (h.todo c hc (by omega)).after (by omega) hs hca
theorem Pass.last_one {zs cur:List (α × Nat)} {bs a:Nat} (h:Pass lt zs cur bs a) (hb:0 < bs) (hn:zs.length≤a + bs):Blocks lt zs cur (bs + bs):=by
 have hbs:bs ∣ bs + bs:=Nat.dvd_add (Nat.dvd_refl _) (Nat.dvd_refl _)
 intro c hc
 by_cases e:c + (bs + bs)≤a
 ·exact h.done c hc e
 ·by_cases e2:c≤a
  ·obtain rfl:a=c:=dvd_same h.dvd hc e2 (by omega)
   exact (h.todo a (Nat.dvd_trans hbs h.dvd) (Nat.le_refl _)).longer h.len hn (by omega)
  ·refine Good.beyond h.len ?_
   have:¬ c < a + (bs + bs):=fun e3=>by
    have:=dvd_same hc h.dvd (by omega) e3
    omega
   omega
theorem Pass.last_two {zs cur:List (α × Nat)} {bs a r:Nat} (h:Pass lt zs cur bs a) (hb:0 < bs) (hr:a + bs + r=zs.length) (hrb:r≤bs) {s:List (α × Nat)}
 (hm:Merged lt (seg cur a bs) (seg cur (a + bs) r) s):Blocks lt zs (cur.take a ++ s ++ cur.drop (a + (bs + r))) (bs + bs)∧(cur.take a ++ s ++ cur.drop (a + (bs + r))).length=zs.length:=by
 have hl:=h.len
 have hs:s.length=bs + r:=by rw [hm.1.length_eq,List.length_append,seg_length (by omega),seg_length (by omega)]
 have hbs:bs ∣ bs + bs:=Nat.dvd_add (Nat.dvd_refl _) (Nat.dvd_refl _)
 have hba:bs ∣ a:=Nat.dvd_trans hbs h.dvd
 have hlen:(cur.take a ++ s ++ cur.drop (a + (bs + r))).length=zs.length:=by rw [put_length (by omega) hs,hl]
 refine ⟨fun c hc=>?_,hlen⟩
 by_cases e:c + (bs + bs)≤a
 ·exact (h.done c hc e).before (by omega) e
 ·by_cases e2:c≤a
  ·obtain rfl:a=c:=dvd_same h.dvd hc e2 (by omega)
   have h2:Good lt zs cur (a + bs) r:=by
    have h3:=h.todo (a + bs) (Nat.dvd_add hba (Nat.dvd_refl _)) (by omega)
    unfold Good at h3 ⊢
    rw [seg_full (by omega),seg_full (by omega)] at h3 ⊢
    exact h3
   exact (Good.merge (h.todo a hba (Nat.le_refl _)) h2 (by omega) hm).longer hlen (by omega) (by omega)
  ·refine Good.beyond hlen ?_
   have:¬ c < a + (bs + bs):=fun e3=>by
    have:=dvd_same hc h.dvd (by omega) e3
    omega
   omega
theorem Blocks.whole {zs cur:List (α × Nat)} {bs:Nat} (h:Blocks lt zs cur bs) (hl:cur.length=zs.length) (hb:zs.length≤bs):cur.Perm zs∧Srt lt cur:=by
 have h:=h 0 (Nat.dvd_zero _)
 unfold Good at h
 rwa [seg_all (by omega),seg_all hb] at h
end
end Go.Proofs.YtgbmnlmnhbkdbaaGreat
/- Plain facts on sets as rising lists, without any program, over a three-way comparison. No condition beyond that it compares. -/
namespace Go.Proofs.YtgbmnlmnhbkdbaaGreat

structure CmpOk {α:Type} (c:α→α→Int):Prop where
 swo:Swo (fun a b=>c a b < 0)
 flip:∀ a b,0 < c a b ↔ c b a < 0

section
variable {α:Type} {c:α→α→Int}
theorem CmpOk.self (h:CmpOk c) (a:α):c a a=0:=by
 have h1:=h.swo.irr a
 have h2:=h.flip a a
 have h1:¬ c a a < 0:=h1
 omega
theorem CmpOk.zero_symm (h:CmpOk c) {a b:α} (e:c a b=0):c b a=0:=by
 have h1:=h.flip a b
 have h2:=h.flip b a
 omega
theorem CmpOk.lt_trans (h:CmpOk c) {a b d:α} (h1:c a b < 0) (h2:c b d < 0):c a d < 0:=h.swo.tr h1 h2
theorem CmpOk.zero_lt (h:CmpOk c) {a b d:α} (h1:c a b=0) (h2:c b d < 0):c a d < 0:=by
 rcases h.swo.neg h2 a with h3 | h3
 ·have h3:c b a < 0:=h3
  have:=h.zero_symm h1;omega
 ·exact h3
theorem CmpOk.lt_zero (h:CmpOk c) {a b d:α} (h1:c a b < 0) (h2:c b d=0):c a d < 0:=by
 rcases h.swo.neg h1 d with h3 | h3
 ·exact h3
 ·have h3:c d b < 0:=h3
  have:=h.zero_symm h2;omega
theorem CmpOk.zero_trans (h:CmpOk c) {a b d:α} (h1:c a b=0) (h2:c b d=0):c a d=0:=by
 have h3:¬ c a d < 0:=fun h3=>by
  have:=h.zero_lt (h.zero_symm h1) h3;omega
 have h4:¬ c d a < 0:=fun h4=>by
  have:=h.lt_zero h4 h1
  have:=h.zero_symm h2;omega
 have:=h.flip a d
 omega

def Asc (c:α→α→Int) (l:List α):Prop:=l.Pairwise (fun a b=>c a b < 0)
theorem Asc.ext (h:CmpOk c):∀ {l r:List α},Asc c l→Asc c r→(∀ x,x ∈ l ↔ x ∈ r)→l=r
 | [],[],_,_,_=>rfl
 | [],y :: r,_,_,e=>by have:=(e y).2 (by simp);simp at this
 | x :: l,[],_,_,e=>by have:=(e x).1 (by simp);simp at this
 | x :: l,y :: r,hl,hr,e=>by
   obtain ⟨hx,hl2⟩:=List.pairwise_cons.1 hl
   obtain ⟨hy,hr2⟩:=List.pairwise_cons.1 hr
   have hxy:x=y:=by
    rcases List.mem_cons.1 ((e x).1 (by simp)) with h1 | h1
    ·exact h1
    ·rcases List.mem_cons.1 ((e y).2 (by simp)) with h2 | h2
     ·exact h2.symm
     ·have h3:c y x < 0:=hy x h1
      have h4:c x y < 0:=hx y h2
      exact absurd h4 (h.swo.asymm h3)
   subst hxy
   have hn:∀ (z:α) (t:List α),(∀ u,u ∈ t→c z u < 0)→z ∉ t:=fun z t ht hz=>h.swo.irr z (ht z hz)
   refine congrArg (x :: ·) (Asc.ext h hl2 hr2 fun z=>?_)
   constructor
   ·intro hz
    rcases List.mem_cons.1 ((e z).1 (List.mem_cons_of_mem _ hz)) with h1 | h1
    ·subst h1;exact absurd hz (hn _ _ hx)
    ·exact h1
   ·intro hz
    rcases List.mem_cons.1 ((e z).2 (List.mem_cons_of_mem _ hz)) with h1 | h1
    ·subst h1;exact absurd hz (hn _ _ hy)
    ·exact h1

def ins (c:α→α→Int) (x:α):List α→List α
 | []=>[x]
 | y :: l=>if c x y < 0 then x :: y :: l else if c x y=0 then y :: l else y :: ins c x l
def setOf (c:α→α→Int) (xs:List α):List α:=xs.foldl (fun acc x=>ins c x acc) []
theorem setOf_snoc (xs:List α) (x:α):setOf c (xs ++ [x])=ins c x (setOf c xs):=by simp [setOf]

theorem ins_length_le (x:α):∀ l:List α,(ins c x l).length≤l.length + 1
 | []=>by simp [ins]
 | y :: l=>by
   unfold ins
   split
   ·simp
   ·split
    ·simp
    ·have:=ins_length_le x l;simp;omega
theorem setOf_length_le (xs:List α):(setOf c xs).length≤xs.length:=by
 have key:∀ (xs acc:List α),(xs.foldl (fun acc x=>ins c x acc) acc).length≤acc.length + xs.length:=by
  intro xs
  induction xs with
  | nil=>intro acc;simp
  | cons x xs ih=>intro acc;have h1:=ih (ins c x acc);have h2:=ins_length_le (c:=c) x acc;simp;omega
 have:=key xs []
 simpa [setOf] using this
def isIn (c:α→α→Int) (x:α) (l:List α):Bool:=l.any (fun y=>c y x == 0)
theorem isIn_iff {x:α} {l:List α}:isIn c x l=true ↔ ∃ y,y ∈ l∧c y x=0:=by simp [isIn]
theorem mem_ins (h:CmpOk c) {x z:α}:∀ {l:List α},Asc c l→(z ∈ ins c x l ↔ z ∈ l ∨ (z=x∧isIn c x l=false))
 | [],_=>by simp [ins,isIn]
 | y :: l,hl=>by
   obtain ⟨hy,hl⟩:=List.pairwise_cons.1 hl
   unfold ins
   by_cases h1:c x y < 0
   ·rw [if_pos h1]
    have hin:isIn c x (y :: l)=false:=by
     rw [← Bool.not_eq_true,isIn_iff]
     rintro ⟨u,hu,h2⟩
     rcases List.mem_cons.1 hu with rfl | hu
     ·have:=h.zero_symm h2;omega
     ·have h3:=h.lt_trans h1 (hy u hu)
      have:=h.zero_symm h2;omega
    simp [hin,or_comm]
   ·rw [if_neg h1]
    by_cases h2:c x y=0
    ·rw [if_pos h2]
     have hin:isIn c x (y :: l)=true:=isIn_iff.2 ⟨y,by simp,h.zero_symm h2⟩
     simp [hin]
    ·rw [if_neg h2,List.mem_cons,mem_ins h hl]
     have hyx:¬ c y x=0:=fun e=>h2 (h.zero_symm e)
     have hin:isIn c x (y :: l)=isIn c x l:=by simp [isIn,hyx]
     rw [hin,List.mem_cons,or_assoc]
theorem asc_ins (h:CmpOk c) {x:α}:∀ {l:List α},Asc c l→Asc c (ins c x l)
 | [],_=>by simp [ins,Asc]
 | y :: l,hl=>by
   obtain ⟨hy,hl'⟩:=List.pairwise_cons.1 hl
   unfold ins
   by_cases h1:c x y < 0
   ·rw [if_pos h1]
    refine List.pairwise_cons.2 ⟨fun u hu=>?_,hl⟩
    rcases List.mem_cons.1 hu with rfl | hu
    ·exact h1
    ·exact h.lt_trans h1 (hy u hu)
   ·rw [if_neg h1]
    by_cases h2:c x y=0
    ·rw [if_pos h2];exact hl
    ·rw [if_neg h2]
     refine List.pairwise_cons.2 ⟨fun u hu=>?_,asc_ins h hl'⟩
     rcases (mem_ins h hl').1 hu with hu | ⟨rfl,_⟩
     ·exact hy u hu
     ·have:=h.flip u y;omega
theorem asc_setOf (h:CmpOk c) (xs:List α):Asc c (setOf c xs):=by
 have key:∀ (xs acc:List α),Asc c acc→Asc c (xs.foldl (fun acc x=>ins c x acc) acc):=by
  intro xs
  induction xs with
  | nil=>intro acc ha;exact ha
  | cons x xs ih=>intro acc ha;exact ih _ (asc_ins h ha)
 exact key xs [] List.Pairwise.nil
theorem mem_setOf (h:CmpOk c) (z:α) (xs:List α):z ∈ setOf c xs ↔ ∃ i,i < xs.length∧xs[i]?=some z∧∀ j y,j < i→xs[j]?=some y→c y z ≠ 0:=by
 induction hn:xs.length generalizing xs z with
 | zero =>
   obtain rfl:=List.eq_nil_of_length_eq_zero hn
   simp [setOf]
 | succ n ih =>
   rcases List.eq_nil_or_concat xs with rfl | ⟨ys,x,rfl⟩
   ·simp at hn
   ·rw [List.concat_eq_append] at *
    have hn':ys.length=n:=by simpa using hn
    rw [setOf_snoc,mem_ins h (asc_setOf h ys),ih z ys hn']
    constructor
    ·rintro (⟨i,hi,e,hj⟩ | ⟨rfl,hin⟩)
     ·refine ⟨i,by omega,by rw [List.getElem?_append_left (by omega)];exact e,fun j y hji ey=>hj j y hji ?_⟩
      rwa [List.getElem?_append_left (by omega)] at ey
     ·refine ⟨n,by omega,by rw [List.getElem?_append_right (by omega)];simp [hn'],fun j y hji ey e0=>?_⟩
      rw [List.getElem?_append_left (by omega)] at ey
      have hex:∃ i y,i < ys.length∧ys[i]?=some y∧c y z=0∧∀ k u,k < i→ys[k]?=some u→c u z ≠ 0:=by
       have key:∀ m j:Nat,j≤m→∀ y:α,ys[j]?=some y→c y z=0→∃ i y,i < ys.length∧ys[i]?=some y∧c y z=0∧∀ k u,k < i→ys[k]?=some u→c u z ≠ 0:=by
        intro m
        induction m with
        | zero =>
          intro j hj y hy h0
          refine ⟨j,y,(List.getElem?_eq_some_iff.1 hy).1,hy,h0,fun k u hk=>by omega⟩
        | succ m ihm =>
          intro j hj y hy h0
          by_cases hk:∃ k u,k < j∧ys[k]?=some u∧c u z=0
          ·obtain ⟨k,u,hk,hu,hu0⟩:=hk
           exact ihm k (by omega) u hu hu0
          ·exact ⟨j,y,(List.getElem?_eq_some_iff.1 hy).1,hy,h0,fun k u hk' hu hu0=>hk ⟨k,u,hk',hu,hu0⟩⟩
       exact key j j (Nat.le_refl _) y ey e0
      obtain ⟨i,u,hi,hu,hu0,hfirst⟩:=hex
      have hmem:u ∈ setOf c ys:=(ih u ys hn').2 ⟨i,by omega,hu,fun k v hk hv hv0=>hfirst k v hk hv (h.zero_trans hv0 hu0)⟩
      have:isIn c z (setOf c ys)=true:=isIn_iff.2 ⟨u,hmem,hu0⟩
      rw [hin] at this;cases this
    ·rintro ⟨i,hi,e,hj⟩
     by_cases hin:i < n
     ·left
      refine ⟨i,hin,by rwa [List.getElem?_append_left (by omega)] at e,fun j y hji ey=>hj j y hji ?_⟩
      rw [List.getElem?_append_left (by omega)];exact ey
     ·right
      obtain rfl:i=n:=by omega
      rw [List.getElem?_append_right (by omega)] at e
      simp [hn'] at e
      subst e
      refine ⟨rfl,?_⟩
      rw [← Bool.not_eq_true,isIn_iff]
      rintro ⟨u,hu,hu0⟩
      obtain ⟨k,hk,hku,_⟩:=(ih u ys hn').1 hu
      exact hj k u hk (by rw [List.getElem?_append_left (by omega)];exact hku) hu0

def ddF (eq:α→α→Bool):α→List α→List α
 | _,[]=>[]
 | p,y :: ys=>if eq y p then ddF eq y ys else y :: ddF eq y ys
def dd (eq:α→α→Bool):List α→List α
 | []=>[]
 | x :: xs=>x :: ddF eq x xs
theorem ddF_snoc (eq:α→α→Bool):∀ (ys:List α) (p y:α),ddF eq p (ys ++ [y])=if eq y ((p :: ys).getLast (by simp)) then ddF eq p ys else ddF eq p ys ++ [y]
 | [],p,y=>by rfl
 | z :: ys,p,y=>by
   simp only [List.cons_append,ddF,ddF_snoc eq ys z y,List.getLast_cons_cons]
   split <;> split <;> simp_all
theorem dd_step [Inhabited α] (eq:α→α→Bool) (xs:List α) (k:Nat) (hk:0 < k) (h:k < xs.length) :
 dd eq (xs.take (k + 1))=if eq (nth xs k) (nth xs (k - 1)) then dd eq (xs.take k) else dd eq (xs.take k) ++ [nth xs k]:=by
 rw [take_snoc h]
 have hne:xs.take k ≠ []:=by
  rw [Ne,List.take_eq_nil_iff]
  rintro (h1 | h1)
  ·omega
  ·subst h1;simp at h
 have hl:nth xs (k - 1)=(xs.take k).getLast hne:=by
  rw [List.getLast_eq_getElem,nth_eq (by omega)]
  simp [Nat.min_eq_left (Nat.le_of_lt h)]
 rcases hx:xs.take k with _ | ⟨x,ys⟩
 ·exact absurd hx hne
 ·simp only [hx] at hl
  simp only [List.cons_append,dd,ddF_snoc,← hl]
  split <;> rfl

theorem ddF_sorted (h:CmpOk c):∀ (S:List (α × Nat)) (p:α × Nat),Srt (fun a b=>c a b < 0) (p :: S) →
 Asc c (p.1 :: ddF (fun a b=>c a b == 0) p.1 (S.map Prod.fst)) ∧
 ∀ z,z ∈ (p.1 :: ddF (fun a b=>c a b == 0) p.1 (S.map Prod.fst)) ↔ ∃ i,(z,i) ∈ p :: S∧∀ y j,(y,j) ∈ p :: S→c y z=0→i≤j
 | [],p,_=>by
   refine ⟨by simp [ddF,Asc],fun z=>?_⟩
   simp only [List.map_nil,ddF,List.mem_singleton]
   constructor
   ·rintro rfl;exact ⟨p.2,rfl,fun y j e _=>by rw [← e];exact Nat.le_refl _⟩
   ·rintro ⟨i,e,_⟩;rw [← e]
 | q :: S,p,hs=>by
   obtain ⟨hp,hs'⟩:=List.pairwise_cons.1 hs
   have ih:=ddF_sorted h S q hs'
   have hpq:zlt (fun a b=>c a b < 0) p q:=hp q (by simp)
   simp only [List.map_cons,ddF]
   by_cases e0:c q.1 p.1=0
   ·-- q is of p's kind: it is left out
    have hlt:p.2 < q.2:=by
     rcases hpq with h1 | ⟨_,h1⟩
     ·have h1:c p.1 q.1 < 0:=h1
      have:=h.zero_symm e0;omega
     ·exact h1
    rw [if_pos (by simpa using e0)]
    obtain ⟨ih1,ih2⟩:=ih
    obtain ⟨ih3,ih4⟩:=List.pairwise_cons.1 ih1
    have hasc:Asc c (p.1 :: ddF (fun a b=>c a b == 0) q.1 (S.map Prod.fst)):=List.pairwise_cons.2 ⟨fun u hu=>h.zero_lt (h.zero_symm e0) (ih3 u hu),ih4⟩
    refine ⟨hasc,fun z=>?_⟩
    rw [List.mem_cons]
    constructor
    ·rintro (rfl | hz)
     ·refine ⟨p.2,by simp,fun y j hy hy0=>?_⟩
      rcases List.mem_cons.1 hy with e | hy
      ·rw [← e];exact Nat.le_refl _
      ·have hl:=hp _ hy
       rcases hl with h1 | ⟨_,h1⟩
       ·have h1:c p.1 y < 0:=h1
        have:=h.zero_symm hy0;omega
       ·exact Nat.le_of_lt h1
     ·obtain ⟨i,hi,hj⟩:=(ih2 z).1 (List.mem_cons_of_mem _ hz)
      refine ⟨i,List.mem_cons_of_mem _ hi,fun y j hy hy0=>?_⟩
      rcases List.mem_cons.1 hy with e | hy
      ·have h1:c q.1 z < 0:=ih3 z hz
       have h2:=h.zero_lt (h.zero_symm e0) h1
       rw [← e] at h2
       exact absurd h2 (by rw [hy0];omega)
      ·exact hj y j hy hy0
    ·rintro ⟨i,hi,hj⟩
     rcases List.mem_cons.1 hi with e | hi
     ·left;rw [← e]
     ·right
      have hz:=(ih2 z).2 ⟨i,hi,fun y j hy hy0=>hj y j (List.mem_cons_of_mem _ hy) hy0⟩
      rcases List.mem_cons.1 hz with rfl | hz
      ·-- z is q's thing: then p,which is earlier,is of its kind
       have h1:=hj p.1 p.2 (by simp) (h.zero_symm e0)
       rcases List.mem_cons.1 hi with e | hi
       ·rw [← e] at hlt;simp at hlt;omega
       ·have h2:=(List.pairwise_cons.1 hs').1 _ hi
        rcases h2 with h3 | ⟨_,h3⟩
        ·have h3:c q.1 q.1 < 0:=h3
         rw [h.self] at h3;omega
        ·simp at h3;omega
      ·exact hz
   ·rw [if_neg (by simpa using e0)]
    obtain ⟨ih1,ih2⟩:=ih
    have hlt:c p.1 q.1 < 0:=by
     rcases hpq with h1 | ⟨h1,_⟩
     ·exact h1
     ·have h1:¬ c q.1 p.1 < 0:=h1
      have:=h.flip q.1 p.1
      omega
    have hall:∀ u,u ∈ (q.1 :: ddF (fun a b=>c a b == 0) q.1 (S.map Prod.fst))→c p.1 u < 0:=by
     intro u hu
     rcases List.mem_cons.1 hu with rfl | hu
     ·exact hlt
     ·exact h.lt_trans hlt ((List.pairwise_cons.1 ih1).1 u hu)
    refine ⟨List.pairwise_cons.2 ⟨hall,ih1⟩,fun z=>?_⟩
    rw [List.mem_cons]
    constructor
    ·rintro (rfl | hz)
     ·refine ⟨p.2,by simp,fun y j hy hy0=>?_⟩
      rcases List.mem_cons.1 hy with e | hy
      ·rw [← e];exact Nat.le_refl _
      ·have hl:=hp _ hy
       rcases hl with h1 | ⟨_,h1⟩
       ·have h1:c p.1 y < 0:=h1
        have:=h.zero_symm hy0;omega
       ·exact Nat.le_of_lt h1
     ·obtain ⟨i,hi,hj⟩:=(ih2 z).1 hz
      refine ⟨i,List.mem_cons_of_mem _ hi,fun y j hy hy0=>?_⟩
      rcases List.mem_cons.1 hy with e | hy
      ·have h2:=hall z hz
       rw [← e] at h2
       exact absurd h2 (by rw [hy0];omega)
      ·exact hj y j hy hy0
    ·rintro ⟨i,hi,hj⟩
     rcases List.mem_cons.1 hi with e | hi
     ·left;rw [← e]
     ·right
      exact (ih2 z).2 ⟨i,hi,fun y j hy hy0=>hj y j (List.mem_cons_of_mem _ hy) hy0⟩
theorem dd_setOf (h:CmpOk c) {xs:List α} {S:List (α × Nat)} (hp:S.Perm xs.zipIdx) (hs:Srt (fun a b=>c a b < 0) S):dd (fun a b=>c a b == 0) (S.map Prod.fst)=setOf c xs:=by
 have hmem:∀ z i,(z,i) ∈ S ↔ xs[i]?=some z:=by
  intro z i
  rw [hp.mem_iff,List.mem_zipIdx_iff_getElem?]
 have key:Asc c (dd (fun a b=>c a b == 0) (S.map Prod.fst))∧∀ z,z ∈ dd (fun a b=>c a b == 0) (S.map Prod.fst) ↔ ∃ i,(z,i) ∈ S∧∀ y j,(y,j) ∈ S→c y z=0→i≤j:=by
  rcases S with _ | ⟨p,S⟩
  ·exact ⟨List.Pairwise.nil,by simp [dd]⟩
  ·exact ddF_sorted h S p hs
 refine Asc.ext h key.1 (asc_setOf h xs) fun z=>?_
 rw [key.2,mem_setOf h]
 constructor
 ·rintro ⟨i,hi,hj⟩
  rw [hmem] at hi
  refine ⟨i,(List.getElem?_eq_some_iff.1 hi).1,hi,fun j y hji hy h0=>?_⟩
  have:=hj y j ((hmem y j).2 hy) h0
  omega
 ·rintro ⟨i,_,hi,hj⟩
  refine ⟨i,(hmem z i).2 hi,fun y j hy h0=>?_⟩
  by_cases e:j < i
  ·exact absurd h0 (hj j y e ((hmem y j).1 hy))
  ·omega
end

structure Place {α:Type} [Inhabited α] (c:α→α→Int) (xs:List α) (x:α) (i:Nat):Prop where
 le:i≤xs.length
 lo:∀ t,t < i→c (nth xs t) x < 0
 hi:∀ t,i≤t→t < xs.length→¬ c (nth xs t) x < 0
section
variable {α:Type} [Inhabited α] {c:α→α→Int} {xs:List α} {x:α} {i:Nat}
theorem nth_asc (h:Asc c xs) {i j:Nat} (hij:i < j) (hj:j < xs.length):c (nth xs i) (nth xs j) < 0:=by
 rw [nth_eq (by omega),nth_eq hj]
 exact List.pairwise_iff_getElem.1 h i j (by omega) hj hij
theorem Place.isIn (h:CmpOk c) (p:Place c xs x i) (ha:Asc c xs):isIn c x xs=(decide (i < xs.length) && (c (nth xs i) x == 0)):=by
 rw [Bool.eq_iff_iff,isIn_iff]
 simp only [Bool.and_eq_true,decide_eq_true_eq,beq_iff_eq]
 constructor
 ·rintro ⟨y,hy,h0⟩
  obtain ⟨t,ht,rfl⟩:=mem_nth hy
  have h1:¬ t < i:=fun e=>by have:=p.lo t e;omega
  have h2:¬ i < t:=fun e=>by
   have h3:=nth_asc ha e ht
   have h4:=h.lt_zero h3 h0
   exact p.hi i (Nat.le_refl _) (by omega) h4
  obtain rfl:t=i:=by omega
  exact ⟨ht,h0⟩
 ·rintro ⟨hi,h0⟩
  exact ⟨_,nth_mem hi,h0⟩
theorem Place.ins (h:CmpOk c) (p:Place c xs x i) (hn:Go.Proofs.YtgbmnlmnhbkdbaaGreat.isIn c x xs=false) (ha:Asc c xs):ins c x xs=xs.take i ++ x :: xs.drop i:=by
 have hne:∀ y,y ∈ xs→c y x ≠ 0:=fun y hy h0=>by
  have:=isIn_iff.2 ⟨y,hy,h0⟩
  rw [hn] at this;cases this
 have hasc:Asc c (xs.take i ++ x :: xs.drop i):=by
  have hx:(xs.take i ++ xs.drop i).Pairwise (fun a b=>c a b < 0):=by rw [List.take_append_drop];exact ha
  obtain ⟨h1,h2,h3⟩:=List.pairwise_append.1 hx
  refine List.pairwise_append.2 ⟨h1,List.pairwise_cons.2 ⟨fun u hu=>?_,h2⟩,fun u hu v hv=>?_⟩
  ·obtain ⟨t,ht,rfl⟩:=mem_nth hu
   simp only [List.length_drop] at ht
   rw [nth_drop]
   have h4:=p.hi (i + t) (by omega) (by omega)
   have h5:=hne _ (nth_mem (show i + t < xs.length by omega))
   have:=h.flip (nth xs (i + t)) x
   omega
  ·rcases List.mem_cons.1 hv with rfl | hv
   ·obtain ⟨t,ht,rfl⟩:=mem_nth hu
    simp only [List.length_take] at ht
    rw [nth_take (by omega)]
    exact p.lo t (by omega)
   ·exact h3 u hu v hv
 refine Asc.ext h (asc_ins h ha) hasc fun z=>?_
 rw [mem_ins h ha,hn,List.mem_append,List.mem_cons]
 have hm:z ∈ xs ↔ z ∈ xs.take i ∨ z ∈ xs.drop i:=by rw [← List.mem_append,List.take_append_drop]
 rw [hm]
 constructor
 ·rintro ((h1 | h1) | h1)
  ·exact .inl h1
  ·exact .inr (.inr h1)
  ·exact .inr (.inl h1.1)
 ·rintro (h1 | h1 | h1)
  ·exact .inl (.inl h1)
  ·exact .inr ⟨h1,rfl⟩
  ·exact .inl (.inr h1)
def rem (c:α→α→Int) (x:α) (l:List α):List α:=l.filter (fun y=>!(c y x == 0))
omit [Inhabited α] in
theorem asc_rem (ha:Asc c xs):Asc c (rem c x xs):=List.Pairwise.sublist List.filter_sublist ha
omit [Inhabited α] in
theorem mem_rem {z:α}:z ∈ rem c x xs ↔ z ∈ xs∧c z x ≠ 0:=by simp [rem]
theorem Place.rem (h:CmpOk c) (p:Place c xs x i) (hn:Go.Proofs.YtgbmnlmnhbkdbaaGreat.isIn c x xs=true) (ha:Asc c xs):i < xs.length∧rem c x xs=xs.take i ++ xs.drop (i + 1):=by
 rw [p.isIn h ha] at hn
 simp only [Bool.and_eq_true,decide_eq_true_eq,beq_iff_eq] at hn
 obtain ⟨hi,h0⟩:=hn
 refine ⟨hi,?_⟩
 have hsub:(xs.take i ++ xs.drop (i + 1)).Sublist xs:=by
  conv=>rhs;rw [← List.take_append_drop i xs]
  refine List.Sublist.append_left ?_ _
  rw [List.drop_eq_getElem_cons hi]
  exact List.sublist_cons_self _ _
 refine Asc.ext h (asc_rem ha) (List.Pairwise.sublist hsub ha) fun z=>?_
 rw [mem_rem]
 constructor
 ·rintro ⟨hz,hne⟩
  obtain ⟨t,ht,rfl⟩:=mem_nth hz
  rw [List.mem_append]
  by_cases e:t < i
  ·left
   rw [← nth_take e]
   exact nth_mem (by simp;omega)
  ·by_cases e2:t=i
   ·subst e2;exact absurd h0 hne
   ·right
    rw [show nth xs t=nth (xs.drop (i + 1)) (t - (i + 1)) from by rw [nth_drop];congr 1;omega]
    exact nth_mem (by simp;omega)
 ·intro hz
  refine ⟨hsub.subset hz,?_⟩
  rcases List.mem_append.1 hz with hz | hz
  ·obtain ⟨t,ht,rfl⟩:=mem_nth hz
   simp only [List.length_take] at ht
   rw [nth_take (by omega)]
   have:=p.lo t (by omega);omega
  ·obtain ⟨t,ht,rfl⟩:=mem_nth hz
   simp only [List.length_drop] at ht
   rw [nth_drop]
   intro h1
   have h2:=nth_asc ha (show i < i + 1 + t by omega) (by omega)
   have h3:=h.lt_zero h2 h1
   omega
end
end Go.Proofs.YtgbmnlmnhbkdbaaGreat
