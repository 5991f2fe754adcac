/- sep's view.far: what its loops keep. No condition. -/
import Derived.Test.YtdlnglffimcopaaFarClo
import Derived.Test.YtdlnglffimcopaaFlowAll
import Derived.Test.YtdlnglffimcopaaDist
namespace Go.Proofs.Ytdlnglffimcopaa
open Go.RowKit

/-- the states, those of the first p points -/
def fromsL (p : Nat) : List St := (List.range p).flatMap fun q => [(q, false), (q, true)]
theorem fromsL_succ (p : Nat) : fromsL (p + 1) = fromsL p ++ [(p, false), (p, true)] := by unfold fromsL; rw [List.range_succ, List.flatMap_append]; simp
theorem fromsL_length : ∀ p, (fromsL p).length = 2 * p
  | 0 => rfl
  | p + 1 => by rw [fromsL_succ, List.length_append, fromsL_length p]; simp; omega
theorem mem_fromsL {p : Nat} {s : St} : s ∈ fromsL p ↔ s.1 < p := by
  unfold fromsL
  rw [List.mem_flatMap]
  constructor
  · rintro ⟨q, hq, hs⟩
    rw [List.mem_range] at hq
    simp at hs
    rcases hs with rfl | rfl <;> exact hq
  · intro h
    refine ⟨s.1, List.mem_range.2 h, ?_⟩
    obtain ⟨p, u⟩ := s
    cases u <;> simp
/-- of some states those that lead to another one -/
noncomputable def backL (G : List (List Nat)) (Z : List Int) (F : List St) (t : St) : List St := F.filter fun f => decide (t ∈ nextL G Z f)
theorem backL_snoc (G : List (List Nat)) (Z : List Int) (F : List St) (f t : St) : backL G Z (F ++ [f]) t = backL G Z F t ++ if t ∈ nextL G Z f then [f] else [] := by
  unfold backL
  rw [List.filter_append]
  by_cases h : t ∈ nextL G Z f <;> simp [h]
theorem backL_length (G : List (List Nat)) (Z : List Int) (F : List St) (t : St) : (backL G Z F t).length ≤ F.length := List.length_filter_le _ _
theorem mem_backL {G : List (List Nat)} {Z : List Int} {F : List St} {f t : St} : f ∈ backL G Z F t ↔ f ∈ F ∧ t ∈ nextL G Z f := by
  unfold backL; rw [List.mem_filter, decide_eq_true_iff]
theorem back_all {G : List (List Nat)} {Z : List Int} {n : Nat} (hG : G.length = n) (hg : GoodG G) {s f : St} : f ∈ backL G Z (fromsL n) s ↔ Nx G (Zp Z) (Ap G Z) f s := by
  rw [mem_backL, mem_fromsL]
  constructor
  · rintro ⟨h1, h2⟩; exact (mem_nextL (by rw [hG]; exact h1)).1 h2
  · intro h
    have := (Nx.lt hg h).1
    exact ⟨by rw [← hG]; exact this, (mem_nextL this).2 h⟩
theorem nextL_nodup {G : List (List Nat)} {Z : List Int} {s : St} (hs : s.1 < G.length) (h : (nth G s.1).Nodup) : (nextL G Z s).Nodup := by
  unfold nextL
  split
  · exact List.nodup_nil
  · rw [List.nodup_append]
    refine ⟨?_, ?_, ?_⟩
    · split
      · rw [List.nodup_iff_pairwise_ne, List.pairwise_map]
        exact (List.nodup_iff_pairwise_ne.1 h).imp fun hne e => hne (by injection e)
      · exact List.nodup_nil
    · split
      · exact List.nodup_nil
      · rw [List.nodup_iff_pairwise_ne, List.pairwise_map]
        exact (List.nodup_iff_pairwise_ne.1 (kids_nodup hs)).imp fun hne e => hne (by injection e)
    · intro a ha b hb e
      subst e
      split at ha
      · split at hb
        · simp at hb
        · obtain ⟨x, _, rfl⟩ := List.mem_map.1 ha
          obtain ⟨y, _, e⟩ := List.mem_map.1 hb
          injection e with _ e; cases e
      · simp at ha
theorem nextL_bnd {G : List (List Nat)} {Z : List Int} (hg : GoodG G) {s t : St} (hs : s.1 < G.length) (h : t ∈ nextL G Z s) : t.1 < G.length := (Nx.lt hg ((mem_nextL hs).1 h)).2

theorem clo_far (B n mb sb fb c0 : Nat) (lst0 : St → List St) (f : St) (hn : n * 64 ≤ 140737488351232) (hB : B ≤ mb) (hl0 : ∀ t, (lst0 t).length ≤ 2 * n) (hc0 : c0 + 2 * n < maxLen) :
    Clo B n 84 #[.pointer (some ⟨sb, 0, none⟩), .pointer (some ⟨fb, 0, none⟩)] (fun L => L.Nodup ∧ L.length ≤ 2 * n)
      (fun K L w => ∃ cnt hd, Back n (fun b => K b ∨ b = sb ∨ b = fb) mb cnt hd (fun t => lst0 t ++ if t ∈ L then [f] else []) w ∧ RowC w sb 92 [.map (some mb)] ∧ RowC w fb 66 [.int .i64 (f.1 : Int), .bool f.2] ∧ cnt ≤ c0 + L.length) where
  step := by
    rintro K L s w hs ⟨hnd, hlen⟩ ⟨cnt, hd, hbk, hsb, hfb, hc⟩
    rw [List.length_append] at hlen
    have hlen1 : L.length + 1 ≤ 2 * n := hlen
    have hsL : s ∉ L := fun h => by
      rw [List.nodup_append] at hnd
      exact hnd.2.2 s h s (by simp) rfl
    have hls : lst0 s ++ (if s ∈ L then [f] else []) = lst0 s := by rw [if_neg hsL, List.append_nil]
    refine (bapp_any n _ mb cnt sb fb hd _ s f w hn hs (by omega) (by rw [hls]; have := hl0 s; omega) hbk hsb hfb).mono ?_
    rintro e w' ⟨rfl, ⟨hd', hb'⟩, ht⟩
    have hT : ∀ b, (K b ∨ b = sb ∨ b = fb) → b < w.heap.size ∧ ¬ (b = mb ∨ ∃ off, (hd s).1 = some ⟨b, off, none⟩) := fun b hb => by
      obtain ⟨h1, h2, h3⟩ := hbk.kx b hb
      exact ⟨h1, fun h => h.elim h2 fun ⟨off, e⟩ => h3 s off hs e⟩
    have hml := hbk.map.lt
    refine ⟨rfl, ⟨cnt + 1, hd', hb'.congr fun t _ => ?_, hsb.turn ht (hT sb (.inr (.inl rfl))).2, hfb.turn ht (hT fb (.inr (.inr rfl))).2, by rw [List.length_append]; show cnt + 1 ≤ c0 + (L.length + 1); omega⟩, ht.below (by omega) fun x hx h => ?_, fun b hb => ht.block b (hT b (.inl hb)).1 (hT b (.inl hb)).2⟩
    · show (if t = s then (lst0 s ++ (if s ∈ L then [f] else [])) ++ [f] else lst0 t ++ (if t ∈ L then [f] else [])) = lst0 t ++ (if t ∈ L ++ [s] then [f] else [])
      by_cases h : t = s
      · subst h
        rw [if_pos rfl, hls, if_pos (show t ∈ L ++ [t] by simp)]
      · rw [if_neg h]
        congr 1
        by_cases h2 : t ∈ L
        · rw [if_pos h2, if_pos (show t ∈ L ++ [s] by simp [h2])]
        · rw [if_neg h2, if_neg (show ¬ t ∈ L ++ [s] by simp [h2, h])]
    · rcases h with h | ⟨off, e⟩
      · omega
      · have := (hbk.row hs e).1; omega
  ent := enters_of Try.func84 (by kernel_rfl) rfl
  grow := by
    rintro K L w w' ⟨cnt, hd, hbk, hsb, hfb, hc⟩ hb
    refine ⟨cnt, hd, (hbk.step hb).weak fun b h => ?_, hsb.below' hb, hfb.below' hb, hc⟩
    rcases h with (h | h) | h | h
    · exact .inl (.inl h)
    · exact .inr h
    · exact .inl (.inr (.inl h))
    · exact .inl (.inr (.inr h))
  weak := by
    rintro K K' L w ⟨cnt, hd, hbk, hsb, hfb, hc⟩ hk
    exact ⟨cnt, hd, hbk.weak fun b h => h.elim (fun h => .inl (hk b h)) .inr, hsb, hfb, hc⟩
  bnd := by
    rintro K L w b ⟨cnt, hd, hbk, hsb, hfb, hc⟩ hk
    exact (hbk.kx b (.inl hk)).1

theorem MapS.ins {w : World} {b n : Nat} {g : St → Option Int} (h : MapS 66 3 w b n g) (hn : n < maxLen) {s : St} (hok : okS s) (c : Int) (hwc : (Lit.int .i64 c).wf = true) :
    ∃ w', (Instr.mapUpdate 63 (.map (some b)) (.agg #[.int .i64 (s.1 : Int), .bool s.2]) (.int .i64 c)).run Try.prog w = .ok () w' ∧ MapS 66 3 w' b (n + 1) (putS g s c) ∧ w.grownBy w' (some b) := by
  obtain ⟨D, hD, q⟩ := h
  obtain ⟨w', h1, h2, h3⟩ := hD.update law66 Try.underlying63 hn (keyOf_sV hok) (plainElem_int Try.underlying3 hwc)
  refine ⟨w', h1, MapF.congr ⟨_, h2, fun y => ?_⟩ (putF_liftS g hok c), h3⟩
  unfold putF
  by_cases hy : y = kS s
  · subst hy
    rw [if_pos rfl, Maps.has_put_same hD.isMap (law66.key (keyOf_sV hok)), Maps.atKey_put_same hD.isMap (law66.key (keyOf_sV hok))]
    exact ⟨rfl, rfl⟩
  · rw [if_neg hy, Maps.has_put_other hy, Maps.atKey_put_other hy]
    exact q y
/-- a map of distances, as Go holds it -/
def intO (O : St → Option Nat) (s : St) : Option Int := (O s).map fun m => (m : Int)
theorem intO_some {O : St → Option Nat} {s : St} {m : Nat} (h : O s = some m) : intO O s = some (m : Int) := by unfold intO; rw [h]; rfl
theorem intO_none {O : St → Option Nat} {s : St} (h : O s = none) : intO O s = none := by unfold intO; rw [h]; rfl
open Classical in
noncomputable def putO (O : St → Option Nat) (t : St) (m : Nat) : St → Option Nat := fun x => if x = t then some m else O x
theorem putO_int (O : St → Option Nat) (t : St) (m : Nat) (x : St) : putS (intO O) t (m : Int) x = intO (putO O t m) x := by
  unfold putS intO putO
  by_cases h : x = t
  · rw [if_pos h, if_pos h]; rfl
  · rw [if_neg h, if_neg h]
theorem start_O (b : Nat) {u v : Bool} (h : u ≠ v) : (∀ x, putS (putS (fun _ => none) (b, u) 0) (b, v) 0 x = intO (putO (putO (fun _ => none) (b, u) 0) (b, v) 0) x) ∧ (∀ y, putO (putO (fun _ => none) (b, u) 0) (b, v) 0 (b, y) = some 0) ∧ ∀ s m, putO (putO (fun _ => none) (b, u) 0) (b, v) 0 s = some m → s.1 = b := by
  refine ⟨fun x => ?_, fun y => ?_, fun s m e => ?_⟩
  · rw [← putO_int]
    congr 1
    funext y
    rw [← putO_int]
    rfl
  · unfold putO
    by_cases h1 : y = v
    · rw [if_pos (by rw [h1])]
    · rw [if_neg (fun e => h1 (by injection e))]
      have h2 : y = u := by cases y <;> cases u <;> cases v <;> simp_all
      rw [if_pos (by rw [h2])]
  · unfold putO at e
    by_cases h1 : s = (b, v)
    · rw [h1]
    · rw [if_neg h1] at e
      by_cases h2 : s = (b, u)
      · rw [h2]
      · rw [if_neg h2] at e; cases e
theorem cellsS_get : ∀ (l : List St) (j : Nat), j < l.length → (cellsS l)[2 * j]? = some (.int .i64 ((nth l j).1 : Int)) ∧ (cellsS l)[2 * j + 1]? = some (.bool (nth l j).2)
  | [], j, h => by simp at h
  | s :: l, 0, _ => ⟨rfl, rfl⟩
  | s :: l, j + 1, h => by
    have := cellsS_get l j (by simpa using h)
    rw [show nth (s :: l) (j + 1) = nth l j from rfl]
    exact this
/-- the search on its way: what was found, in its order; the queue is what of it stands from place pos on -/
structure Fq (B : Nat) (w0 : World) (ob n : Nat) (A : Option Addr) (k c : Nat) (S : List St) (O : St → Option Nat) (pos : Nat) (w : World) : Prop where
  bel : Below B w0 w
  map : MapS 66 3 w ob S.length (intO O)
  oo : OwnQ w (ob + 1) 66 2 A k c (cellsS (S.drop pos))
  nd : S.Nodup
  mem : ∀ s, s ∈ S ↔ (O s).isSome = true
  bnd : ∀ s, s ∈ S → s.1 < n
  ple : pos ≤ S.length
  lt : B ≤ ob
section
variable {B ob n k c pos : Nat} {w0 w w' : World} {A : Option Addr} {S : List St} {O : St → Option Nat}
theorem Fq.k_eq (h : Fq B w0 ob n A k c S O pos w) : k = S.length - pos := by
  have := h.oo.len
  rw [cellsS_length, List.length_drop] at this
  omega
theorem Fq.size_le (h : Fq B w0 ob n A k c S O pos w) : S.length ≤ 2 * n := states_length h.nd h.bnd
theorem Fq.row (h : Fq B w0 ob n A k c S O pos w) {b off : Nat} (e : A = some ⟨b, off, none⟩) : ob < b ∧ b < w.heap.size := by
  rcases h.oo.at_row with h1 | ⟨g', off', h1, h2, h3⟩
  · rw [e] at h1; cases h1
  · rw [e] at h1; injection h1 with h1; injection h1 with h1; omega
theorem Fq.step (h : Fq B w0 ob n A k c S O pos w) (hb : Below w.heap.size w w') : Fq B w0 ob n A k c S O pos w' := by
  have h1 := h.map.lt
  have h2 := h.lt
  exact ⟨h.bel.trans (hb.mono (by omega)), h.map.below hb, h.oo.below hb, h.nd, h.mem, h.bnd, h.ple, h.lt⟩
theorem Fq.alloc (h : Fq B w0 ob n A k c S O pos w) (o : Obj) : Fq B w0 ob n A k c S O pos (w.alloc o) := h.step ((Below.refl _ _).alloc (Nat.le_refl _) o)
theorem Fq.drewN (h : Fq B w0 ob n A k c S O pos w) (m : Nat) : Fq B w0 ob n A k c S O pos (w.drewN m) := h.step (below_refl_drewN _ _ _)
theorem Fq.drew (h : Fq B w0 ob n A k c S O pos w) : Fq B w0 ob n A k c S O pos w.drew := h.drewN 1
/-- the search at its beginning -/
theorem Fq.start {B : Nat} {w0 w : World} {ob n b : Nat} {O : St → Option Nat} (hbel : Below B w0 w) (hm : MapS 66 3 w ob 2 (intO O)) (hO1 : ∀ u, O (b, u) = some 0) (hO2 : ∀ s m, O s = some m → s.1 = b) (hb : b < n) (hlt : B ≤ ob) (hB : B ≤ w.heap.size) :
    Fq B w0 ob n (some ⟨w.heap.size, 0, none⟩) 2 2 [(b, false), (b, true)] O 0 (w.alloc (.cells #[.int .i64 (b : Int), .bool false, .int .i64 (b : Int), .bool true] 66)) := by
  have hr := RowC.new w 66 [.int .i64 (b : Int), .bool false, .int .i64 (b : Int), .bool true]
  have hml := hm.lt
  refine ⟨hbel.alloc hB _, hm.alloc _, ⟨rfl, .inr ⟨w.heap.size, 0, _, rfl, by omega, hr, Nat.le_refl _, by unfold maxLen; omega, by simp, rfl⟩⟩, by simp, fun s => ?_, fun s hs => ?_, by simp, hlt⟩
  · constructor
    · intro h; simp at h; rcases h with rfl | rfl <;> rw [hO1] <;> rfl
    · intro h
      obtain ⟨m, hm⟩ := Option.isSome_iff_exists.1 h
      have := hO2 s m hm
      obtain ⟨q, u⟩ := s
      simp only at this
      subst this
      cases u <;> simp
  · simp at hs; rcases hs with rfl | rfl <;> exact hb
/-- behind a state's being found -/
theorem Fq.found (h : Fq B w0 ob n A k c S O pos w) {t : St} (ht : t.1 < n) (hO : O t = none) {m : Nat} {A9 : Option Addr} {c9 : Nat} {w1 : World} (hm : MapS 66 3 w1 ob (S.length + 1) (putS (intO O) t (m : Int))) (hg : w.grownBy w1 (some ob))
    {o : Obj} {w9 : World} (ho : OwnQ w9 (ob + 1) 66 2 A9 (k + 1) c9 (cellsS (S.drop pos) ++ [.int .i64 (t.1 : Int), .bool t.2])) (htn : Turn (w1.alloc o) w9 (fun b => ∃ off, A = some ⟨b, off, none⟩)) :
    Fq B w0 ob n A9 (k + 1) c9 (S ++ [t]) (putO O t m) pos w9 := by
  have hobl := hm.lt
  have hlt := h.lt
  have h0 := h.map.lt
  have hrow := fun (b off : Nat) => h.row (b := b) (off := off)
  have htS : t ∉ S := fun hs => by have := (h.mem t).1 hs; rw [hO] at this; cases this
  have hb1 : Below B w0 w1 := h.bel.grown hg (by omega) (fun g e => by cases e; exact h.lt)
  refine ⟨(hb1.alloc (by have := hg.size; omega) o).trans (htn.below (by have := hg.size; simp; omega) fun x hx ⟨off, e⟩ => by have := (hrow x off e).1; omega), ?_, ?_, ?_, fun s => ?_, fun s hs => ?_, by rw [List.length_append]; have := h.ple; omega, h.lt⟩
  · rw [List.length_append]
    exact ((hm.alloc o).turn htn (fun ⟨off, e⟩ => by have := (hrow ob off e).1; omega)).congr (putO_int O t m)
  · rw [List.drop_append_of_le_length h.ple, cellsS_append]; exact ho
  · rw [List.nodup_append]
    exact ⟨h.nd, by simp, fun a ha b hb => by rw [List.mem_singleton] at hb; subst hb; rintro rfl; exact htS ha⟩
  · unfold putO
    rw [List.mem_append, List.mem_singleton, h.mem]
    by_cases e : s = t
    · rw [if_pos e]; simp [e]
    · rw [if_neg e]; simp [e]
  · rcases List.mem_append.1 hs with hs | hs
    · exact h.bnd s hs
    · rw [List.mem_singleton] at hs; subst hs; exact ht
end
/-- the first one of the queue is taken off -/
theorem Bf.pop' {G : List (List Nat)} {Z Ab : Nat → Prop} {b : Nat} {O : St → Option Nat} {q1 q2 : List St} {d : Nat} (h : Bf G Z Ab b O q1 q2 d) {s : St} {R : List St} (e : s :: R = q1 ++ q2) : ∃ q1' q2' d', BfIn G Z Ab b O q1' q2' d' s [] ∧ R = q1' ++ q2' := by
  cases q1 with
  | cons x q1 =>
    injection e with e1 e2
    subst e1
    exact ⟨q1, q2, d, h.pop, e2⟩
  | nil =>
    rw [List.nil_append] at e
    subst e
    exact ⟨R, [], d + 1, h.turn.pop, by simp⟩
end Go.Proofs.Ytdlnglffimcopaa
