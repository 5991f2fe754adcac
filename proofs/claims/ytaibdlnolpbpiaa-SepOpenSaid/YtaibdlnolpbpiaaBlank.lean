/- sep.Blanket, walked: the points that keep all others away, rising, or the error. Conditions: the parents read, within Go's bound. -/
import Derived.Test.YtaibdlnolpbpiaaLook
import Derived.Deep.RegionWith
namespace Go.Proofs.Ytaibdlnolpbpiaa
open Go.RowKit

/-- a slice of ints does not lie in a box that holds a slice's head -/
theorem Sl.setBox {w : World} {A : Option Addr} {n : Nat} {xs : List Int} (h : Sl (Value.int .i64) w A n xs) {g : Nat} {e : TypeId} {B : Option Addr} {m d : Nat} (hb : RowC w g e [.slice B m d]) (v : Value) : Sl (Value.int .i64) (w.setCell ⟨g, 0, none⟩ v) A n xs :=
  ⟨h.len, h.big, fun hn => by
    obtain ⟨b, off, e1, hlt, hc⟩ := h.at' hn
    have hne : b ≠ g := by
      rintro rfl
      have h1 := hc 0 hn
      rw [hb.cell (off + 0)] at h1
      rcases off with _ | off
      · simp at h1
      · simp at h1
    refine ⟨b, off, e1, by simpa [World.setCell] using hlt, fun j hj => ?_⟩
    rw [← hc j hj]
    simp only [World.cell?, Below.heap_setCell w ⟨g, 0, none⟩ v b hne]⟩
theorem ISet.setBox {w : World} {C : Option Addr} {k : Nat} {l : List Int} (h : ISet w C k l) {g : Nat} {e : TypeId} {B : Option Addr} {m d : Nat} (hb : RowC w g e [.slice B m d]) (v : Value) : ISet (w.setCell ⟨g, 0, none⟩ v) C k l := by
  obtain ⟨xs, h1, h2⟩ := h; exact ⟨xs, h1.setBox hb v, h2⟩

/-- is a point in another one's blanket? -/
def Bl (G : List (List Nat)) (a p : Nat) : Prop := p ≠ a ∧ (p ∈ nth G a ∨ ∃ c, c < G.length ∧ a ∈ nth G c ∧ (p = c ∨ p ∈ nth G c))
/-- what is gathered when q children are done -/
def blTo (G : List (List Nat)) (a q : Nat) : List Int := castL (nth G a) ++ ((nth (kids G) a).take q).flatMap fun c : Nat => (c : Int) :: castL (nth G c)
theorem blTo_succ {G : List (List Nat)} {a q : Nat} (h : q < (nth (kids G) a).length) (x : Int) : x ∈ (blTo G a q ++ [((nth (nth (kids G) a) q : Nat) : Int)]) ++ castL (nth G (nth (nth (kids G) a) q)) ↔ x ∈ blTo G a (q + 1) := by
  unfold blTo
  rw [take_snoc h, List.flatMap_append]
  simp only [List.mem_append, List.flatMap_cons, List.flatMap_nil, List.append_nil, List.mem_cons]
  constructor <;> intro hx <;> grind
theorem blTo_in {G : List (List Nat)} (hg : GoodG G) {a q : Nat} (ha : a < G.length) (x : Int) (hx : x ∈ blTo G a q) : 0 ≤ x ∧ x < (G.length : Int) := by
  unfold blTo at hx
  rw [List.mem_append, List.mem_flatMap] at hx
  have hc : ∀ (c : Nat), c < G.length → ∀ y : Int, y ∈ castL (nth G c) → 0 ≤ y ∧ y < (G.length : Int) := fun c hc y hy => by
    obtain ⟨m, hm, rfl⟩ := List.mem_map.1 hy
    have := hg c hc m hm
    omega
  rcases hx with hx | ⟨c, hc1, hc2⟩
  · exact hc a ha x hx
  · have h1 := ((mem_kids ha).1 (List.mem_of_mem_take hc1)).1
    rcases List.mem_cons.1 hc2 with rfl | hc2
    · omega
    · exact hc c h1 x hc2
theorem blTo_full {G : List (List Nat)} {a : Nat} (ha : a < G.length) (p : Nat) : ((p : Int) ∈ (blTo G a (nth (kids G) a).length).filter fun y => y != (a : Int)) ↔ Bl G a p := by
  unfold blTo Bl
  rw [List.take_of_length_le (Nat.le_refl _), List.mem_filter, List.mem_append, List.mem_flatMap, mem_castL]
  simp only [bne_iff_ne, ne_eq, List.mem_cons, mem_castL]
  constructor
  · rintro ⟨h1, h2⟩
    refine ⟨fun e => h2 (by rw [e]), ?_⟩
    rcases h1 with h1 | ⟨c, h3, h4⟩
    · exact .inl h1
    · obtain ⟨c1, c2⟩ := (mem_kids ha).1 h3
      exact .inr ⟨c, c1, c2, h4.imp (fun e => by omega) id⟩
  · rintro ⟨h1, h2⟩
    refine ⟨?_, fun e => h1 (by omega)⟩
    rcases h2 with h2 | ⟨c, c1, c2, h4⟩
    · exact .inl h2
    · exact .inr ⟨c, (mem_kids ha).2 ⟨c1, c2⟩, h4.imp (fun e => by omega) id⟩
def BlankPost (w : World) (Ps : List (List Int)) (a : Int) (e : Ending) (w' : World) : Prop :=
  Below w.heap.size w w' ∧ ∃ A k c, e = .returned (.tuple #[.slice A k c, .int .i64 (lookE Ps [] [a])]) ∧ (lookE Ps [] [a] ≠ 0 → A = none ∧ k = 0 ∧ c = 0) ∧
    (lookE Ps [] [a] = 0 → OwnR (Value.int .i64) w' w.heap.size 3 A k c (castL (ptsOf Ps.length (Bl (toG Ps) a.toNat))))

set_option maxRecDepth 100000 in
set_option maxHeartbeats 400000 in
theorem blanket_any (A : Option Addr) (n c : Nat) (Ps : List (List Int)) (a : Int) (w : World) (h : Rows (Value.int .i64) w A n Ps) (hn : n * 24 ≤ 140737488351232) :
    Calls Try.prog 25 #[.slice A n c, .int .i64 a] w (BlankPost w Ps a) := by
  have HL := Lib.hid (And.intro h.len h)
  obtain ⟨wa, hwa⟩ : ∃ wa : World, wa = w := ⟨_, rfl⟩
  subst hwa
  have h0 := h.below (Nat.le_refl _) ((Below.refl _ _).alloc (Nat.le_refl _) (.cells #[.int .i64 a] 3))
  have hb0 := (Below.refl wa.heap.size wa).alloc (Nat.le_refl _) (.cells #[.int .i64 a] 3)
  have HB0 := Lib.hid hb0; clear hb0 h
  go_enter Try.func25, Try.ntmps25
  go_wp2_with fail
  refine (look_any A none (some ⟨wa.heap.size, 0, none⟩) n c 0 0 1 1 Ps [] [a] _ h0 (Sl.nil _ _ _) (Sl.one (enc := Value.int .i64) wa 3 a) hn (by omega)).mono ?_
  rintro e w1 ⟨hb, A1, na, c1, B1, nb, cb, C1, k1, cc1, D1, k2, cd1, rfl, hview⟩
  have hbl := HB0.out.trans (hb.mono (by simp))
  clear hb h0
  by_cases hE : lookE Ps [] [a] = 0
  · obtain ⟨hA, hna, hc1, hnb, hV⟩ := hview hE
    obtain rfl : A = A1 := hA.symm
    obtain rfl : c = c1 := hc1.symm
    obtain rfl : n = na := hna.symm
    obtain rfl : n = nb := hnb.symm
    clear hview
    obtain ⟨hck, _, hnm⟩ := lookE_inv hE
    have hrng := inRow_iff.1 hnm a (by simp)
    rw [HL.out.1] at hrng
    obtain ⟨x, rfl⟩ : ∃ x : Nat, a = (x : Int) := ⟨a.toNat, by omega⟩
    have hx : x < n := by omega
    obtain ⟨hinR, hdup, _⟩ := checkP_ok hck
    have hnod := nodup_toG hinR hdup
    have hgood := good_toG hinR
    have hGl : (toG Ps).length = n := by rw [toG_length]; exact HL.out.1
    have hrl : ∀ i, i < n → (nth (toG Ps) i).length ≤ n := fun i hi => by
      rw [← hGl]; exact nodup_lt_length (hnod i (by rw [hGl]; exact hi)) (hgood i (by rw [hGl]; exact hi))
    have HE := Lib.hid (And.intro hE (And.intro hgood (And.intro hGl (And.intro hck hrl))))
    rw [hE]
    clear hE hgood hnm hrng hinR hck hGl hdup hnod hrl
    have hV2 := Stable.below (P := fun w => View w (toG Ps) [] A B1 C1 D1 n k1 k2) ((Below.refl _ w1).alloc (Nat.le_refl _) (.cells #[.slice A n c, .slice B1 n cb, .slice C1 k1 cc1, .slice D1 k2 cd1] 57)) hV
    have hbx := RowC.new w1 57 [.slice A n c, .slice B1 n cb, .slice C1 k1 cc1, .slice D1 k2 cd1]
    have hbl2 := hbl.alloc hbl.size (.cells #[.slice A n c, .slice B1 n cb, .slice C1 k1 cc1, .slice D1 k2 cd1] 57)
    obtain ⟨bp, op, P3, m3, d3, rfl, hbp, g3, hrow3⟩ := hV2.par.row hx
    have hbx1 := hbx.cell 1
    clear hV
    have H2 := Lib.hid (And.intro hV2 (And.intro hbx hbl2)); clear hV2 hbx hbl2 hbl
    go_wp2_with fail
    have hm3 : m3 * 8 ≤ 140737488355328 := by have h1 := HE.out.2.2.2.2 x hx; rw [hrow3.len] at h1; omega
    refine (of_I P3 m3 d3 (castL (nth (toG Ps) x)) _ hrow3.toInt hm3).mono ?_
    rintro e w3 ⟨C3, k3, c3, rfl, hset, hk3, hb3⟩
    have hV3 := Stable.below (P := fun w => View w (toG Ps) [] (some ⟨bp, op, none⟩) B1 C1 D1 n k1 k2) hb3 H2.out.1
    have hbx3 := H2.out.2.1.below' hb3
    have hbl3 := H2.out.2.2.trans (hb3.mono H2.out.2.2.size)
    have hlb := RowC.new w3 55 [.slice C3 k3 c3]
    have hset4 := hset.1.below (Nat.le_refl _) ((Below.refl _ w3).alloc (Nat.le_refl _) (.cells #[.slice C3 k3 c3] 55))
    obtain ⟨bk, ok, P5, m5, d5, rfl, hbk, g5', hrow5⟩ := hV3.kid.row hx
    have g5 := (((Below.refl w3.heap.size w3).alloc (Nat.le_refl _) (.cells #[.slice C3 k3 c3] 55)).cell (p := ⟨bk, ok + x, none⟩) hbk).trans g5'
    have hbx41 := (hbx3.alloc (.cells #[.slice C3 k3 c3] 55)).cell 1
    have hbw4 := (Below.refl w3.heap.size w3).alloc (Nat.le_refl _) (.cells #[.slice C3 k3 c3] 55)
    have hm5 := hrow5.big
    have hrow5l := hrow5.len
    have H4 := Lib.hid (And.intro hV3 (And.intro hbx3 (And.intro hbl3 (And.intro hlb (And.intro hset4 (And.intro hrow5 (And.intro hbw4 hrow5l))))))); clear hV3 hbx3 hbl3 hlb hset4 hset hb3 hbw4 hrow5 hrow5l
    clear hbx1 g5'
    go_wp2_with fail
    generalize w3.alloc (.cells #[.slice C3 k3 c3] 55) = w4 at *
    clear g5 hbx41
    generalize hlbe : w3.heap.size = lb at *
    go_loopw [32] (fun i wr => ∃ (q k d : Nat) (B : Option Addr), i = .int .i64 (q : Nat) ∧ q ≤ m5 ∧ RowC wr lb 55 [.slice B k d] ∧ ISet wr B k (blTo (toG Ps) x q) ∧ Below lb w3 wr) (fun i _ => m5 - (intOf i).toNat)
    case atStart => exact ⟨0, k3, c3, C3, rfl, Nat.zero_le _, H4.out.2.2.2.1, H4.out.2.2.2.2.1.congr (fun y => by simp [blTo]), H4.out.2.2.2.2.2.2.1⟩
    case round =>
      obtain ⟨q, k, d, B, rfl, hq, hbox, hset, hbl⟩ := hrel
      obtain ⟨wb, hwb⟩ : ∃ wb : World, wb = wr := ⟨_, rfl⟩
      subst hwb
      have hkn : k ≤ n := by
        refine hset.length_lt fun y hy => ?_
        have := blTo_in HE.out.2.1 (by rw [HE.out.2.2.1]; exact hx) y hy
        rw [HE.out.2.2.1] at this; exact this
      have rl := hbox.cell 0
      have hltb := hbox.lt
      by_cases hqm : q < m5
      · obtain ⟨b7, o7, rfl, hb7, hc7⟩ := (H4.out.2.2.2.2.2.1.below (Nat.le_of_eq hlbe) hbl).at' (by omega)
        have g7 := hc7 q hqm
        have hql : q < (nth (kids (toG Ps)) x).length := by rw [H4.out.2.2.2.2.2.2.2]; exact hqm
        have hcn := ((mem_kids (G := toG Ps) (by rw [HE.out.2.2.1]; exact hx)).1 (nth_mem hql)).1
        rw [HE.out.2.2.1] at hcn
        have hsucc := blTo_succ (G := toG Ps) (a := x) hql
        have HS := Lib.hid hsucc; clear hsucc hc7 hql
        generalize nth (nth (kids (toG Ps)) x) q = cc at *
        have hV5 := Stable.below (P := fun w => View w (toG Ps) [] (some ⟨bp, op, none⟩) (some ⟨bk, ok, none⟩) C1 D1 n k1 k2) (by rw [hlbe]; exact hbl) H4.out.1
        obtain ⟨bp', op', P8, m8, d8, hpe, hbp8, g8, hrow8⟩ := hV5.par.row hcn
        injection hpe with hpe; injection hpe with e1 e2 _; subst e1 e2
        have hm8 : m8 * 8 ≤ 140737488355328 := by have h1 := HE.out.2.2.2.2 cc hcn; rw [hrow8.len] at h1; omega
        have hm8' : m8 ≤ n := by have h1 := HE.out.2.2.2.2 cc hcn; rw [hrow8.len] at h1; omega
        have hrow8i := hrow8.toInt
        have q1 : (0 : Int) ≤ (cc : Nat) := by omega
        have q2 : ((cc : Nat) : Int) < n := by omega
        have ffl := hbox.frozen 0
        clear hV5 hrow8
        have hsetD : ISet wb.drew B k (blTo (toG Ps) x q) := hset.below (Nat.le_refl _) (below_refl_drewN _ wb 1)
        have hrowD : Sl (Value.int .i64) wb.drew P8 m8 (castL (nth (toG Ps) cc)) := hrow8i.drewN 1
        have hltD : lb < wb.drew.heap.size := hltb
        have hbpD : bp < wb.drew.heap.size := hbp8
        clear hset hrow8i
        go_wp2_with fail
        have chD := Below.refl wb.drew.heap.size wb.drew
        have zD := hltD
        have yD := hbpD
        have rD : wb.drew.cell? ⟨lb, 0, none⟩ = some (.slice B k d) := rl
        have sD : wb.drew.frozen? ⟨lb, 0, none⟩ = false := ffl
        have tD : wb.drew.cell? ⟨bp, op + cc, none⟩ = some (.slice P8 m8 d8) := g8
        go_region_with (first
          | (go_at_call 52; first
              | ((with_reducible refine (with_I B k d _ (cc : Int) _ hsetD (by omega)).mono ?_); rintro e wA ⟨BA, kA, dA, rfl, hsA, hkA, hbA⟩; obtain ⟨cA, fA⟩ := keeps hbA; have chA := chD.trans (hbA.mono chD.size); have zA := Nat.lt_of_lt_of_le zD hbA.size; have yA := Nat.lt_of_lt_of_le yD hbA.size; have rA := (cA lb 0 zD).trans rD; have sA := (fA lb 0 zD).trans sD; have tA := (cA bp (op + cc) yD).trans tD; clear cA fA)
              | ((with_reducible refine (with_I B k d _ (cc : Int) _ (hsetD.below (Nat.le_refl _) hbO) (by omega)).mono ?_); rintro e wA ⟨BA, kA, dA, rfl, hsA, hkA, hbA⟩; obtain ⟨cA, fA⟩ := keeps hbA; have chA := chO.trans (hbA.mono chO.size); have zA := Nat.lt_of_lt_of_le zO hbA.size; have yA := Nat.lt_of_lt_of_le yO hbA.size; have rA := (cA lb 0 zO).trans rO; have sA := (fA lb 0 zO).trans sO; have tA := (cA bp (op + cc) yO).trans tO; clear cA fA; have hsO := hsO.below (Nat.le_refl _) hbA))
          | (go_at_call 41; first
              | ((with_reducible refine (of_I P8 m8 d8 _ _ hrowD hm8).mono ?_); rintro e wO ⟨BO, kO, dO, rfl, hsO, hkO, hbO⟩; obtain ⟨cO, fO⟩ := keeps hbO; have chO := chD.trans (hbO.mono chD.size); have zO := Nat.lt_of_lt_of_le zD hbO.size; have yO := Nat.lt_of_lt_of_le yD hbO.size; have rO := (cO lb 0 zD).trans rD; have sO := (fO lb 0 zD).trans sD; have tO := (cO bp (op + cc) yD).trans tD; clear cO fO; have hsO := hsO.1)
              | ((with_reducible refine (of_I P8 m8 d8 _ _ (hrowD.below (Nat.le_refl _) hbA) hm8).mono ?_); rintro e wO ⟨BO, kO, dO, rfl, hsO, hkO, hbO⟩; obtain ⟨cO, fO⟩ := keeps hbO; have chO := chA.trans (hbO.mono chA.size); have zO := Nat.lt_of_lt_of_le zA hbO.size; have yO := Nat.lt_of_lt_of_le yA hbO.size; have rO := (cO lb 0 zA).trans rA; have sO := (fO lb 0 zA).trans sA; have tO := (cO bp (op + cc) yA).trans tA; clear cO fO; have hsO := hsO.1; have hsA := hsA.below (Nat.le_refl _) hbO))
          | (go_at_call 53; first
              | ((with_reducible refine (join_I BA BO kA kO dA dO _ _ _ hsA hsO (by omega)).mono ?_); rintro e wJ ⟨BJ, kJ, dJ, rfl, hsJ, hkJ, hbJ⟩; obtain ⟨cJ, fJ⟩ := keeps hbJ; have chJ := chA.trans (hbJ.mono chA.size); have zJ := Nat.lt_of_lt_of_le zA hbJ.size; have yJ := Nat.lt_of_lt_of_le yA hbJ.size; have rJ := (cJ lb 0 zA).trans rA; have sJ := (fJ lb 0 zA).trans sA; have tJ := (cJ bp (op + cc) yA).trans tA; clear cJ fJ)
              | ((with_reducible refine (join_I BA BO kA kO dA dO _ _ _ hsA hsO (by omega)).mono ?_); rintro e wJ ⟨BJ, kJ, dJ, rfl, hsJ, hkJ, hbJ⟩; obtain ⟨cJ, fJ⟩ := keeps hbJ; have chJ := chO.trans (hbJ.mono chO.size); have zJ := Nat.lt_of_lt_of_le zO hbJ.size; have yJ := Nat.lt_of_lt_of_le yO hbJ.size; have rJ := (cJ lb 0 zO).trans rO; have sJ := (fJ lb 0 zO).trans sO; have tJ := (cJ bp (op + cc) yO).trans tO; clear cJ fJ))
          | fail)
        all_goals
          have hboxJ := (show RowC wb.drew lb 55 [.slice B k d] from hbox).below' chJ
          have hsJ2 := (hsJ.setBox hboxJ (.slice BJ kJ dJ)).congr HS.out
          have hbxJ := hboxJ.put 0 (.slice BJ kJ dJ)
          have hbJ2 : Below lb w3 (wJ.setCell ⟨lb, 0, none⟩ (.slice BJ kJ dJ)) := ((show Below lb w3 wb.drew from below_drewN hbl 1).trans (chJ.mono (Nat.le_of_lt hltD))).setCell (p := ⟨lb, 0, none⟩) (Nat.le_refl _) _
          have HF := Lib.hid (And.intro hsJ2 (And.intro hbxJ hbJ2))
          clear hsJ2 hbxJ hbJ2 hboxJ hsJ chJ chA chO chD hsA hsO hbox hsetD hrowD
          go_wp2_with fail
          exact ⟨⟨q + 1, kJ, dJ, BJ, by go_num, by omega, HF.out.2.1, HF.out.1, HF.out.2.2⟩, by simp [intOf]; omega⟩
      · obtain rfl : q = m5 := by omega
        have HF := Lib.hid (And.intro hset (And.intro hbl hbox)); clear hset hbl hbox
        go_wp2_with fail
        refine (without_I B k d _ (x : Int) _ HF.out.1 (by omega)).mono ?_
        rintro e w7 ⟨B7, k7, d7, rfl, hs7, hb7⟩
        have hk7 : k7 ≤ n := hs7.length_lt fun y hy => by
          have := blTo_in HE.out.2.1 (by rw [HE.out.2.2.1]; exact hx) y (List.mem_filter.1 hy).1
          rw [HE.out.2.2.1] at this; exact this
        have H7 := Lib.hid (And.intro hs7 hb7); clear hs7 hb7
        go_wp2_with fail
        refine (list_I B7 k7 d7 _ _ H7.out.1 (by omega)).mono ?_
        rintro e w8 ⟨A8, c8, xs8, rfl, ho8, ha8, hm8, hb8⟩
        have hbb : Below wa.heap.size wa w8 := ((H4.out.2.2.1.trans (HF.out.2.1.mono (by rw [← hlbe]; exact H4.out.2.2.1.size))).trans (H7.out.2.mono (by have := H4.out.2.2.1.size; have := HF.out.2.1.size; omega))).trans (hb8.mono (by have := H4.out.2.2.1.size; have := HF.out.2.1.size; have := H7.out.2.size; omega))
        have hxs : xs8 = castL (ptsOf n (Bl (toG Ps) x)) := by
          have h1 : ∀ y, y ∈ xs8 ↔ y ∈ castL (ptsOf n (Bl (toG Ps) x)) := fun y => by
            rw [hm8]
            constructor
            · intro hy
              have h2 := blTo_in HE.out.2.1 (by rw [HE.out.2.2.1]; exact hx) y (List.mem_filter.1 hy).1
              rw [HE.out.2.2.1] at h2
              obtain ⟨z, rfl⟩ : ∃ z : Nat, y = (z : Int) := ⟨y.toNat, by omega⟩
              rw [mem_castL, mem_ptsOf]
              refine ⟨by omega, (blTo_full (by rw [HE.out.2.2.1]; exact hx) z).1 ?_⟩
              rw [H4.out.2.2.2.2.2.2.2]; exact hy
            · intro hy
              obtain ⟨z, hz, rfl⟩ := List.mem_map.1 hy
              have := (blTo_full (G := toG Ps) (a := x) (by rw [HE.out.2.2.1]; exact hx) z).2 (mem_ptsOf.1 hz).2
              rw [H4.out.2.2.2.2.2.2.2] at this; exact this
          refine Asc.ext cmpokI ha8 ?_ h1
          unfold castL
          unfold Asc
          rw [List.pairwise_map]
          exact (rising_ptsOf n _).imp fun h => by unfold cmpI; split <;> omega
        have H8 := Lib.hid (And.intro ho8 (And.intro hbb hxs)); clear ho8 hbb hxs hb8 ha8 hm8
        go_wp2_with fail
        go_ret2
        refine ⟨H8.out.2.1, A8, k7, c8, by rw [HE.out.1]; rfl, fun h => absurd HE.out.1 h, fun _ => ?_⟩
        have h9 := H8.out.1
        rw [H8.out.2.2] at h9
        rw [HL.out.1]
        simp only [Int.toNat_natCast]
        exact h9.mono (by have := H4.out.2.2.1.size; have := HF.out.2.1.size; have := H7.out.2.size; omega)
  · have HF := Lib.hid (And.intro hbl hE); clear hbl hview
    go_wp2_with fail
    go_ret2
    exact ⟨HF.out.1.alloc HF.out.1.size _, none, 0, 0, rfl, fun _ => ⟨rfl, rfl, rfl⟩, fun h => absurd h hE⟩
end Go.Proofs.Ytaibdlnolpbpiaa
