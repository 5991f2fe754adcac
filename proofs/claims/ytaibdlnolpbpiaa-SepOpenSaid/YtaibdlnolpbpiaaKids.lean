/- dag.children, walked: of each point the points that hang on it. Conditions: the parents read, are points, none twice. -/
import Derived.Test.YtaibdlnolpbpiaaOwn
import Derived.IntWalk
namespace Go.Proofs.Ytaibdlnolpbpiaa
open Go.RowKit

/-- the children of p among the points below i -/
def kidsUp (G : List (List Nat)) (i p : Nat) : List Nat := (List.range i).filter fun j => (nth G j).contains p
/-- the children of each point -/
def kids (G : List (List Nat)) : List (List Nat) := (List.range G.length).map (kidsUp G G.length)
theorem kids_length (G : List (List Nat)) : (kids G).length = G.length := by simp [kids]
theorem nth_kids {G : List (List Nat)} {p : Nat} (h : p < G.length) : nth (kids G) p = kidsUp G G.length p := by
  unfold kids; rw [nth_map _ (by simpa using h), nth_eq (by simpa using h)]; simp
theorem mem_kids {G : List (List Nat)} {p c : Nat} (h : p < G.length) : c ∈ nth (kids G) p ↔ c < G.length ∧ p ∈ nth G c := by
  rw [nth_kids h]; unfold kidsUp; rw [List.mem_filter, List.mem_range]; simp
theorem kids_nodup {G : List (List Nat)} {p : Nat} (h : p < G.length) : (nth (kids G) p).Nodup := by
  rw [nth_kids h]; exact List.nodup_range.filter _
theorem good_kids (G : List (List Nat)) : GoodG (kids G) := by
  intro i hi p hp
  rw [kids_length] at hi ⊢
  exact ((mem_kids hi).1 hp).1
/-- .. as far as the first q parents of point i -/
def kidsTo (G : List (List Nat)) (i q p : Nat) : List Nat := kidsUp G i p ++ if ((nth G i).take q).contains p then [i] else []
theorem kidsTo_zero (G : List (List Nat)) (i p : Nat) : kidsTo G i 0 p = kidsUp G i p := by simp [kidsTo]
theorem kidsTo_full {G : List (List Nat)} {i m : Nat} (h : (nth G i).length = m) (p : Nat) : kidsTo G i m p = kidsUp G (i + 1) p := by
  unfold kidsTo kidsUp
  rw [List.take_of_length_le (by omega), List.range_succ, List.filter_append]
  congr 1
  simp [List.filter_cons]
theorem kidsTo_succ {G : List (List Nat)} {i q : Nat} (hn : (nth G i).Nodup) (hq : q < (nth G i).length) (x : Nat) :
    kidsTo G i (q + 1) x = if x = nth (nth G i) q then kidsTo G i q (nth (nth G i) q) ++ [i] else kidsTo G i q x := by
  unfold kidsTo
  rw [take_snoc hq]
  have hnot : ((nth G i).take q).contains (nth (nth G i) q) = false := by
    have := nodup_dup hn
    rw [← Bool.not_eq_true]
    intro h
    have h2 := dup_up hq (l := nth G i) h
    rw [h2] at this; cases this
  by_cases hx : x = nth (nth G i) q
  · subst hx
    rw [if_pos rfl, hnot]
    simp
  · rw [if_neg hx]
    have : (((nth G i).take q) ++ [nth (nth G i) q]).contains x = ((nth G i).take q).contains x := by
      rw [Bool.eq_iff_iff]; simp [hx]
    rw [this]
theorem kidsTo_length (G : List (List Nat)) (i q p : Nat) : (kidsTo G i q p).length ≤ i + 1 := by
  unfold kidsTo kidsUp
  rw [List.length_append]
  have h1 := List.length_filter_le (fun j => (nth G j).contains p) (List.range i)
  rw [List.length_range] at h1
  have h2 : (if ((nth G i).take q).contains p then [i] else []).length ≤ 1 := by split <;> simp
  omega

set_option maxRecDepth 100000 in
set_option maxHeartbeats 1600000 in
theorem children_any (A : Option Addr) (n c : Nat) (G : List (List Nat)) (w : World) (h : Rows eN w A n G) (hg : GoodG G) (hd : ∀ i, i < n → (nth G i).Nodup) (hn : n * 24 ≤ 140737488351232) :
    Calls Try.prog 57 #[.slice A n c] w fun e w' => ∃ B d, e = .returned (.slice B n d) ∧ RowsF w.heap.size eN w' B n (kids G) ∧ Below w.heap.size w w' := by
  have hbig := h.big
  have HI := Lib.hid (And.intro h.len (And.intro hg hd)); clear hg hd
  obtain ⟨wa, hwa⟩ : ∃ wa : World, wa = w := ⟨_, rfl⟩
  subst hwa
  go_enter Try.func57, Try.ntmps57
  go_wp2_with (first
    | (with_reducible refine wpList_mk _ eiRows eS (none, 0, 0) rfl rfl _ _ rfl n rfl rfl (by omega) ?_)
    | fail)
  intro w1 hrow1 hb1
  have hO := Owns.start (enc := eN) (e := 3) hrow1
  have HO := Lib.hid (And.intro hO hb1); clear hO hb1 hrow1
  generalize hp : wa.heap.size = p
  go_wp2_with fail
  go_loopw [13] (fun i wr => ∃ (k : Nat) (vs : List (Option Addr × Nat × Nat)), i = .int .i64 (k : Nat) ∧ k ≤ n ∧ Owns eN wr p 23 3 n vs (kidsUp G k) ∧ Below p wa wr) (fun i _ => n - (intOf i).toNat)
  case atStart => exact ⟨0, _, rfl, Nat.zero_le _, by rw [← hp]; exact HO.out.1, by rw [← hp]; exact HO.out.2⟩
  case round =>
    obtain ⟨k, vs, rfl, hk, hown, hbl⟩ := hrel
    obtain ⟨wb, hwb⟩ : ∃ wb : World, wb = wr := ⟨_, rfl⟩
    subst hwb
    by_cases hlt : k < n
    · obtain ⟨b, off, B, m, d, rfl, hbs, g0, hrow⟩ := h.row hlt
      have g1 := ((keeps hbl).1 b (off + k) (by omega)).trans g0
      have hbm := hrow.big
      have HL := Lib.hid (And.intro hrow hbl); clear hbl hrow g0
      have hown' : Owns eN wb p 23 3 n vs (kidsTo G k 0) := by rw [funext (kidsTo_zero G k)]; exact hown
      clear hown
      go_wp2_with fail
      go_loopw [20] (fun j wr => ∃ (q : Nat) (vs : List (Option Addr × Nat × Nat)), j = .int .i64 (q : Nat) ∧ q ≤ m ∧ Owns eN wr p 23 3 n vs (kidsTo G k q) ∧ Below p wa wr) (fun j _ => m - (intOf j).toNat)
      case atStart => exact ⟨0, vs, rfl, Nat.zero_le _, hown', HL.out.2⟩
      case round =>
        obtain ⟨q, vt, rfl, hq, hown, hbl⟩ := hrel
        obtain ⟨wc, hwc⟩ : ∃ wc : World, wc = wr := ⟨_, rfl⟩
        subst hwc
        by_cases hqm : q < m
        · obtain ⟨b2, off2, rfl, hb2, hc⟩ := (HL.out.1.below (Nat.le_of_eq hp) hbl).at' (by omega)
          have hql : q < (nth G k).length := by rw [HL.out.1.len]; exact hqm
          have g2 := hc q hqm
          have hs2 : nth (nth G k) q < n := by have := HI.out.2.1 k (by rw [HI.out.1]; exact hlt) _ (nth_mem hql); rw [HI.out.1] at this; exact this
          have hsucc := kidsTo_succ (HI.out.2.2 k hlt) hql
          have hlen := kidsTo_length G k q (nth (nth G k) q)
          have HS := Lib.hid hsucc; clear hsucc hc hql
          generalize hs : nth (nth G k) q = s at *
          have g3 := hown.cell hs2
          have f3 := hown.row.frozen s
          have hos := (hown.own s hs2).alloc (.cells #[.int .i64 (k : Int)] 3)
          have hol := hos.length
          have hHO := Lib.hid (And.intro hown hbl)
          have hpz := hbl.size
          have hpl := hown.row.lt
          clear hown hbl hs
          go_wp2_with (first
            | (at_builtin; refine wpList_app _ eiInt eN one_eN rfl _ _ rfl (p + 1) _ _ _ _ rfl hos _ _ _ _ rfl (Sl.one (enc := eN) _ _ _) (by omega) (by simp; omega) ?_)
            | fail)
          intro A9 c9 w9 ho9 hg9 _ hd9
          have ho10 := hHO.out.1.append hs2 (by simpa using ho9) (grown_trans (World.grownBy_alloc wc (.cells #[.int .i64 (k : Int)] 3) _) hg9) (hd9.imp id fun e => ⟨_, e, by simp⟩)
          have hb10 := ((hHO.out.2.alloc (by omega) (.cells #[.int .i64 (k : Int)] 3)).grown hg9 (by simp; omega) (fun b e => by have := (hHO.out.1.own s hs2).at_row; rcases this with e2 | ⟨g', e2, e3, _⟩ <;> rw [e2] at e <;> cases e; exact Nat.le_trans (Nat.le_succ p) e3)).setCell (p := ⟨p, s, none⟩) (Nat.le_refl p) (.slice A9 ((nth vt s).2.1 + 1) c9)
          have hr9 : RowAt eS w9 p 23 vt [] := (hHO.out.1.row.alloc _).grown hg9 fun e => by have := (hHO.out.1.own s hs2).at_row; rcases this with e2 | ⟨g', e2, e3, _⟩ <;> rw [e2] at e <;> cases e; exact absurd e3 (Nat.not_succ_le_self _)
          have c9' := hr9.cell (j := s) (by rw [hHO.out.1.len]; exact hs2)
          have f9 := hr9.frozen s
          have H9 := Lib.hid (And.intro ho10 hb10); clear ho10 hb10 hr9 ho9 hg9 hd9
          go_wp2_with fail
          exact ⟨⟨q + 1, _, by go_num, by omega, by rw [funext HS.out]; exact H9.out.1, H9.out.2⟩, by simp [intOf]; omega⟩
        · obtain rfl : q = m := by omega
          have hfull : Owns eN wc p 23 3 n vt (kidsUp G (k + 1)) := by rw [← funext (kidsTo_full (HL.out.1.len))]; exact hown
          have HC := Lib.hid (And.intro hfull hbl); clear hown hbl hfull
          go_wp2_with fail
          exact ⟨⟨k + 1, vt, by go_num, by omega, HC.out.1, HC.out.2⟩, by simp [intOf]; omega⟩
    · obtain rfl : k = n := by omega
      have hr : RowsF p eN wb (some ⟨p, 0, none⟩) k (kids G) := by
        have := hown.rowsF hbig (fun q hq => by
          have := kidsTo_length G k 0 q
          rw [kidsTo_zero] at this
          omega)
        unfold kids
        rw [HI.out.1]
        exact this
      have HC := Lib.hid (And.intro hr hbl); clear hown hbl hr
      go_wp2_with fail
      go_ret
      exact ⟨_, _, rfl, by rw [hp]; exact HC.out.1, by rw [hp]; exact HC.out.2⟩
end Go.Proofs.Ytaibdlnolpbpiaa
