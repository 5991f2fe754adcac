/- credencelaw16's roomy, still, twin, kept, own and credenceref14's Same, walked. Conditions: the lists read, within Go's bound; what is written over is the call's own. -/
import Derived.Test.YtaibdlnolpbpiaaOwn
import Derived.Test.YtaibdlnolpbpiaaHeap
import Derived.IntWalk
namespace Go.Proofs.Ytaibdlnolpbpiaa
open Go.RowKit

/-- the marks behind a list -/
abbrev m4 : List Int := [-77, -77, -77, -77]
theorem OwnR.pre' {α : Type} [Inhabited α] {enc : α → Value} {w : World} {base : Nat} {e : TypeId} {A : Option Addr} {n m c : Nat} {xs ys : List α} (h : OwnR enc w base e A m c (xs ++ ys)) (hn : xs.length = n) (hb : m ≤ 140737488351232) : Sl enc w A n xs := by
  have h1 := h.sl hb
  have h2 := h.length
  rw [List.length_append] at h2
  refine ⟨hn, by omega, fun hp => ?_⟩
  obtain ⟨b, off, e1, hlt, hc⟩ := h1.at' (by omega)
  refine ⟨b, off, e1, hlt, fun j hj => ?_⟩
  rw [hc j (by omega), nth_append_left (by omega)]
/-- rows of two kinds are two rows -/
theorem OwnR.kinds {α β : Type} {enc : α → Value} {enc' : β → Value} {w : World} {base base' : Nat} {e e' : TypeId} {A B : Option Addr} {n c m d : Nat} {xs : List α} {ys : List β} (h : OwnR enc w base e A n c xs) (k : OwnR enc' w base' e' B m d ys) (he : e ≠ e') {g : Nat} (hA : A = some ⟨g, 0, none⟩) : B ≠ some ⟨g, 0, none⟩ := by
  intro hB
  rcases h.2 with ⟨h1, _⟩ | ⟨g1, _, c1, h1, _, h2, _⟩
  · injection h1 with h1; rw [hA] at h1; cases h1
  · injection h1 with h1; rw [hA] at h1; injection h1 with h1; injection h1 with h1; subst h1
    rcases k.2 with ⟨k1, _⟩ | ⟨g2, _, c2, k1, _, k2, _⟩
    · injection k1 with k1; rw [hB] at k1; cases k1
    · injection k1 with k1; rw [hB] at k1; injection k1 with k1; injection k1 with k1; subst k1
      rw [h2] at k2
      injection k2 with k2
      injection k2 with _ k2
      exact he k2
theorem OwnR.ownBlock_eq {α : Type} {enc : α → Value} {w : World} {base : Nat} {e : TypeId} {A : Option Addr} {n c : Nat} {xs : List α} (h : OwnR enc w base e A n c xs) {b m d : Nat} (hb : (Value.slice A m d).ownBlock = some b) : A = some ⟨b, 0, none⟩ := by
  rcases h.at_row with h1 | ⟨g', h1, _⟩
  · rw [h1] at hb; cases hb
  · rw [h1] at hb ⊢; injection hb with hb; rw [← hb]

set_option maxRecDepth 100000 in
set_option maxHeartbeats 400000 in
theorem roomy_any (A : Option Addr) (n c : Nat) (xs : List Int) (w : World) (h : Sl (Value.int .i64) w A n xs) (hb : n * 8 ≤ 140737488351232) :
    Calls Try.prog 13 #[.slice A n c] w fun e w' => ∃ A' c', e = .returned (.slice A' n c') ∧ OwnR (Value.int .i64) w' w.heap.size 3 A' (n + 4) c' (xs ++ m4) ∧ Below w.heap.size w w' := by
  have hown0 := OwnR.nil (Value.int .i64) w w.heap.size 3
  obtain ⟨wa, hwa⟩ : ∃ wa : World, wa = w := ⟨_, rfl⟩
  subst hwa
  go_enter Try.func13, Try.ntmps13
  go_wp2_with (first
    | (at_builtin; refine wpList_app _ eiInt (Value.int .i64) (fun _ => rfl) rfl _ _ rfl wa.heap.size _ _ _ _ rfl hown0 _ _ _ _ rfl h (by omega) (Nat.le_refl _) ?_)
    | fail)
  intro A5 c5 w5 ho5 _ hb5 _
  have ho5 : OwnR (Value.int .i64) w5 wa.heap.size 3 A5 n c5 xs := by simpa using ho5
  go_wp2_with fail
  go_loopw [3, 4] (fun v i wr => ∃ (k : Nat) (B : Option Addr) (d : Nat), v = .slice B (n + k) d ∧ i = .int .i64 (k : Nat) ∧ k ≤ 4 ∧ OwnR (Value.int .i64) wr wa.heap.size 3 B (n + k) d (xs ++ List.replicate k (-77)) ∧ Below wa.heap.size wa wr) (fun _ i _ => 4 - (intOf i).toNat)
  case atStart => exact ⟨0, A5, c5, by simp, rfl, by omega, by simpa using ho5, hb5⟩
  case round =>
    obtain ⟨k, B, d, rfl, rfl, hk, ho, hbl⟩ := hrel
    obtain ⟨wb, hwb⟩ : ∃ wb : World, wb = wr := ⟨_, rfl⟩
    subst hwb
    by_cases hlt : k < 4
    · have hz := hbl.size
      have ho1 := ho.alloc (.cells #[.int .i64 (-77)] 3)
      have hb1 := hbl.alloc hz (.cells #[.int .i64 (-77)] 3)
      have HC := Lib.hid hb1; clear hb1 ho hbl
      go_wp2_with (first
        | (at_builtin; refine wpList_app _ eiInt (Value.int .i64) (fun _ => rfl) rfl _ _ rfl wa.heap.size _ _ _ _ rfl ho1 _ _ _ _ rfl (Sl.one _ _ _) (by omega) (by simp; omega) ?_)
        | fail)
      intro A9 c9 w9 ho9 _ hb9 _
      have hb10 := HC.out.trans hb9
      have ho9 : OwnR (Value.int .i64) w9 wa.heap.size 3 A9 (n + k + 1) c9 (xs ++ List.replicate (k + 1) (-77)) := by rw [List.replicate_succ']; simpa using ho9
      have H9 := Lib.hid (And.intro ho9 hb10); clear ho9 hb9 hb10 ho1
      go_wp2_with fail
      exact ⟨⟨k + 1, A9, c9, rfl, by go_num, by omega, H9.out.1, H9.out.2⟩, by simp [intOf]; omega⟩
    · obtain rfl : k = 4 := by omega
      have hcap := ho.cap
      have hcap' : n ≤ d := by omega
      have H9 := Lib.hid (And.intro ho hbl); clear ho hbl
      go_wp2_with fail
      go_ret
      exact ⟨B, d, rfl, H9.out.1, H9.out.2⟩

set_option maxRecDepth 100000 in
set_option maxHeartbeats 800000 in
theorem same_ref (A B : Option Addr) (n m c d : Nat) (xs ys : List Int) (w : World) (h : Sl (Value.int .i64) w A n xs) (k : Sl (Value.int .i64) w B m ys) :
    Calls Try.prog 43 #[.slice A n c, .slice B m d] w fun e w' => e = .returned (.bool (decide (xs = ys))) ∧ ∃ t, w' = w.drewN t := by
  have hbig := h.big
  have hbig2 := k.big
  have HI := Lib.hid (And.intro h.len k.len)
  obtain ⟨wa, hwa⟩ : ∃ wa : World, wa = w := ⟨_, rfl⟩
  subst hwa
  go_enter Try.func43, Try.ntmps43
  by_cases hnm : n = m
  · subst hnm
    go_wp2_with fail
    go_loopw [5] (fun i wr => ∃ j t : Nat, i = .int .i64 (j : Nat) ∧ j ≤ n ∧ xs.take j = ys.take j ∧ wr = wa.drewN t) (fun i _ => n - (intOf i).toNat)
    case atStart => exact ⟨0, 0, rfl, Nat.zero_le _, rfl, rfl⟩
    case round =>
      obtain ⟨j, t, rfl, hj, htk, hwr⟩ := hrel
      obtain ⟨wb, hwb⟩ : ∃ wb : World, wb = wr := ⟨_, rfl⟩
      subst hwb
      by_cases hlt : j < n
      · have h1 : Sl (Value.int .i64) wb A n xs := by rw [hwr]; exact h.drewN t
        have k1 : Sl (Value.int .i64) wb B n ys := by rw [hwr]; exact k.drewN t
        obtain ⟨b1, o1, rfl, _, hc1⟩ := h1.at' (by omega)
        obtain ⟨b2, o2, rfl, _, hc2⟩ := k1.at' (by omega)
        have g1 := hc1 j hlt
        have g2 := hc2 j hlt
        have hx : j < xs.length := by rw [HI.out.1]; exact hlt
        have hy : j < ys.length := by rw [HI.out.2]; exact hlt
        have hne : nth xs j ≠ nth ys j → xs ≠ ys := fun hn e => hn (by rw [e])
        have hsu : nth xs j = nth ys j → xs.take (j + 1) = ys.take (j + 1) := fun e => by rw [take_snoc hx, take_snoc hy, htk, e]
        have HS := Lib.hid (And.intro hne (And.intro hsu hwr)); clear hne hsu hwr htk hc1 hc2 h1 k1 hx hy
        have q1 : (0 : Int) ≤ (j : Nat) := by omega
        have q2 : ((j : Nat) : Int) < n := by omega
        generalize nth xs j = s at *
        generalize nth ys j = u at *
        by_cases hsu : s = u
        · subst hsu
          have HC := Lib.hid (HS.out.2.1 rfl)
          go_wp2_with fail
          go_quiet (fail)
          go_wp2_with fail
          exact ⟨⟨j + 1, t + nq, by go_num, by omega, HC.out, by rw [HS.out.2.2, World.drewN_drewN]⟩, by simp [intOf]; omega⟩
        · have hd : (s != u) = true := by simpa using hsu
          have HC := Lib.hid (decide_eq_false (HS.out.1 hsu))
          go_wp2_with fail
          go_quiet (fail)
          go_wp2_with fail
          go_ret
          exact ⟨ret_bool HC.out.symm, t + nq, by rw [HS.out.2.2, World.drewN_drewN]⟩
      · obtain rfl : j = n := by omega
        have HC := Lib.hid (show decide (xs = ys) = true by
          rw [take_all (by rw [HI.out.1]; exact Nat.le_refl _), take_all (by rw [HI.out.2]; exact Nat.le_refl _)] at htk
          exact decide_eq_true htk)
        have HW := Lib.hid hwr; clear htk hwr
        go_wp2_with fail
        go_ret
        exact ⟨ret_bool HC.out.symm, t, HW.out⟩
  · have hne : ¬ ((n : Nat) : Int) = ((m : Nat) : Int) := by omega
    have HC := Lib.hid (show decide (xs = ys) = false from decide_eq_false fun e => hnm (by rw [← HI.out.1, ← HI.out.2, e]))
    go_wp2_with fail
    go_ret
    exact ⟨ret_bool HC.out.symm, 0, rfl⟩
end Go.Proofs.Ytaibdlnolpbpiaa
