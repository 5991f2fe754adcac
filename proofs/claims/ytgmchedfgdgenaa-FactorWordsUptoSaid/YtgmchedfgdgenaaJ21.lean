/- Joined by program out of: Spoil13S, ShapeS. What each says stands at its own head. -/
import Derived.Test.YtgmchedfgdgenaaJ20
import Derived.Test.YtgmchedfgdgenaaJ9
import Derived.Test.YtgmchedfgdgenaaJ13
/- credencelaw13.spoilt[string], walked: it tells true, and turns nothing but the table's own rows. Conditions: the table's rows are the call's own, scope and sizes of one length; within Go's bound. -/
namespace Go.Proofs.Ytgmchedfgdgenaa
open Go.RowKit

set_option maxRecDepth 100000 in
set_option maxHeartbeats 1600000 in
theorem spoilt_s (base : Nat) (A B C : Option Addr) (n c d m k : Nat) (X Y : List Int) (Z : List ByteArray) (mark : ByteArray) (w : World) (T : Trio (Value.int .i64) (Value.int .i64) (Value.string) w base 3 3 9 A n c X B n d Y C m k Z) (hbs : base ≤ w.heap.size)
    (hn : (n + 5) * 8 ≤ 140737488355328) (hm : (m + 5) * 16 ≤ 140737488355328) :
    Calls Try.prog 18 #[.iface 45 (.agg #[]), .agg #[.slice A n c, .slice B n d, .slice C m k], Value.string mark] w fun e w' => e = .returned (.bool true) ∧ Turn w w' (fun x => A = some ⟨x, 0, none⟩ ∨ B = some ⟨x, 0, none⟩ ∨ C = some ⟨x, 0, none⟩) := by
  obtain ⟨S, hS⟩ : ∃ S : Nat → Prop, S = (fun x => A = some ⟨x, 0, none⟩ ∨ B = some ⟨x, 0, none⟩ ∨ C = some ⟨x, 0, none⟩) := ⟨_, rfl⟩
  have hlt : ∀ x, S x → x < w.heap.size := fun x hx => by
    rw [hS] at hx
    rcases hx with h | h | h
    · rcases T.o1.at_row with h1 | ⟨g, h1, _, h2⟩
      · rw [h] at h1; cases h1
      · rw [h] at h1; injection h1 with h1; injection h1 with h1; omega
    · rcases T.o2.at_row with h1 | ⟨g, h1, _, h2⟩
      · rw [h] at h1; cases h1
      · rw [h] at h1; injection h1 with h1; injection h1 with h1; omega
    · rcases T.o3.at_row with h1 | ⟨g, h1, _, h2⟩
      · rw [h] at h1; cases h1
      · rw [h] at h1; injection h1 with h1; injection h1 with h1; omega
  rw [← hS]
  obtain ⟨p, hp⟩ : ∃ p, p = w.heap.size := ⟨_, rfl⟩
  have hSp : ¬ S p := fun h => by have := hlt p h; omega
  have HT := Lib.hid (And.intro T.o1.length (And.intro T.o2.length T.o3.length))
  have R0 := RowC.new w 33 [.slice A n c, .slice B n d, .slice C m k]
  rw [← hp] at R0
  have X0 : Spo (Value.int .i64) (Value.int .i64) (Value.string) (w.alloc (.cells [Value.slice A n c, .slice B n d, .slice C m k].toArray 33)) (w.alloc (.cells [Value.slice A n c, .slice B n d, .slice C m k].toArray 33)) S base 3 3 9 A n c X B n d Y C m k Z := by
    rw [hS]; exact Spo.start (T.alloc _)
  have HW := Lib.hid ((Turn.refl w (fun _ => False)).alloc (.cells [Value.slice A n c, .slice B n d, .slice C m k].toArray 33))
  have hb1 : base ≤ (w.alloc (.cells [Value.slice A n c, .slice B n d, .slice C m k].toArray 33)).heap.size := by simp; omega
  go_enter Try.func18, Try.ntmps18
  go_upto_block 1 with fail
  rw [← hp]
  clear hS hlt T hp hbs
  generalize w.alloc (.cells #[.slice A n c, .slice B n d, .slice C m k] 33) = wq at *
  have HR := Lib.hid (And.intro R0 (And.intro hSp hb1))
  clear R0 hSp hb1
  have HX := Lib.hid X0
  clear X0
  go_wp2_with fail
  go_loopw [7] (fun i wr => ∃ t : Nat, i = .int .i64 (t : Nat) ∧ t ≤ n ∧ Spo (Value.int .i64) (Value.int .i64) (Value.string) wq wr S base 3 3 9 A (n) c (List.replicate t (-5) ++ X.drop t) B (n) d (Y) C (m) k (Z)) (fun i _ => n - (intOf i).toNat)
  case atStart => exact ⟨0, rfl, Nat.zero_le _, by simpa using HX.out⟩
  case round =>
    clear HX
    obtain ⟨t, rfl, ht, X0⟩ := hrel
    obtain ⟨w3, hw3⟩ : ∃ w3 : World, w3 = wr := ⟨_, rfl⟩
    subst hw3
    have r0 := (HR.out.1.turn X0.tu HR.out.2.1).cell 0
    by_cases hlt : t < n
    · obtain ⟨g, x, rfl, _, hr, _⟩ := X0.tr.o1.row (by omega)
      have hl := X0.tr.o1.length
      have g1 := hr.cell (j := t) (by omega)
      have f1 := hr.frozen t
      have X1 := (X0.set hlt (-5))
      rw [repl_stepG (-5) X t (by have := HT.out; omega)] at X1
      have HX := Lib.hid X1
      clear X0 X1 hr hl
      go_wp2_with fail
      exact ⟨⟨t + 1, by go_num, by omega, HX.out⟩, by simp [intOf]; omega⟩
    · obtain rfl : n = t := by omega
      rw [show List.replicate n (-5) ++ X.drop n = List.replicate n (-5) from by rw [List.drop_of_length_le (by have := HT.out; omega), List.append_nil]] at X0
      have HX := Lib.hid X0
      clear X0
      go_wp2_with fail
      clear ht hlt r0
      go_loopw [8] (fun i wr => ∃ t : Nat, i = .int .i64 (t : Nat) ∧ t ≤ n ∧ Spo (Value.int .i64) (Value.int .i64) (Value.string) wq wr S base 3 3 9 A (n) c (List.replicate n (-5)) B (n) d (List.replicate t (-6) ++ Y.drop t) C (m) k (Z)) (fun i _ => n - (intOf i).toNat)
      case atStart => exact ⟨0, rfl, Nat.zero_le _, by simpa using HX.out⟩
      case round =>
        clear HX
        obtain ⟨t, rfl, ht, X0⟩ := hrel
        obtain ⟨w3, hw3⟩ : ∃ w3 : World, w3 = wr := ⟨_, rfl⟩
        subst hw3
        have r0 := (HR.out.1.turn X0.tu HR.out.2.1).cell 1
        by_cases hlt : t < n
        · obtain ⟨g, x, rfl, _, hr, _⟩ := X0.tr.o2.row (by omega)
          have hl := X0.tr.o2.length
          have g1 := hr.cell (j := t) (by omega)
          have f1 := hr.frozen t
          have X1 := (X0.rot.set hlt (-6)).rot.rot
          rw [repl_stepG (-6) Y t (by have := HT.out; omega)] at X1
          have HX := Lib.hid X1
          clear X0 X1 hr hl
          go_wp2_with fail
          exact ⟨⟨t + 1, by go_num, by omega, HX.out⟩, by simp [intOf]; omega⟩
        · obtain rfl : n = t := by omega
          rw [show List.replicate n (-6) ++ Y.drop n = List.replicate n (-6) from by rw [List.drop_of_length_le (by have := HT.out; omega), List.append_nil]] at X0
          have HX := Lib.hid X0
          clear X0
          go_wp2_with fail
          clear ht hlt r0
          go_loopw [9] (fun i wr => ∃ t : Nat, i = .int .i64 (t : Nat) ∧ t ≤ m ∧ Spo (Value.int .i64) (Value.int .i64) (Value.string) wq wr S base 3 3 9 A (n) c (List.replicate n (-5)) B (n) d (List.replicate n (-6)) C (m) k (List.replicate t mark ++ Z.drop t)) (fun i _ => m - (intOf i).toNat)
          case atStart => exact ⟨0, rfl, Nat.zero_le _, by simpa using HX.out⟩
          case round =>
            clear HX
            obtain ⟨t, rfl, ht, X0⟩ := hrel
            obtain ⟨w3, hw3⟩ : ∃ w3 : World, w3 = wr := ⟨_, rfl⟩
            subst hw3
            have r0 := (HR.out.1.turn X0.tu HR.out.2.1).cell 2
            by_cases hlt : t < m
            · obtain ⟨g, x, rfl, _, hr, _⟩ := X0.tr.o3.row (by omega)
              have hl := X0.tr.o3.length
              have g1 := hr.cell (j := t) (by omega)
              have f1 := hr.frozen t
              have X1 := (X0.rot.rot.set hlt mark).rot
              rw [repl_stepG mark Z t (by have := HT.out; omega)] at X1
              have HX := Lib.hid X1
              clear X0 X1 hr hl
              go_wp2_with fail
              exact ⟨⟨t + 1, by go_num, by omega, HX.out⟩, by simp [intOf]; omega⟩
            · obtain rfl : m = t := by omega
              rw [show List.replicate m mark ++ Z.drop m = List.replicate m mark from by rw [List.drop_of_length_le (by have := HT.out; omega), List.append_nil]] at X0
              have HX := Lib.hid X0
              clear X0
              have r0 := (HR.out.1.turn HX.out.tu HR.out.2.1).cell 0
              have r1 := (HR.out.1.turn HX.out.tu HR.out.2.1).cell 1
              have r2 := (HR.out.1.turn HX.out.tu HR.out.2.1).cell 2
              go_wp2_with fail
              clear r0 r1 r2 ht hlt
              go_loopw [10, 13] (fun v i wr => ∃ (t : Nat) (A1 : Option Addr) (c1 : Nat), v = .slice A1 (n + t) c1 ∧ i = .int .i64 (t : Nat) ∧ t ≤ 5 ∧ Spo (Value.int .i64) (Value.int .i64) (Value.string) wq wr S base 3 3 9 A1 ((n + t)) c1 (List.replicate n (-5) ++ List.replicate t (-7)) B (n) d (List.replicate n (-6)) C (m) k (List.replicate m mark)) (fun _ i _ => 5 - (intOf i).toNat)
              case atStart => exact ⟨0, A, c, by simp, rfl, by omega, by simpa using HX.out⟩
              case round =>
                clear HX
                obtain ⟨t, A1, c1, rfl, rfl, ht, X0⟩ := hrel
                obtain ⟨w3, hw3⟩ : ∃ w3 : World, w3 = wr := ⟨_, rfl⟩
                subst hw3
                by_cases hlt : t < 5
                · have hs := X0.size
                  have X1 := X0.alloc (.cells #[.int .i64 (-7)] 3)
                  have hbase : base ≤ (w3.alloc (.cells #[.int .i64 (-7)] 3)).heap.size := by have := HR.out.2.2; simp; omega
                  have hq : (n + t + 1) * 8 ≤ 140737488355328 := by omega
                  have HX := Lib.hid (And.intro X1 hq)
                  clear X0 X1 hq hs
                  go_wp2_with (first
                    | (at_builtin; refine wpList_app _ eiI (Value.int .i64) (fun _ => rfl) rfl _ _ rfl base _ _ _ _ rfl HX.out.1.tr.o1 _ _ _ _ rfl (Sl.one (enc := Value.int .i64) _ _ _) HX.out.2 hbase ?_)
                    | fail)
                  intro A9 c9 w9 ho hgr _ hd
                  have ho := ho.cast (ys := List.replicate n (-5) ++ List.replicate (t + 1) (-7)) (by rw [List.replicate_succ', ← List.append_assoc]; try simp)
                  have X2 := (HX.out.1.app ho hgr (by rw [World.size_alloc]; exact hd))
                  have HY := Lib.hid X2
                  clear HX ho hgr hd X2
                  go_wp2_with fail
                  exact ⟨⟨t + 1, A9, c9, rfl, by go_num, by omega, HY.out⟩, by simp [intOf]; omega⟩
                · obtain rfl : 5 = t := by omega
                  have HX := Lib.hid X0
                  clear X0
                  go_wp2_with fail
                  rw [show (((5 : Nat)) : Int) = 5 from rfl]
                  clear ht hlt
                  go_loopw [11, 14] (fun v i wr => ∃ (t : Nat) (A2 : Option Addr) (c2 : Nat), v = .slice A2 (n + t) c2 ∧ i = .int .i64 (t : Nat) ∧ t ≤ 5 ∧ Spo (Value.int .i64) (Value.int .i64) (Value.string) wq wr S base 3 3 9 A1 ((n + 5)) c1 (List.replicate n (-5) ++ List.replicate 5 (-7)) A2 ((n + t)) c2 (List.replicate n (-6) ++ List.replicate t (-8)) C (m) k (List.replicate m mark)) (fun _ i _ => 5 - (intOf i).toNat)
                  case atStart => exact ⟨0, B, d, by simp, rfl, by omega, by simpa using HX.out⟩
                  case round =>
                    clear HX
                    obtain ⟨t, A2, c2, rfl, rfl, ht, X0⟩ := hrel
                    obtain ⟨w3, hw3⟩ : ∃ w3 : World, w3 = wr := ⟨_, rfl⟩
                    subst hw3
                    by_cases hlt : t < 5
                    · have hs := X0.size
                      have X1 := X0.alloc (.cells #[.int .i64 (-8)] 3)
                      have hbase : base ≤ (w3.alloc (.cells #[.int .i64 (-8)] 3)).heap.size := by have := HR.out.2.2; simp; omega
                      have hq : (n + t + 1) * 8 ≤ 140737488355328 := by omega
                      have HX := Lib.hid (And.intro X1 hq)
                      clear X0 X1 hq hs
                      go_wp2_with (first
                        | (at_builtin; refine wpList_app _ eiI (Value.int .i64) (fun _ => rfl) rfl _ _ rfl base _ _ _ _ rfl HX.out.1.tr.o2 _ _ _ _ rfl (Sl.one (enc := Value.int .i64) _ _ _) HX.out.2 hbase ?_)
                        | fail)
                      intro A9 c9 w9 ho hgr _ hd
                      have ho := ho.cast (ys := List.replicate n (-6) ++ List.replicate (t + 1) (-8)) (by rw [List.replicate_succ', ← List.append_assoc]; try simp)
                      have X2 := (HX.out.1.rot.app ho hgr (by rw [World.size_alloc]; exact hd)).rot.rot
                      have HY := Lib.hid X2
                      clear HX ho hgr hd X2
                      go_wp2_with fail
                      exact ⟨⟨t + 1, A9, c9, rfl, by go_num, by omega, HY.out⟩, by simp [intOf]; omega⟩
                    · obtain rfl : 5 = t := by omega
                      have HX := Lib.hid X0
                      clear X0
                      go_wp2_with fail
                      rw [show (((5 : Nat)) : Int) = 5 from rfl]
                      clear ht hlt
                      go_loopw [12, 15] (fun v i wr => ∃ (t : Nat) (A3 : Option Addr) (c3 : Nat), v = .slice A3 (m + t) c3 ∧ i = .int .i64 (t : Nat) ∧ t ≤ 5 ∧ Spo (Value.int .i64) (Value.int .i64) (Value.string) wq wr S base 3 3 9 A1 ((n + 5)) c1 (List.replicate n (-5) ++ List.replicate 5 (-7)) A2 ((n + 5)) c2 (List.replicate n (-6) ++ List.replicate 5 (-8)) A3 ((m + t)) c3 (List.replicate m mark ++ List.replicate t mark)) (fun _ i _ => 5 - (intOf i).toNat)
                      case atStart => exact ⟨0, C, k, by simp, rfl, by omega, by simpa using HX.out⟩
                      case round =>
                        clear HX
                        obtain ⟨t, A3, c3, rfl, rfl, ht, X0⟩ := hrel
                        obtain ⟨w3, hw3⟩ : ∃ w3 : World, w3 = wr := ⟨_, rfl⟩
                        subst hw3
                        by_cases hlt : t < 5
                        · have hs := X0.size
                          have X1 := X0.alloc (.cells #[Value.string mark] 9)
                          have hbase : base ≤ (w3.alloc (.cells #[Value.string mark] 9)).heap.size := by have := HR.out.2.2; simp; omega
                          have hq : (m + t + 1) * 16 ≤ 140737488355328 := by omega
                          have HX := Lib.hid (And.intro X1 hq)
                          clear X0 X1 hq hs
                          go_wp2_with (first
                            | (at_builtin; refine wpList_app _ eiSt (Value.string) (fun _ => rfl) rfl _ _ rfl base _ _ _ _ rfl HX.out.1.tr.o3 _ _ _ _ rfl (Sl.one (enc := Value.string) _ _ _) HX.out.2 hbase ?_)
                            | fail)
                          intro A9 c9 w9 ho hgr _ hd
                          have ho := ho.cast (ys := List.replicate m mark ++ List.replicate (t + 1) mark) (by rw [List.replicate_succ', ← List.append_assoc]; try simp)
                          have X2 := (HX.out.1.rot.rot.app ho hgr (by rw [World.size_alloc]; exact hd)).rot
                          have HY := Lib.hid X2
                          clear HX ho hgr hd X2
                          go_wp2_with fail
                          exact ⟨⟨t + 1, A9, c9, rfl, by go_num, by omega, HY.out⟩, by simp [intOf]; omega⟩
                        · obtain rfl : 5 = t := by omega
                          have HX := Lib.hid X0
                          clear X0
                          go_wp2_with fail
                          rw [show (((5 : Nat)) : Int) = 5 from rfl]
                          clear ht hlt
                          go_loopw [16] (fun i wr => ∃ t : Nat, i = .int .i64 (t : Nat) ∧ t ≤ n + 5 ∧ wr = w3) (fun i _ => n + 5 - (intOf i).toNat)
                          case atStart => exact ⟨0, rfl, Nat.zero_le _, rfl⟩
                          case round =>
                            obtain ⟨t, rfl, ht, rfl⟩ := hrel
                            by_cases hlt : t < n + 5
                            · obtain ⟨ga, xa, rfl, _, hra, _⟩ := HX.out.tr.o1.row (by omega)
                              obtain ⟨gb, xb, rfl, _, hrb, _⟩ := HX.out.tr.o2.row (by omega)
                              have ga1 := hra.cell (j := t) (by simp; omega)
                              have gb1 := hrb.cell (j := t) (by simp; omega)
                              clear hra hrb
                              by_cases h2 : t < n
                              · rw [nth_append_left (by simpa using h2), nth_replG n t _ h2] at ga1 gb1
                                clear h2
                                go_wp2_with fail
                                exact ⟨⟨t + 1, by go_num, by omega, trivial⟩, by simp [intOf]; omega⟩
                              · rw [nth_append_right (by simp; omega), nth_replG 5 _ _ (by simp; omega)] at ga1 gb1
                                clear h2
                                go_wp2_with fail
                                exact ⟨⟨t + 1, by go_num, by omega, trivial⟩, by simp [intOf]; omega⟩
                            · obtain rfl : n + 5 = t := by omega
                              have r2 := (HR.out.1.turn HX.out.tu HR.out.2.1).cell 2
                              have hw : IntKind.i64.wrap ((m : Int) + 5) = (m : Int) + 5 := by simp [IntKind.wrap, IntKind.bits, IntKind.signed]; omega
                              go_wp2_with fail
                              go_ret
                              exact ⟨by simp, (HW.out.mono (fun _ _ h => h.elim)).trans HX.out.tu (fun _ _ h => h)⟩
end Go.Proofs.Ytgmchedfgdgenaa
/- credencelaw13.shape at string, walked. No condition. -/
namespace Go.Proofs.Ytgmchedfgdgenaa
open Go.RowKit

set_option maxRecDepth 100000 in
set_option maxHeartbeats 400000 in
theorem shape_s (A1 A2 A3 : Option Addr) (n1 c1 n2 c2 n3 c3 : Nat) (w : World) :
    Calls Try.prog 51 #[.agg #[.slice A1 n1 c1, .slice A2 n2 c2, .slice A3 n3 c3]] w fun e w' => e = .returned (.agg #[.slice A1 n1 c1, .slice A2 n2 c2, .int .i64 (n3 : Int)]) ∧ Below w.heap.size w w' := by
  have H1 := (Held.init w).new 33 [.slice A1 n1 c1, .slice A2 n2 c2, .slice A3 n3 c3]
  have H := H1.new 29 [.slice A1 n1 c1, .slice A2 n2 c2, .int .i64 (n3 : Int)]
  rw [show (w.alloc (.cells [.slice A1 n1 c1, .slice A2 n2 c2, .slice A3 n3 c3].toArray 33)).heap.size = w.heap.size + 1 from by simp] at H
  clear H1
  have r0 := H.has.1.cell 0
  have r1 := H.has.1.cell 1
  have r2 := H.has.1.cell 2
  have HB := Lib.hid H.bel
  clear H
  go_enter Try.func51, Try.ntmps51
  go_wp2_with fail
  exact bodyPost_ret (v := .agg #[.slice A1 n1 c1, .slice A2 n2 c2, .int .i64 (n3 : Int)]) (by simp [results, Try.results51, go_sem, r0, r1, r2]) rfl ⟨rfl, HB.out⟩
end Go.Proofs.Ytgmchedfgdgenaa
