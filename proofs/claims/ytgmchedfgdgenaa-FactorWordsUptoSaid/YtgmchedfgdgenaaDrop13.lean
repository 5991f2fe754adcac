/- The reference's drop, walked. Conditions: the place lies in the scope; as many sizes as variables; that size is 1 or more; within Go's bound. -/
import Derived.Test.YtgmchedfgdgenaaJ13
import Derived.Test.YtgmchedfgdgenaaJ3
namespace Go.Proofs.Ytgmchedfgdgenaa
open Go.RowKit
attribute [local go_sem] Oper.semAt_some

/-- what has been told when i have been gone through -/
def dropAt {α : Type} (S : List α) (p i : Nat) : List α := if i ≤ p then S.take i else S.take p ++ (S.drop (p + 1)).take (i - (p + 1))
theorem dropAt_step {α : Type} [Inhabited α] {S : List α} {p i : Nat} (h : i < S.length) (hp : i ≠ p) : dropAt S p (i + 1) = dropAt S p i ++ [nth S i] := by
  unfold dropAt
  by_cases h1 : i < p
  · rw [if_pos (by omega), if_pos (by omega), take_snoc h]
  · rw [if_neg (by omega), if_neg (by omega), show i + 1 - (p + 1) = (i - (p + 1)) + 1 by omega, take_snoc (by rw [List.length_drop]; omega), nth_drop, show p + 1 + (i - (p + 1)) = i by omega, List.append_assoc]
theorem dropAt_at {α : Type} {S : List α} {p : Nat} : dropAt S p (p + 1) = dropAt S p p := by
  unfold dropAt
  rw [if_neg (by omega), if_pos (Nat.le_refl _), Nat.sub_self, List.take_zero, List.append_nil]
theorem dropAt_end {α : Type} {S : List α} {p : Nat} (h : p < S.length) : dropAt S p S.length = S.take p ++ S.drop (p + 1) := by
  unfold dropAt
  rw [if_neg (by omega), List.take_of_length_le (l := S.drop (p + 1)) (by rw [List.length_drop]; exact Nat.le_refl _)]
theorem dropAt_length {α : Type} {S : List α} {p i : Nat} (h : p < S.length) (hi : i ≤ S.length) : (dropAt S p i).length = if i ≤ p then i else i - 1 := by
  unfold dropAt
  by_cases h1 : i ≤ p
  · rw [if_pos h1, if_pos h1, List.length_take]; omega
  · rw [if_neg h1, if_neg h1]; simp; omega
set_option maxRecDepth 100000 in
set_option maxHeartbeats 4000000 in
theorem drop_any (A1 A2 : Option Addr) (n c1 c2 m p z : Nat) (S Z : List Int) (w : World) (h1 : Sl (Value.int .i64) w A1 n S) (h2 : Sl (Value.int .i64) w A2 n Z) (hb : (n + 1) * 8 ≤ 140737488351232) (hp : p < n) (hz : nth Z p = (z : Int)) (hz1 : 1 ≤ z) (hm : m ≤ 9223372036854775807) :
    Calls Try.prog 82 #[.agg #[.slice A1 n c1, .slice A2 n c2, .int .i64 (m : Int)], .int .i64 (p : Int)] w fun e w' => ∃ A c B d, e = .returned (.agg #[.slice A (n - 1) c, .slice B (n - 1) d, .int .i64 ((m / z : Nat) : Int)]) ∧
      OwnR (Value.int .i64) w' w.heap.size 3 A (n - 1) c (S.take p ++ S.drop (p + 1)) ∧ OwnR (Value.int .i64) w' w.heap.size 3 B (n - 1) d (Z.take p ++ Z.drop (p + 1)) ∧ Below w.heap.size w w' := by
  have HL := Lib.hid (And.intro h1.len (And.intro h2.len hz))
  have HI := Lib.hid (And.intro h1 h2)
  have big1 := h1.big
  have H0 := (((((Held.init w).sl h1).sl h2).new 29 [.slice A1 n c1, .slice A2 n c2, .int .i64 (m : Int)]).new 29 [.slice none 0 0, .slice none 0 0, .int .i64 0])
  simp only [World.size_alloc] at H0
  obtain ⟨b2, o2, rfl, hbw2, hc2⟩ := h2.at' (by omega)
  have g2 := hc2 p hp
  rw [hz] at g2
  have g0 := g2
  obtain ⟨q, hq⟩ : ∃ q, q = m / z := ⟨_, rfl⟩
  rw [← hq]
  have e1 : Int.tdiv (m : Int) (z : Int) = (q : Int) := by rw [hq, Int.ofNat_tdiv]
  have e2 : (m : Int) / (z : Int) = (q : Int) := by rw [hq]; simp
  have hqm : q ≤ m := by rw [hq]; exact Nat.div_le_self _ _
  have e3 : IntKind.i64.wrap (q : Int) = (q : Int) := by simp [IntKind.wrap, IntKind.bits, IntKind.signed]; omega
  have hne2 : ((z : Int) == 0) = false := by simp; omega
  have hne3 : ¬ z = 0 := by omega
  have hp0 : (0 : Int) ≤ (p : Int) := by omega
  have hp1 : (p : Int) < (n : Int) := by omega
  have HD := Lib.hid H0.drew
  have HB0 := Lib.hid H0
  have s1 := H0.has.2.1.cell 1
  have s2 := H0.has.2.1.cell 2
  have g2 : ((w.alloc (.cells [.slice A1 n c1, .slice (some ⟨b2, o2, none⟩) n c2, .int .i64 (m : Int)].toArray 29)).alloc (.cells [.slice none 0 0, .slice none 0 0, .int .i64 0].toArray 29)).cell? ⟨b2, o2 + p, none⟩ = some (.int .i64 (z : Int)) := (H0.bel.cell (p := ⟨b2, o2 + p, none⟩) hbw2).trans g2
  clear h1 h2 H0 hz hq hc2
  go_enter Try.func82, Try.ntmps82
  go_wp2_with fail
--R1
  refine wp_region_lastL (S := fun w' => w'.cell? ⟨w.heap.size, 1, none⟩ = some (.slice (some ⟨b2, o2, none⟩) n c2) ∧ w'.cell? ⟨w.heap.size, 2, none⟩ = some (.int .i64 (m : Int)) ∧ w'.cell? ⟨b2, o2 + p, none⟩ = some (.int .i64 (z : Int))) 10 10 (by kernel_rfl) rfl rfl rfl (by kernel_rfl) ?hS1 (fun hHeld => ?rest1)
  case hS1 => (first | assumption | exact ⟨s1, s2, g2⟩ | go_keep)
  refine wpAnyH_takeL (i := 0) (v := ?v2) rfl (by kernel_rfl) (by kernel_rfl) (by kernel_rfl) (fun _ _ _ h => h) (by rfl) ?hy2 (by assumption) ?rest2
  case hy2 => (intro w hSw; (try dsimp only at hSw); go_simp; try with_reducible rfl)
  try simp only [Act.put, List.setIfInBounds_toArray, List.set_cons_zero, List.set_cons_succ]
  refine wpAnyH_takeL (i := 1) (v := ?v3) rfl (by kernel_rfl) (by kernel_rfl) (by kernel_rfl) (fun _ _ _ h => h) (by rfl) ?hy3 (by assumption) ?rest3
  case hy3 => (intro w hSw; (try dsimp only at hSw); go_simp; try with_reducible rfl)
  try simp only [Act.put, List.setIfInBounds_toArray, List.set_cons_zero, List.set_cons_succ]
  refine wpAnyH_takeL (i := 2) (v := ?v4) rfl (by kernel_rfl) (by kernel_rfl) (by kernel_rfl) (fun _ _ _ h => h) (by rfl) ?hy4 (by assumption) ?rest4
  case hy4 => (intro w hSw; (try dsimp only at hSw); go_simp; try with_reducible rfl)
  try simp only [Act.put, List.setIfInBounds_toArray, List.set_cons_zero, List.set_cons_succ]
  refine wpAnyH_takeL (i := 3) (v := ?v5) rfl (by kernel_rfl) (by kernel_rfl) (by kernel_rfl) (fun _ _ _ h => h) (by rfl) ?hy5 (by assumption) ?rest5
  case hy5 => (intro w hSw; (try dsimp only at hSw); go_simp; try with_reducible rfl)
  try simp only [Act.put, List.setIfInBounds_toArray, List.set_cons_zero, List.set_cons_succ]
  refine wpAnyH_takeL (i := 4) (v := ?v6) rfl (by kernel_rfl) (by kernel_rfl) (by kernel_rfl) (fun _ _ _ h => h) (by rfl) ?hy6 (by assumption) ?rest6
  case hy6 => (intro w hSw; (try dsimp only at hSw); go_simp; try with_reducible rfl)
  try simp only [Act.put, List.setIfInBounds_toArray, List.set_cons_zero, List.set_cons_succ]
  refine wpAnyH_takeL (i := 5) (v := ?v7) rfl (by kernel_rfl) (by kernel_rfl) (by kernel_rfl) (fun _ _ _ h => h) (by rfl) ?hy7 (by assumption) ?rest7
  case hy7 => (intro w hSw; (try dsimp only at hSw); go_simp; try with_reducible rfl)
  try simp only [Act.put, List.setIfInBounds_toArray, List.set_cons_zero, List.set_cons_succ]
  refine wpAnyH_takeL (i := 6) (v := ?v8) rfl (by kernel_rfl) (by kernel_rfl) (by kernel_rfl) (fun _ _ _ h => h) (by rfl) ?hy8 (by assumption) ?rest8
  case hy8 => (intro w hSw; (try dsimp only at hSw); go_simp; try with_reducible rfl)
  try simp only [Act.put, List.setIfInBounds_toArray, List.set_cons_zero, List.set_cons_succ]
  refine wpAnyH_takeL (i := 7) (v := ?v9) rfl (by kernel_rfl) (by kernel_rfl) (by kernel_rfl) (fun _ _ _ h => h) (by rfl) ?hy9 (by assumption) ?rest9
  case hy9 => (intro w hSw; (try dsimp only at hSw); go_simp; try with_reducible rfl)
  try simp only [Act.put, List.setIfInBounds_toArray, List.set_cons_zero, List.set_cons_succ]
  refine wpAnyH_takeL (i := 8) (v := ?v10) rfl (by kernel_rfl) (by kernel_rfl) (by kernel_rfl) (fun _ _ _ h => h) (by rfl) ?hy10 (by assumption) ?rest10
  case hy10 => (intro w hSw; (try dsimp only at hSw); go_simp; try with_reducible rfl)
  try simp only [Act.put, List.setIfInBounds_toArray, List.set_cons_zero, List.set_cons_succ]
  refine wpAnyH_ready (rs := [9]) (by kernel_rfl) (by simp) (consL rfl (fun K hK => ?step11))
  (go_simp; (have HE := HD.out.new 29 [.slice none 0 0, .slice none 0 0, .int .i64 0]); (have s1 := HE.has.2.2.1.cell 1); (have s2 := HE.has.2.2.1.cell 2); (have g2 := (HE.bel.cell (p := ⟨b2, o2 + p, none⟩) hbw2).trans g0); (have f0 := HE.has.1.frozen 0); (have f1 := HE.has.1.frozen 1); (have f2 := HE.has.1.frozen 2); (have x0 := HE.has.1.cell 0); (have x1 := HE.has.1.cell 1); (have x2 := HE.has.1.cell 2))
  refine hK.out _ _ ?hS11 (fun hHeld => ?rest11)
  case hS11 => (first | assumption | exact ⟨s1, s2, g2⟩ | go_keep)
  clear hK K
  try simp only [Act.put, List.setIfInBounds_toArray, List.set_cons_zero, List.set_cons_succ]
  refine wpAnyH_done (by kernel_rfl) ?_ _
  unfold AheadOf
  go_simp
--RE
  obtain ⟨wb, hwb⟩ : ∃ wb, wb = (w.alloc (.cells [.slice A1 n c1, .slice (some ⟨b2, o2, none⟩) n c2, .int .i64 (m : Int)].toArray 29)).alloc (.cells [.slice none 0 0, .slice none 0 0, .int .i64 0].toArray 29) := ⟨_, rfl⟩
  obtain ⟨g, hg⟩ : ∃ g, g = wb.heap.size := ⟨_, rfl⟩
  have hgw : g = w.heap.size + 1 + 1 := by rw [hg, hwb]; simp
  have H1 : Held w _ wb := hwb ▸ HB0.out
  have HH := Lib.hid H1
  have L0 : Boxed2 wb (wb.alloc (.cells #[.slice none 0 0, .slice none 0 0, .int .i64 (q : Int)] 29)).drew g 29 none (dropAt S p 0).length 0 (dropAt S p 0) none (dropAt Z p 0).length 0 (dropAt Z p 0) (.int .i64 (q : Int)) := by
    subst hg
    have hB : Boxed2 wb (wb.alloc (.cells #[.slice none 0 0, .slice none 0 0, .int .i64 (q : Int)] 29)) wb.heap.size 29 none 0 0 [] none 0 0 [] (.int .i64 (q : Int)) := ⟨(Below.refl _ _).alloc (Nat.le_refl _) _, RowC.new wb 29 [.slice none 0 0, .slice none 0 0, .int .i64 (q : Int)], Trio.nil _ _ _ _ _ _ _ _, Nat.le_refl _⟩
    simpa [dropAt] using hB.drew
  have HX := Lib.hid L0
  have HG := Lib.hid (And.intro hg (And.intro hgw hwb))
  clear H1 L0 hg hwb hgw s1 s2 g2 HE HD x0 x1 x2 f0 f1 f2 e1 e2 e3 hne2 hne3
  have hgw := HG.out.2.1
  rw [← hgw, ← show wb = (w.alloc (.cells #[.slice A1 n c1, .slice (some ⟨b2, o2, none⟩) n c2, .int .i64 (m : Int)] 29)).alloc (.cells #[.slice none 0 0, .slice none 0 0, .int .i64 0] 29) from HG.out.2.2]
  have HGW := Lib.hid hgw
  clear hgw
  go_wp2_with fail
  go_loopw [6] (fun j wr => ∃ (i : Nat) (A : Option Addr) (c : Nat) (B : Option Addr) (d : Nat), i ≤ n ∧ j = .int .i64 (i : Nat) ∧ Boxed2 wb wr g 29 A (dropAt S p i).length c (dropAt S p i) B (dropAt Z p i).length d (dropAt Z p i) (.int .i64 (q : Int))) (fun j _ => n - (intOf j).toNat)
  case atStart => exact ⟨0, none, 0, none, 0, Nat.zero_le _, rfl, HX.out⟩
  case round =>
    clear HX
    obtain ⟨i, A, c, B, d, hi, rfl, X0⟩ := hrel
    obtain ⟨wo, hwo⟩ : ∃ wo : World, wo = wr := ⟨_, rfl⟩
    subst hwo
    have H1 := HH.out.step X0.bel
    have s0 := H1.has.2.1.cell 0
    by_cases hlt : i < n
    · by_cases hip : i = p
      · subst hip
        have hne : ((i : Int) != (i : Int)) = false := by simp
        have e3 := dropAt_at (S := S) (p := i)
        have e4 := dropAt_at (S := Z) (p := i)
        have HY := Lib.hid (And.intro X0 (And.intro e3 e4))
        clear X0 H1 e3 e4
        go_wp2_with fail
        refine ⟨⟨i + 1, A, c, B, d, by omega, by go_num, ?_⟩, by simp [intOf]; omega⟩
        rw [HY.out.2.1, HY.out.2.2]
        exact HY.out.1
      · have hne : ((i : Int) != (p : Int)) = true := by rw [bne_iff_ne]; omega
        obtain ⟨b1, o1, rfl, hbw1, _⟩ := HI.out.1.at' (by omega)
        obtain ⟨XL, hXL⟩ : ∃ XL, XL = dropAt S p i := ⟨_, rfl⟩
        obtain ⟨YL, hYL⟩ : ∃ YL, YL = dropAt Z p i := ⟨_, rfl⟩
        rw [← hXL, ← hYL] at X0
        obtain ⟨ln, hln⟩ : ∃ ln, ln = XL.length := ⟨_, rfl⟩
        obtain ⟨lm, hlm⟩ : ∃ lm, lm = YL.length := ⟨_, rfl⟩
        rw [← hln, ← hlm] at X0
        have hbnd : ln ≤ n ∧ lm ≤ n := by
          rw [hln, hXL, dropAt_length (by rw [HL.out.1]; exact hp) (by rw [HL.out.1]; omega), hlm, hYL, dropAt_length (by rw [HL.out.2.1]; exact hp) (by rw [HL.out.2.1]; omega)]
          constructor <;> (split <;> omega)
        have hwg : w.heap.size < g := by have := HGW.out; omega
        obtain ⟨x, hx⟩ : ∃ x, x = nth S i := ⟨_, rfl⟩
        have HXX := Lib.hid hx
        have HY := Lib.hid X0
        have HXY := Lib.hid (And.intro hXL (And.intro hYL (And.intro hln (And.intro hlm hip))))
        have r0 := X0.row.cell 0
        have a0 := H1.has.2.1.cell 0
        have e0 : wo.cell? ⟨b1, o1 + i, none⟩ = some (.int .i64 x) := by rw [hx]; exact H1.has.2.2.2.1.cellI hlt
        have hblt : b1 < wo.heap.size := by have := X0.row.lt; omega
        obtain ⟨⟨ix, q1, q2, q3, q4, q5⟩, _, _⟩ := eiI
        have hk1 : ln + 1 ≤ maxLen := by unfold maxLen; omega
        have hk2 : (ln + 1) * 8 ≤ 140737488355328 := by omega
        clear X0 H1 hXL hYL hln hlm hx hip
        go_upto_region 6 with fail
--R6
        refine wp_region_lastL (S := fun w' => w'.cell? ⟨g, 0, none⟩ = some (.slice A ln c) ∧ w'.cell? ⟨w.heap.size, 0, none⟩ = some (.slice (some ⟨b1, o1, none⟩) n c1) ∧ w'.cell? ⟨b1, o1 + i, none⟩ = some (.int .i64 x)) 10 10 (by kernel_rfl) rfl rfl rfl (by kernel_rfl) ?hS12 (fun hHeld => ?rest12)
        case hS12 => (first | assumption | exact ⟨r0, a0, e0⟩ | exact ⟨r1, a1, e1⟩ | exact ⟨r2, a2, e2⟩ | go_keep)
        refine wpAnyH_takeL (i := 0) (v := ?v13) rfl (by kernel_rfl) (by kernel_rfl) (by kernel_rfl) (fun _ _ _ h => h) (by rfl) ?hy13 (by assumption) ?rest13
        case hy13 => (intro w hSw; (try dsimp only at hSw); go_simp; try with_reducible rfl)
        try simp only [Act.put, List.setIfInBounds_toArray, List.set_cons_zero, List.set_cons_succ]
        refine wpAnyH_takeL (i := 1) (v := ?v14) rfl (by kernel_rfl) (by kernel_rfl) (by kernel_rfl) (fun _ _ _ h => h) (by rfl) ?hy14 (by assumption) ?rest14
        case hy14 => (intro w hSw; (try dsimp only at hSw); go_simp; try with_reducible rfl)
        try simp only [Act.put, List.setIfInBounds_toArray, List.set_cons_zero, List.set_cons_succ]
        refine wpAnyH_takeL (i := 2) (v := ?v15) rfl (by kernel_rfl) (by kernel_rfl) (by kernel_rfl) (fun _ _ _ h => h) (by rfl) ?hy15 (by assumption) ?rest15
        case hy15 => (intro w hSw; (try dsimp only at hSw); go_simp; try with_reducible rfl)
        try simp only [Act.put, List.setIfInBounds_toArray, List.set_cons_zero, List.set_cons_succ]
        refine wpAnyH_takeL (i := 3) (v := ?v16) rfl (by kernel_rfl) (by kernel_rfl) (by kernel_rfl) (fun _ _ _ h => h) (by rfl) ?hy16 (by assumption) ?rest16
        case hy16 => (intro w hSw; (try dsimp only at hSw); go_simp; try with_reducible rfl)
        try simp only [Act.put, List.setIfInBounds_toArray, List.set_cons_zero, List.set_cons_succ]
        refine wpAnyH_takeL (i := 4) (v := ?v17) rfl (by kernel_rfl) (by kernel_rfl) (by kernel_rfl) (fun _ _ _ h => h) (by rfl) ?hy17 (by assumption) ?rest17
        case hy17 => (intro w hSw; (try dsimp only at hSw); go_simp; try with_reducible rfl)
        try simp only [Act.put, List.setIfInBounds_toArray, List.set_cons_zero, List.set_cons_succ]
        refine wpAnyH_takeL (i := 5) (v := ?v18) rfl (by kernel_rfl) (by kernel_rfl) (by kernel_rfl) (fun _ _ _ h => h) (by rfl) ?hy18 (by assumption) ?rest18
        case hy18 => (intro w hSw; (try dsimp only at hSw); go_simp; try with_reducible rfl)
        try simp only [Act.put, List.setIfInBounds_toArray, List.set_cons_zero, List.set_cons_succ]
        refine wpAnyH_takeL (i := 6) (v := ?v19) rfl (by kernel_rfl) (by kernel_rfl) (by kernel_rfl) (fun _ _ _ h => h) (by rfl) ?hy19 (by assumption) ?rest19
        case hy19 => (intro w hSw; (try dsimp only at hSw); go_simp; try with_reducible rfl)
        try simp only [Act.put, List.setIfInBounds_toArray, List.set_cons_zero, List.set_cons_succ]
        refine wpAnyH_ready (rs := [7]) (by kernel_rfl) (by simp) (consL rfl (fun K hK => ?step20))
        (go_simp; (have Y1 := (HY.out.alloc (.cells #[.int .i64 x] 3)).drew); (have r1 := Y1.row.cell 0); (have G1 := HH.out.step Y1.bel); (have a1 := G1.has.2.1.cell 0); (have e1 := ((below_drewN ((Below.refl _ _).alloc (Nat.le_refl _) (.cells #[.int .i64 x] 3)) 1).cell (p := ⟨b1, o1 + i, none⟩) hblt).trans e0); (have hz6 : g + 1 ≤ _ := Y1.row.lt))
        refine hK.out _ _ ?hS20 (fun hHeld => ?rest20)
        case hS20 => (first | assumption | exact ⟨r0, a0, e0⟩ | exact ⟨r1, a1, e1⟩ | exact ⟨r2, a2, e2⟩ | go_keep)
        clear hK K
        try simp only [Act.put, List.setIfInBounds_toArray, List.set_cons_zero, List.set_cons_succ]
        refine wpAnyH_ready (rs := [8]) (by kernel_rfl) (by simp) (consL rfl (fun K hK => ?step21))
        (refine step_append_sl _ (Value.int .i64) (fun _ => rfl) (by rfl) (.tmp 27) (.tmp 33) 22 (by rfl) (g + 1) 3 ix (.int .i64 0) 8 q1 q2 q3 q4 q5 (by rfl) A ln c XL (by rfl) Y1.tr.o1 _ 1 1 [x] (by rfl) ((Sl.one (enc := Value.int .i64) _ _ _).drewN 1) hk1 hk2 hz6 ?_; intro C9a k9a w9 ho9 hg9 hb9 hd9; have hl9 := Y1.low hg9; have r2 := (Y1.row.below hl9 (Nat.lt_succ_self g)).cell 0; have f9 := (Y1.row.below hl9 (Nat.lt_succ_self g)).frozen 0; have a2 := (G1.has.2.1.below hl9 (by omega)).cell 0; have e2 := (hl9.cell (p := ⟨b1, o1 + i, none⟩) (by show b1 < g + 1; omega)).trans e1)
        refine hK.out _ _ ?hS21 (fun hHeld => ?rest21)
        case hS21 => (first | assumption | exact ⟨r0, a0, e0⟩ | exact ⟨r1, a1, e1⟩ | exact ⟨r2, a2, e2⟩ | go_keep)
        clear hK K
        try simp only [Act.put, List.setIfInBounds_toArray, List.set_cons_zero, List.set_cons_succ]
        refine wpAnyH_takeL (i := 9) (v := ?v22) rfl (by kernel_rfl) (by kernel_rfl) (by kernel_rfl) (fun _ _ _ h => h) (by rfl) ?hy22 (by assumption) ?rest22
        case hy22 => (intro w hSw; (try dsimp only at hSw); go_simp; try with_reducible rfl)
        try simp only [Act.put, List.setIfInBounds_toArray, List.set_cons_zero, List.set_cons_succ]
        refine wpAnyH_done (by kernel_rfl) ?_ _
        unfold AheadOf
        go_simp
--RE
        have X1 := Y1.app1 ho9 hg9 (by first | exact hd9 | (rw [World.size_drewN, World.size_alloc]; exact hd9) | (rw [World.size_alloc]; exact hd9))
        clear Y1 G1 ho9 hg9 hb9 hd9 hl9 r0 a0 e0 r1 a1 e1 r2 a2 e2 f9 hz6 hk1 hk2 HY
        generalize w9.setCell ⟨g, 0, none⟩ (.slice C9a (ln + 1) k9a) = wd at *
        have HY := Lib.hid X1
        have H1 := HH.out.step X1.bel
        obtain ⟨y, hy⟩ : ∃ y, y = nth Z i := ⟨_, rfl⟩
        have HYY := Lib.hid hy
        have r0 := X1.row.cell 1
        have a0 := H1.has.2.1.cell 1
        have e0 : wd.cell? ⟨b2, o2 + i, none⟩ = some (.int .i64 y) := by rw [hy]; exact H1.has.2.2.1.cellI hlt
        have hblt : b2 < wd.heap.size := by have := X1.row.lt; omega
        have hk1 : lm + 1 ≤ maxLen := by unfold maxLen; omega
        have hk2 : (lm + 1) * 8 ≤ 140737488355328 := by omega
        clear X1 H1 hy
        go_upto_region 7 with fail
--R7
        refine wp_region_lastL (S := fun w' => w'.cell? ⟨g, 1, none⟩ = some (.slice B lm d) ∧ w'.cell? ⟨w.heap.size, 1, none⟩ = some (.slice (some ⟨b2, o2, none⟩) n c2) ∧ w'.cell? ⟨b2, o2 + i, none⟩ = some (.int .i64 y)) 10 10 (by kernel_rfl) rfl rfl rfl (by kernel_rfl) ?hS23 (fun hHeld => ?rest23)
        case hS23 => (first | assumption | exact ⟨r0, a0, e0⟩ | exact ⟨r1, a1, e1⟩ | exact ⟨r2, a2, e2⟩ | go_keep)
        refine wpAnyH_takeL (i := 0) (v := ?v24) rfl (by kernel_rfl) (by kernel_rfl) (by kernel_rfl) (fun _ _ _ h => h) (by rfl) ?hy24 (by assumption) ?rest24
        case hy24 => (intro w hSw; (try dsimp only at hSw); go_simp; try with_reducible rfl)
        try simp only [Act.put, List.setIfInBounds_toArray, List.set_cons_zero, List.set_cons_succ]
        refine wpAnyH_takeL (i := 1) (v := ?v25) rfl (by kernel_rfl) (by kernel_rfl) (by kernel_rfl) (fun _ _ _ h => h) (by rfl) ?hy25 (by assumption) ?rest25
        case hy25 => (intro w hSw; (try dsimp only at hSw); go_simp; try with_reducible rfl)
        try simp only [Act.put, List.setIfInBounds_toArray, List.set_cons_zero, List.set_cons_succ]
        refine wpAnyH_takeL (i := 2) (v := ?v26) rfl (by kernel_rfl) (by kernel_rfl) (by kernel_rfl) (fun _ _ _ h => h) (by rfl) ?hy26 (by assumption) ?rest26
        case hy26 => (intro w hSw; (try dsimp only at hSw); go_simp; try with_reducible rfl)
        try simp only [Act.put, List.setIfInBounds_toArray, List.set_cons_zero, List.set_cons_succ]
        refine wpAnyH_takeL (i := 3) (v := ?v27) rfl (by kernel_rfl) (by kernel_rfl) (by kernel_rfl) (fun _ _ _ h => h) (by rfl) ?hy27 (by assumption) ?rest27
        case hy27 => (intro w hSw; (try dsimp only at hSw); go_simp; try with_reducible rfl)
        try simp only [Act.put, List.setIfInBounds_toArray, List.set_cons_zero, List.set_cons_succ]
        refine wpAnyH_takeL (i := 4) (v := ?v28) rfl (by kernel_rfl) (by kernel_rfl) (by kernel_rfl) (fun _ _ _ h => h) (by rfl) ?hy28 (by assumption) ?rest28
        case hy28 => (intro w hSw; (try dsimp only at hSw); go_simp; try with_reducible rfl)
        try simp only [Act.put, List.setIfInBounds_toArray, List.set_cons_zero, List.set_cons_succ]
        refine wpAnyH_takeL (i := 5) (v := ?v29) rfl (by kernel_rfl) (by kernel_rfl) (by kernel_rfl) (fun _ _ _ h => h) (by rfl) ?hy29 (by assumption) ?rest29
        case hy29 => (intro w hSw; (try dsimp only at hSw); go_simp; try with_reducible rfl)
        try simp only [Act.put, List.setIfInBounds_toArray, List.set_cons_zero, List.set_cons_succ]
        refine wpAnyH_takeL (i := 6) (v := ?v30) rfl (by kernel_rfl) (by kernel_rfl) (by kernel_rfl) (fun _ _ _ h => h) (by rfl) ?hy30 (by assumption) ?rest30
        case hy30 => (intro w hSw; (try dsimp only at hSw); go_simp; try with_reducible rfl)
        try simp only [Act.put, List.setIfInBounds_toArray, List.set_cons_zero, List.set_cons_succ]
        refine wpAnyH_ready (rs := [7]) (by kernel_rfl) (by simp) (consL rfl (fun K hK => ?step31))
        (go_simp; (have Y1 := (HY.out.alloc (.cells #[.int .i64 y] 3)).drew); (have r1 := Y1.row.cell 1); (have G1 := HH.out.step Y1.bel); (have a1 := G1.has.2.1.cell 1); (have e1 := ((below_drewN ((Below.refl _ _).alloc (Nat.le_refl _) (.cells #[.int .i64 y] 3)) 1).cell (p := ⟨b2, o2 + i, none⟩) hblt).trans e0); (have hz6 : g + 1 ≤ _ := Y1.row.lt))
        refine hK.out _ _ ?hS31 (fun hHeld => ?rest31)
        case hS31 => (first | assumption | exact ⟨r0, a0, e0⟩ | exact ⟨r1, a1, e1⟩ | exact ⟨r2, a2, e2⟩ | go_keep)
        clear hK K
        try simp only [Act.put, List.setIfInBounds_toArray, List.set_cons_zero, List.set_cons_succ]
        refine wpAnyH_ready (rs := [8]) (by kernel_rfl) (by simp) (consL rfl (fun K hK => ?step32))
        (refine step_append_sl _ (Value.int .i64) (fun _ => rfl) (by rfl) (.tmp 37) (.tmp 43) 22 (by rfl) (g + 1) 3 ix (.int .i64 0) 8 q1 q2 q3 q4 q5 (by rfl) B lm d YL (by rfl) Y1.tr.o2 _ 1 1 [y] (by rfl) ((Sl.one (enc := Value.int .i64) _ _ _).drewN 1) hk1 hk2 hz6 ?_; intro C9b k9b w9 ho9 hg9 hb9 hd9; have hl9 := Y1.low2 hg9; have r2 := (Y1.row.below hl9 (Nat.lt_succ_self g)).cell 1; have f9 := (Y1.row.below hl9 (Nat.lt_succ_self g)).frozen 1; have a2 := (G1.has.2.1.below hl9 (by omega)).cell 1; have e2 := (hl9.cell (p := ⟨b2, o2 + i, none⟩) (by show b2 < g + 1; omega)).trans e1)
        refine hK.out _ _ ?hS32 (fun hHeld => ?rest32)
        case hS32 => (first | assumption | exact ⟨r0, a0, e0⟩ | exact ⟨r1, a1, e1⟩ | exact ⟨r2, a2, e2⟩ | go_keep)
        clear hK K
        try simp only [Act.put, List.setIfInBounds_toArray, List.set_cons_zero, List.set_cons_succ]
        refine wpAnyH_takeL (i := 9) (v := ?v33) rfl (by kernel_rfl) (by kernel_rfl) (by kernel_rfl) (fun _ _ _ h => h) (by rfl) ?hy33 (by assumption) ?rest33
        case hy33 => (intro w hSw; (try dsimp only at hSw); go_simp; try with_reducible rfl)
        try simp only [Act.put, List.setIfInBounds_toArray, List.set_cons_zero, List.set_cons_succ]
        refine wpAnyH_done (by kernel_rfl) ?_ _
        unfold AheadOf
        go_simp
--RE
        have X1 := Y1.app2 ho9 hg9 (by first | exact hd9 | (rw [World.size_drewN, World.size_alloc]; exact hd9) | (rw [World.size_alloc]; exact hd9))
        clear Y1 G1 ho9 hg9 hb9 hd9 hl9 r0 a0 e0 r1 a1 e1 r2 a2 e2 f9 hz6 hk1 hk2 HY
        generalize w9.setCell ⟨g, 1, none⟩ (.slice C9b (lm + 1) k9b) = we at *
        have e3 : dropAt S p (i + 1) = XL ++ [x] := by rw [HXY.out.1, HXX.out]; exact dropAt_step (by rw [HL.out.1]; exact hlt) HXY.out.2.2.2.2
        have e4 : dropAt Z p (i + 1) = YL ++ [y] := by rw [HXY.out.2.1, HYY.out]; exact dropAt_step (by rw [HL.out.2.1]; exact hlt) HXY.out.2.2.2.2
        have l3 : (dropAt S p (i + 1)).length = ln + 1 := by rw [e3, List.length_append, ← HXY.out.2.2.1]; rfl
        have l4 : (dropAt Z p (i + 1)).length = lm + 1 := by rw [e4, List.length_append, ← HXY.out.2.2.2.1]; rfl
        have HR := Lib.hid (And.intro X1 (And.intro e3 (And.intro e4 (And.intro l3 l4))))
        clear X1 e3 e4 l3 l4
        go_wp2_with fail
        refine ⟨⟨i + 1, C9a, k9a, C9b, k9b, by omega, by go_num, ?_⟩, by simp [intOf]; omega⟩
        rw [HR.out.2.2.2.1, HR.out.2.2.2.2, HR.out.2.1, HR.out.2.2.1]
        exact HR.out.1
    · obtain rfl : i = n := by omega
      have e3 : dropAt S p i = S.take p ++ S.drop (p + 1) := by rw [← HL.out.1]; exact dropAt_end (by rw [HL.out.1]; exact hp)
      have e4 : dropAt Z p i = Z.take p ++ Z.drop (p + 1) := by rw [← HL.out.2.1]; exact dropAt_end (by rw [HL.out.2.1]; exact hp)
      have l3 : (dropAt S p i).length = i - 1 := by rw [dropAt_length (by rw [HL.out.1]; exact hp) (by rw [HL.out.1]; exact Nat.le_refl _), if_neg (by omega)]
      have l4 : (dropAt Z p i).length = i - 1 := by rw [dropAt_length (by rw [HL.out.2.1]; exact hp) (by rw [HL.out.2.1]; exact Nat.le_refl _), if_neg (by omega)]
      rw [l3, l4, e3, e4] at X0
      have X1 := X0
      clear X0 H1 e3 e4 l3 l4
      have p0 := X1.row.cell 0
      have p1' := X1.row.cell 1
      have p2 := X1.row.cell 2
      have hres := (HH.out.step X1.bel).has.1
      have hbw := (HH.out.step X1.bel).bel
      have x0 := hres.cell 0
      have x1 := hres.cell 1
      have x2 := hres.cell 2
      have f0 := hres.frozen 0
      have f1 := hres.frozen 1
      have f2 := hres.frozen 2
      have HE := Lib.hid (And.intro hres (And.intro hbw X1))
      clear hres hbw X1
      go_wp2_with fail
      obtain ⟨wz, hwz⟩ : ∃ wz, wz = (((wo.setCell ⟨w.heap.size + 1, 0, none⟩ (.slice A (i - 1) c)).setCell ⟨w.heap.size + 1, 1, none⟩ (.slice B (i - 1) d)).setCell ⟨w.heap.size + 1, 2, none⟩ (.int .i64 (q : Int))) := ⟨_, rfl⟩
      obtain ⟨y0, y1, y2, hbz, htz⟩ := set3 HE.out.2.1 HE.out.1 (by omega) hwz
      rw [← hwz]
      have T := HE.out.2.2.tr
      refine bodyPost_ret (v := .agg #[.slice A (i - 1) c, .slice B (i - 1) d, .int .i64 (q : Int)]) (by simp [results, Try.results82, go_sem, y0, y1, y2]) rfl ⟨A, c, B, d, rfl, ?_, ?_, hbz⟩
      · exact (T.o1.turn htz (fun q e e2 => by have := T.o1.geT e; have := HGW.out; omega)).mono (show w.heap.size ≤ g + 1 by have := HGW.out; omega)
      · exact (T.o2.turn htz (fun q e e2 => by have := T.o2.geT e; have := HGW.out; omega)).mono (show w.heap.size ≤ g + 1 by have := HGW.out; omega)
end Go.Proofs.Ytgmchedfgdgenaa
