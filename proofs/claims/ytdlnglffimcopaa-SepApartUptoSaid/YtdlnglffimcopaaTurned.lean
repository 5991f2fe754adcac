/- credencelaw16.turned, walked: numbers written over in their place. Conditions: the row is the call's own; lengths within Go's bound. -/
import Derived.Test.YtdlnglffimcopaaLawS3
namespace Go.Proofs.Ytdlnglffimcopaa
open Go.RowKit

/-- a number with its lowest bit turned -/
def flip1 (x : Int) : Int := bits BinOp.xor IntKind.i64 x 1
def flipTo (k : Nat) (xs : List Int) : List Int := (xs.take k).map flip1 ++ xs.drop k
theorem flipTo_length (k : Nat) (xs : List Int) : (flipTo k xs).length = xs.length := by simp [flipTo]; omega
theorem flipTo_nth {k : Nat} {xs : List Int} (h : k < xs.length) : nth (flipTo k xs) k = nth xs k := by
  unfold flipTo
  rw [nth_append_right (by simp; omega)]
  simp only [List.length_map, List.length_take]
  rw [nth_drop]
  congr 1
  omega
theorem flipTo_set {k : Nat} {xs : List Int} (h : k < xs.length) : (flipTo k xs).set k (flip1 (nth xs k)) = flipTo (k + 1) xs := by
  unfold flipTo
  rw [List.set_append_right _ _ (by simp; omega), take_snoc h, List.map_append, List.append_assoc]
  congr 1
  rw [show k - (List.map flip1 (List.take k xs)).length = 0 by simp; omega, List.drop_eq_getElem_cons h]
  rfl
theorem flip_snoc {k : Nat} {xs : List Int} (h : k < xs.length) : (xs.take (k + 1)).map flip1 = (xs.take k).map flip1 ++ [flip1 (nth xs k)] := by rw [take_snoc h]; simp

set_option maxRecDepth 100000 in
set_option maxHeartbeats 400000 in
theorem turned_any (base : Nat) (S : Option Addr) (n m c : Nat) (xs : List Int) (w : World) (h : OwnR (Value.int .i64) w base 3 S m c xs) (hn : n ≤ m) (hb : m * 8 ≤ 140737488351232) :
    Calls Try.prog 58 #[.slice S n c] w fun e w' => ∃ T d, e = .returned (.slice T n d) ∧ OwnR (Value.int .i64) w' base 3 S m c (flipTo n xs) ∧ OwnR (Value.int .i64) w' w.heap.size 3 T n d ((xs.take n).map flip1) ∧ Turn w w' (fun b => S = some ⟨b, 0, none⟩) := by
  obtain ⟨wa, hwa⟩ : ∃ wa : World, wa = w := ⟨_, rfl⟩
  subst hwa
  have hlen := h.length
  have HL := Lib.hid (And.intro h hlen)
  clear h hlen
  go_enter Try.func58, Try.ntmps58
  go_wp2_with fail
  go_loopw [3, 4] (fun v i wr => ∃ (k d : Nat) (T : Option Addr), i = .int .i64 (k : Nat) ∧ v = .slice T k d ∧ k ≤ n ∧ OwnR (Value.int .i64) wr base 3 S m c (flipTo k xs) ∧ OwnR (Value.int .i64) wr wa.heap.size 3 T k d ((xs.take k).map flip1) ∧ Turn wa wr (fun b => S = some ⟨b, 0, none⟩)) (fun _ i _ => n - (intOf i).toNat)
  case atStart => exact ⟨0, 0, none, rfl, rfl, Nat.zero_le _, by simpa [flipTo] using HL.out.1, OwnR.nil _ _ _ _, Turn.refl _ _⟩
  case round =>
    obtain ⟨k, d, T, rfl, rfl, hk, ho, ht, hturn⟩ := hrel
    obtain ⟨wb, hwb⟩ : ∃ wb : World, wb = wr := ⟨_, rfl⟩
    subst hwb
    by_cases hlt : k < n
    · obtain ⟨g, rest, rfl, hbg, hr, hc⟩ := ho.row (by omega)
      have hkl : k < xs.length := by rw [HL.out.2]; omega
      have hfl := flipTo_length k xs
      have g1 := hr.cell (j := k) (by rw [hfl]; exact hkl)
      have f1 := hr.frozen k
      rw [flipTo_nth hkl] at g1
      have ho2 := ho.put (j := k) (by omega) (flip1 (nth xs k))
      rw [flipTo_set hkl] at ho2
      have hr2 := hr.set (j := k) (by rw [hfl]; exact hkl) (flip1 (nth xs k))
      have g2 := hr2.cell (j := k) (by simp; rw [hfl]; exact hkl)
      rw [nth_set_same (by rw [hfl]; exact hkl)] at g2
      have hTg : ∀ x, T = some ⟨x, 0, none⟩ → x ≠ g := fun x e => by
        have h1 := ht.fr x 0 e
        have h2 : g < wa.heap.size := by
          rcases HL.out.1.at_row with h3 | ⟨g', h3, _, h4⟩
          · cases h3
          · injection h3 with h3; injection h3 with h3; omega
        omega
      have ht2 := ht.setFar (p := ⟨g, k, none⟩) (fun x e => hTg x e) (.int .i64 (flip1 (nth xs k)))
      have hu2 := hturn.setCell ⟨g, k, none⟩ (fun _ => rfl) (.int .i64 (flip1 (nth xs k)))
      have hsn := flip_snoc hkl
      generalize nth xs k = y at *
      have hg : g < wa.heap.size := by
        rcases HL.out.1.at_row with h3 | ⟨g', h3, _, h4⟩
        · cases h3
        · injection h3 with h3; injection h3 with h3; omega
      have hbs : wa.heap.size ≤ ((wb.setCell ⟨g, k, none⟩ (.int .i64 (flip1 y))).alloc (.cells #[.int .i64 (flip1 y)] 3)).heap.size := by have := hu2.size; simp [World.setCell] at this ⊢; omega
      have ht3 := ht2.alloc (.cells #[.int .i64 (flip1 y)] 3)
      have hone : Sl (Value.int .i64) ((wb.setCell ⟨g, k, none⟩ (.int .i64 (flip1 y))).alloc (.cells #[.int .i64 (flip1 y)] 3)) (some ⟨wb.heap.size, 0, none⟩) 1 [flip1 y] := by
        have := Sl.one (enc := Value.int .i64) (wb.setCell ⟨g, k, none⟩ (.int .i64 (flip1 y))) 3 (flip1 y)
        rwa [show (wb.setCell ⟨g, k, none⟩ (.int .i64 (flip1 y))).heap.size = wb.heap.size by simp [World.setCell]] at this
      have hk8 : (k + 1) * 8 ≤ 140737488355328 := by omega
      have HS := Lib.hid (And.intro ho2 (And.intro hu2 (And.intro hsn (And.intro hg ht2))))
      clear ho ht hturn ho2 ht2 hu2 hsn hr hr2 hc hkl hfl hTg
      go_wp2_with (first
        | (at_builtin; (refine wpList_app _ eiInt (Value.int .i64) (fun _ => rfl) rfl _ _ rfl wa.heap.size _ _ _ _ rfl ht3 _ _ _ _ rfl hone hk8 hbs ?_))
        | fail)
      intro A9 c9 w9 ho9 hg9 hb9 hd9
      obtain ⟨ho2, hu2, hsn, hg, ht2⟩ := HS.out
      have hTb : ∀ b, (Value.slice T k d).ownBlock = some b → wa.heap.size ≤ b := fun b e => ht2.fr b 0 (ht2.ownBlock_eq e)
      have hfin : OwnR (Value.int .i64) w9 base 3 (some ⟨g, 0, none⟩) m c (flipTo (k + 1) xs) := (ho2.alloc _).grown hg9 fun x e e2 => by
        injection e with e; injection e with e
        have := hTb x e2; omega
      have hfu : Turn wa w9 (fun b => some (⟨g, 0, none⟩ : Addr) = some ⟨b, 0, none⟩) := (hu2.alloc _).trans (Turn.of_grown hg9) fun x hx e => by have := hTb x e; omega
      rw [← List.map_take, ← hsn] at ho9
      have HF := Lib.hid (And.intro hfin (And.intro hfu ho9))
      clear ho2 hu2 hsn ht2 hTb hfin hfu ho9 hg9 hb9 hd9 ht3
      go_wp2_with fail
      exact ⟨⟨k + 1, c9, A9, by go_num, rfl, by omega, HF.out.1, HF.out.2.2, HF.out.2.1⟩, by simp [intOf]; omega⟩
    · obtain rfl : k = n := by omega
      have HD := Lib.hid (And.intro ho (And.intro ht hturn))
      clear ho ht hturn
      go_wp2_with fail
      go_ret
      exact ⟨T, d, rfl, HD.out.1, HD.out.2.1, HD.out.2.2⟩
end Go.Proofs.Ytdlnglffimcopaa
