/- slices.SortStableFunc at int, of a slice that the call owns. Condition: a length that Go's bound lets in. -/
import Derived.Test.YtdlnglffimcopaaSort4I
import Derived.Test.YtdlnglffimcopaaLaws
namespace Go.Proofs.Ytdlnglffimcopaa
open Go.RowKit
namespace SoI

/-- what SortStableFunc does to a row that the call owns -/
theorem sort_row (hs : Swo lt) (g n c : Nat) (xs : List Int) (rest : List Value) (w : World) (hr : RowAt (Value.int .i64) w g 3 xs rest) (hn : xs.length = n) (hbig : n ≤ 140737488351232) :
    Calls Try.prog 80 #[.slice (some ⟨g, 0, none⟩) n c, .func (.func 81) #[] #[]] w fun e w' =>
      e = .returned (.tuple #[]) ∧ (∃ S : List Z, S.Perm xs.zipIdx ∧ Srt lt S ∧ RowAt (Value.int .i64) w' g 3 (S.map Prod.fst) rest) ∧ w.grownBy w' (some g) := by
  have hz : RowAt enc w g 3 xs.zipIdx rest := by
    unfold RowAt at hr ⊢
    rw [hr]
    congr 4
    apply List.ext_getElem <;> simp [enc]
  have hu : Ups xs.zipIdx := by
    unfold Ups
    rw [List.pairwise_iff_getElem]
    intro i j hi hj hij
    simpa using hij
  have H := stable hs g n c xs.zipIdx rest w hz (by simpa using hn) hbig hu
  have H' := Lib.hid H; clear H hz hu hr hn
  go_enter Try.func80, Try.ntmps80
  go_wp2_with fail
  refine H'.out.mono ?_
  rintro e w' ⟨rfl, ⟨S, h1, h2, h3⟩, hg⟩
  go_wp2_with fail
  go_end0
  refine ⟨rfl, ⟨S, h1, h2, ?_⟩, hg⟩
  unfold RowAt at h3 ⊢
  rw [h3]
  simp only [List.map_map]
  rfl
theorem ins_none (A : Option Addr) (c : Nat) (f : Value) (w : World) : Calls Try.prog 115 #[.slice A 0 c, .int .i64 0, .int .i64 0, f] w fun e w' => e = .returned (.tuple #[]) ∧ w = w' := by
  go_enter Try.func115, Try.ntmps115
  go_wp2_with fail
  go_loop [8] (fun i => i = .int .i64 1) (fun _ => 0)
  case atStart => rfl
  case round =>
    subst hrel
    go_wp2_with fail
    go_end0
    exact ⟨rfl, rfl⟩
theorem stable_none (A : Option Addr) (c : Nat) (f : Value) (w : World) : Calls Try.prog 103 #[.slice A 0 c, .int .i64 0, f] w fun e w' => e = .returned (.tuple #[]) ∧ w = w' := by
  go_enter Try.func103, Try.ntmps103
  go_wp2_with fail
  go_loop [7, 8] (fun a b => a = .int .i64 0 ∧ b = .int .i64 20) (fun _ _ => 0)
  case atStart => exact ⟨rfl, rfl⟩
  case round =>
    obtain ⟨rfl, rfl⟩ := hrel
    go_wp2_with fail
    refine (ins_none A c f _).mono ?_
    rintro e w' ⟨rfl, rfl⟩
    go_wp2_with fail
    go_loop [6] (fun s => s = .int .i64 20) (fun _ => 0)
    case atStart => rfl
    case round =>
      subst hrel
      go_wp2_with fail
      go_end0
      exact ⟨rfl, rfl⟩
theorem sort_none (A : Option Addr) (c : Nat) (f : Value) (w : World) : Calls Try.prog 80 #[.slice A 0 c, f] w fun e w' => e = .returned (.tuple #[]) ∧ w = w' := by
  go_enter Try.func80, Try.ntmps80
  go_wp2_with fail
  refine (stable_none A c f _).mono ?_
  rintro e w' ⟨rfl, rfl⟩
  go_wp2_with fail
  go_end0
  exact ⟨rfl, rfl⟩
/-- slices.SortStableFunc of a slice that the call owns -/
theorem sort_any (hs : Swo lt) (base : Nat) (A : Option Addr) (n c : Nat) (xs : List Int) (w : World) (h : OwnR (Value.int .i64) w base 3 A n c xs) (hbig : n ≤ 140737488351232) (hB : base ≤ w.heap.size) :
    Calls Try.prog 80 #[.slice A n c, .func (.func 81) #[] #[]] w fun e w' =>
      e = .returned (.tuple #[]) ∧ (∃ S : List Z, S.Perm xs.zipIdx ∧ Srt lt S ∧ OwnR (Value.int .i64) w' base 3 A n c (S.map Prod.fst)) ∧ Below base w w' := by
  rcases Nat.eq_zero_or_pos n with rfl | hn
  · obtain rfl : xs = [] := List.eq_nil_of_length_eq_zero h.length
    refine (sort_none A c _ w).mono ?_
    rintro e w' ⟨rfl, rfl⟩
    exact ⟨rfl, ⟨[], List.Perm.refl _, List.Pairwise.nil, h⟩, Below.refl _ _⟩
  · obtain ⟨g, rest, rfl, hbg, hr, hcap⟩ := h.row hn
    refine (sort_row hs g n c xs rest w hr h.length hbig).mono ?_
    rintro e w' ⟨rfl, ⟨S, h1, h2, h3⟩, hg⟩
    have hl : (S.map Prod.fst).length = n := by rw [List.length_map, h1.length_eq, List.length_zipIdx, h.length]
    exact ⟨rfl, ⟨S, h1, h2, OwnR.of_row' h3 hbg (by rw [hl]; exact hcap) h.capmax hl⟩, grown_below hg hbg hB⟩
end SoI
end Go.Proofs.Ytdlnglffimcopaa
