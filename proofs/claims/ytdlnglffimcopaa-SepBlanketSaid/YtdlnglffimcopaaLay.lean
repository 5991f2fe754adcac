/- Plain facts on rows into which cells are laid one after the other. No condition beyond bounds. -/
import Derived.Test.YtdlnglffimcopaaLaws
import Derived.Test.YtdlnglffimcopaaSetMath
import Derived.Laws.IdiomCopy
import Derived.Laws.AppendOwn
namespace Go.Proofs.Ytdlnglffimcopaa
open Go.RowKit

theorem one_cells {w : World} {vb : Nat} {v : Value} (h : w.cell? ⟨vb, 0, none⟩ = some v) : ∀ (j : Nat) (u : Value), [v][j]? = some u → w.cell? ⟨vb, 0 + j, none⟩ = some u
  | 0, u, hu => by
    obtain rfl : v = u := by simpa using hu
    exact h
  | j + 1, u, hu => by simp at hu
/-- a list with things laid over it from a place on -/
def lay {α : Type} (cur : List α) : Nat → List α → List α
  | _, [] => cur
  | o, v :: r => lay (cur.set o v) (o + 1) r
theorem lay_eq {α : Type} : ∀ (vs cur : List α) (o : Nat), o + vs.length ≤ cur.length → lay cur o vs = cur.take o ++ (vs ++ cur.drop (o + vs.length))
  | [], cur, o, h => by simp [lay]
  | v :: r, cur, o, h => by
    simp only [List.length_cons] at h
    rw [lay, lay_eq r (cur.set o v) (o + 1) (by simp; omega)]
    have ho : o < cur.length := by omega
    have e1 : (cur.set o v).take (o + 1) = cur.take o ++ [v] := by
      rw [List.take_add_one, List.take_set_of_le (Nat.le_refl _)]
      simp [ho]
    have e2 : (cur.set o v).drop (o + 1 + r.length) = cur.drop (o + (r.length + 1)) := by
      rw [List.drop_set_of_lt (by omega)]
      congr 1; omega
    rw [e1, e2]
    simp
theorem RowC.lay {g : Nat} {e : TypeId} : ∀ (vs : List Value) (o : Nat) (w : World) (cur : List Value), RowC w g e cur → RowC (w.setCells g o vs) g e (lay cur o vs)
  | [], _, _, _, h => h
  | v :: r, o, w, cur, h => by
    rw [World.setCells, Go.Proofs.Ytdlnglffimcopaa.lay]
    exact RowC.lay r (o + 1) _ _ (h.put o v)
/-- a row shifted by one in place -/
theorem lay_shift {X rest : List Value} {v : Value} {i n : Nat} (hn : X.length = n) (hi : i < n) (hr : 1 ≤ rest.length) :
    lay (lay (X ++ rest) (0 + (i + 1)) (X.drop i)) (0 + i) [v] = (X.take i ++ v :: X.drop i) ++ rest.drop 1 := by
  rw [Nat.zero_add, Nat.zero_add, lay_eq (X.drop i) (X ++ rest) (i + 1) (by simp; omega)]
  have e1 : (X ++ rest).drop (i + 1 + (X.drop i).length) = rest.drop 1 := by
    rw [show i + 1 + (X.drop i).length = X.length + 1 by simp; omega, List.drop_append]
    simp
  rw [e1, lay_eq _ _ _ (by simp; omega)]
  have e2 : ((X ++ rest).take (i + 1) ++ (X.drop i ++ rest.drop 1)).take i = X.take i := by
    rw [List.take_append_of_le_length (by simp; omega), List.take_take, Nat.min_eq_left (by omega), List.take_append_of_le_length (by omega)]
  have e3 : ((X ++ rest).take (i + 1) ++ (X.drop i ++ rest.drop 1)).drop (i + [v].length) = X.drop i ++ rest.drop 1 := by
    have hti : ((X ++ rest).take (i + 1)).length = i + 1 := by simp; omega
    rw [List.drop_append, List.drop_eq_nil_of_le (by rw [hti]; simp), hti]
    simp
  rw [e2, e3]; simp
/-- a new row filled -/
theorem lay_grow {X Z Y : List Value} {v : Value} {i n : Nat} (hn : X.length = n) (hi : i < n) (hZ : Z.length = n + 1 - i) :
    lay (lay (X.take i ++ Z ++ Y) i [v]) (i + 1) (X.drop i) = (X.take i ++ v :: X.drop i) ++ Y := by
  rw [lay_eq [v] _ i (by simp; omega)]
  have e1 : (X.take i ++ Z ++ Y).take i = X.take i := by
    rw [List.append_assoc, List.take_append_of_le_length (by simp; omega), List.take_take, Nat.min_self]
  rw [e1, lay_eq _ _ _ (by simp; omega)]
  have hti : (X.take i).length = i := by simp; omega
  have e2 : (X.take i ++ ([v] ++ (X.take i ++ Z ++ Y).drop (i + [v].length))).take (i + 1) = X.take i ++ [v] := by
    rw [List.take_append, hti, List.take_of_length_le (by omega)]
    simp
  have e3 : (X.take i ++ ([v] ++ (X.take i ++ Z ++ Y).drop (i + [v].length))).drop (i + 1 + (X.drop i).length) = Y := by
    rw [List.drop_append, List.drop_eq_nil_of_le (by simp; omega), hti, List.nil_append, List.drop_append, List.drop_eq_nil_of_le (by simp; omega), List.nil_append, List.drop_drop, List.drop_append, List.drop_eq_nil_of_le (by simp; omega),
      List.nil_append]
    rw [show i + [v].length + (i + 1 + (X.drop i).length - i - [v].length) - (X.take i ++ Z).length = 0 by simp; omega]
    rfl
  rw [e2, e3]; simp
/-- an equal one is in: the list as it was -/
theorem ins_in {α : Type} {c : α → α → Int} (h : CmpOk c) {x : α} : ∀ {l : List α}, Asc c l → isIn c x l = true → ins c x l = l
  | [], _, hi => by simp [isIn] at hi
  | y :: l, ha, hi => by
    obtain ⟨hy, hl⟩ := List.pairwise_cons.1 ha
    unfold ins
    by_cases h1 : c x y < 0
    · exfalso
      obtain ⟨u, hu, h2⟩ := isIn_iff.1 hi
      rcases List.mem_cons.1 hu with rfl | hu
      · have := h.zero_symm h2; omega
      · have h3 := h.lt_trans h1 (hy u hu)
        have := h.zero_symm h2; omega
    · rw [if_neg h1]
      by_cases h2 : c x y = 0
      · rw [if_pos h2]
      · rw [if_neg h2]
        have hyx : ¬ c y x = 0 := fun e => h2 (h.zero_symm e)
        have hin : isIn c x l = true := by simpa [isIn, hyx] using hi
        rw [ins_in h hl hin]
end Go.Proofs.Ytdlnglffimcopaa
