/- slices.Insert at int: the library's own proved contract, laid at this program. No condition. -/
import Derived.Shelf.Spec.SlicesInsert
import Derived.Shelf.Spec.SlicesInsertGrow
import Derived.Test.YtdlnglffimcopaaLay
namespace Go.Proofs.Ytdlnglffimcopaa
open Go.RowKit Go.Shelf
namespace SoI
def insRen : Ren :=
  { f := fun | 21 => 87 | 27 => 105 | 28 => 106 | 35 => 117 | 39 => 132 | n => n
    t := fun | 22 => 23 | 3 => 3 | 4 => 4 | 0 => 0 | n => n
    g := fun n => n }
theorem insLay : Lays2.n21 Try.prog insRen where
  mixed := by kernel_rfl
  f21 := Try.func87.trans (congrArg some (by kernel_rfl))
  f27 := Try.func105.trans (congrArg some (by kernel_rfl))
  f28 := Try.func106.trans (congrArg some (by kernel_rfl))
  f35 := Try.func117.trans (congrArg some (by kernel_rfl))
  f39 := Try.func132.trans (congrArg some (by kernel_rfl))
  t0 := Try.underlying0
  a0 := Try.isAgg0
  z0 := Try.sizeOf0
  v0 := Try.zeroValue0
  t3 := Try.underlying3
  a3 := Try.isAgg3
  z3 := Try.sizeOf3
  v3 := Try.zeroValue3
  t4 := Try.underlying4
  a4 := Try.isAgg4
  z4 := Try.sizeOf4
  v4 := Try.zeroValue4
  t22 := Try.underlying23
  a22 := Try.isAgg23
  z22 := Try.sizeOf23
  v22 := Try.zeroValue23
  i3 := by kernel_rfl
theorem ins_shift (g n c i vb : Nat) (cs : List Value) (v : Value) (w : World) (hi : i < n) (hroom : n + 1 ≤ c) (hc63 : c ≤ 9223372036854775807) (hvb : vb ≠ g) (hcl : cs.length = n)
    (hcs : ∀ j u, cs[j]? = some u → w.cell? ⟨g, 0 + j, none⟩ = some u) (hsp : ∀ j, j < n + 1 → (w.cell? ⟨g, 0 + j, none⟩).isSome = true) (hfz : ∀ j, j < n + 1 → w.frozen? ⟨g, 0 + j, none⟩ = false)
    (hvs : w.cell? ⟨vb, 0, none⟩ = some v) (h1c : ∀ u ∈ cs, u.oneCell' = true) (h1v : v.oneCell' = true)
    (tA tB : TypeId) (kA kB : Nat) (hsa : w.shape? vb = some (tA, kA)) (hsb : w.shape? g = some (tB, kB)) (hkB : kB ≠ 0) (hfa : w.frozen? ⟨vb, 0, none⟩ = false) (hfe : w.frozen? ⟨vb, kA, none⟩ = false) :
    Calls Try.prog 87 #[.slice (some ⟨g, 0, none⟩) n c, .int .i64 i, .slice (some ⟨vb, 0, none⟩) 1 1] w fun e w' =>
      e = .returned (.slice (some ⟨g, 0, none⟩) (n + 1) c) ∧ w' = (w.drew.setCells g (0 + (i + 1)) (cs.drop i)).setCells g (0 + i) [v] :=
  Any2.slices_Insert_int_shift insLay g 0 n c i vb 0 1 1 cs [v] w hi (by omega) hroom hc63 hvb hcl rfl hcs hsp hfz
    (one_cells hvs) h1c (by simpa using h1v) tA tB kA kB hsa hsb hkB hfa hfe
theorem ins_grow (g n c i vb : Nat) (cs : List Value) (v : Value) (w : World) (hi : i < n) (hnc : n ≤ c) (hroom : c < n + 1) (hbig : (n + 1) * 8 ≤ 140737488355328) (hcl : cs.length = n)
    (hcs : ∀ j u, cs[j]? = some u → w.cell? ⟨g, 0 + j, none⟩ = some u) (hvs : w.cell? ⟨vb, 0, none⟩ = some v) (h1c : ∀ u ∈ cs, u.oneCell' = true) (h1v : v.oneCell' = true) :
    Calls Try.prog 87 #[.slice (some ⟨g, 0, none⟩) n c, .int .i64 i, .slice (some ⟨vb, 0, none⟩) 1 1] w fun e w' => ∃ (Z Y : List Value) (cap : Nat), Z.length = n + 1 - i ∧ Y.length = cap - (n + 1) ∧ n + 1 ≤ cap ∧ cap ≤ maxLen ∧
      e = .returned (.slice (some ⟨w.heap.size, 0, none⟩) (n + 1) cap) ∧ w' = (((w.alloc (.cells (cs.take i ++ Z ++ Y).toArray 3)).drew.setCells w.heap.size i [v]).drew).setCells w.heap.size (i + 1) (cs.drop i) := by
  refine (Any2.slices_Insert_int_grow insLay g 0 n c i vb 0 1 1 cs [v] w hi (by omega) hnc hroom hbig hcl rfl hcs
    (one_cells hvs) h1c (by simpa using h1v)).mono ?_
  rintro e w' ⟨rfl, rfl⟩
  refine ⟨(Builtin.zeroCells (Value.int IntKind.i64 0).cells (n + 1 - i)).toList, (Builtin.zeroCells (Value.int IntKind.i64 0).cells (grownCap w (n + 1) c 3 - (n + 1))).toList, grownCap w (n + 1) c 3,
    by rw [Array.length_toList, size_zeroCells]; simp [Value.cells], by rw [Array.length_toList, size_zeroCells]; simp [Value.cells], grownCap_ge _ _ _ _, grownCap_le_maxLen _ _ _ _ (by unfold maxLen; omega), rfl, ?_⟩
  congr 6
  simp
  rfl
end SoI
end Go.Proofs.Ytdlnglffimcopaa
