/- sep's view.far: its closure, walked: a state is put behind the list of another one. Conditions: the captured variables and the lists are the call's own. -/
import Derived.Test.YtdlnglffimcopaaHeads
namespace Go.Proofs.Ytdlnglffimcopaa
open Go.RowKit

theorem cells_row {w : World} {g : Nat} {e : TypeId} {vs : List Value} (h : RowC w g e vs) (j : Nat) (u : Value) (hj : vs[j]? = some u) : w.cell? ((⟨g, 0, none⟩ : Addr).add j) = some u := by
  rw [Addr.add_lit, Nat.zero_add, h.cell j]; exact hj
def BappPost (n : Nat) (kx : Nat → Prop) (mb cnt : Nat) (hd : St → Hd) (lst : St → List St) (s f : St) (w : World) (e : Ending) (w' : World) : Prop :=
  e = .returned (.tuple #[]) ∧ (∃ hd', Back n kx mb (cnt + 1) hd' (fun t => if t = s then lst s ++ [f] else lst t) w') ∧ Turn w w' (fun b => b = mb ∨ ∃ off, (hd s).1 = some ⟨b, off, none⟩)

set_option maxRecDepth 100000 in
set_option maxHeartbeats 800000 in
theorem bapp_any (n : Nat) (kx : Nat → Prop) (mb cnt sb fb : Nat) (hd : St → Hd) (lst : St → List St) (s f : St) (w : World) (hn : n * 64 ≤ 140737488351232) (hs : s.1 < n) (hcnt : cnt < maxLen) (hls : ((lst s).length + 1) * 16 ≤ 140737488355328)
    (h : Back n kx mb cnt hd lst w) (hsb : RowC w sb 92 [.map (some mb)]) (hfb : RowC w fb 66 [.int .i64 (f.1 : Int), .bool f.2]) :
    Calls Try.prog 84 #[sV s, .pointer (some ⟨sb, 0, none⟩), .pointer (some ⟨fb, 0, none⟩)] w (BappPost n kx mb cnt hd lst s f w) := by
  obtain ⟨wa, hwa⟩ : ∃ wa : World, wa = w := ⟨_, rfl⟩
  subst hwa
  have hok : okS s := by unfold okS; omega
  have hk := (h.own s hs).len
  rw [cellsS_length] at hk
  have hb1 : Below wa.heap.size wa (wa.alloc (.cells #[.int .i64 (s.1 : Int), .bool s.2] 66)) := (Below.refl _ _).alloc (Nat.le_refl _) _
  have hb2 : Below wa.heap.size wa ((wa.alloc (.cells #[.int .i64 (s.1 : Int), .bool s.2] 66)).alloc (.cells #[.int .i64 (f.1 : Int), .bool f.2] 66)) := hb1.alloc (by simp) _
  have H2 := h.step hb2
  have hmlt := h.map.lt
  have hq1 := RowC.new wa 66 [.int .i64 (s.1 : Int), .bool s.2]
  have hs1 := hsb.below' hb1
  have hf1 := hfb.below' hb1
  have q0 := hq1.cell 0
  have q1 := hq1.cell 1
  have s0 := hs1.cell 0
  have f0 := hf1.cell 0
  have f1 := hf1.cell 1
  simp only [List.getElem?_cons_zero, List.getElem?_cons_succ] at q0 q1 s0 f0 f1
  have hmap2 := H2.map
  have hrow2 := RowC.new (wa.alloc (.cells #[.int .i64 (s.1 : Int), .bool s.2] 66)) 66 [.int .i64 (f.1 : Int), .bool f.2]
  have hkk : (hd s).2.1 = (lst s).length := by omega
  have hsz2 : ((wa.alloc (.cells #[.int .i64 (s.1 : Int), .bool s.2] 66)).alloc (.cells #[.int .i64 (f.1 : Int), .bool f.2] 66)).heap.size = wa.heap.size + 2 := by simp
  have HB := Lib.hid (And.intro h (And.intro H2 (And.intro hb2 (And.intro hrow2 (And.intro hsz2 (And.intro hkk hls))))))
  clear h H2 hsb hfb hq1 hs1 hf1 hb1 hb2 hrow2 hsz2 hkk hk hls
  go_enter Try.func84, Try.ntmps84
  go_wp2_with (first
    | (refine wpList_entry_H _ rfl _ _ rfl mb cnt _ rfl hmap2 hcnt s rfl hok ?_)
    | fail)
  intro st w3 hg3 hE
  obtain ⟨h, H2, hb2, hrow2, hsz2, hkk, hls⟩ := HB.out
  have hm2 := H2.map.lt
  have hrw : ∀ off g, (hd s).1 = some ⟨g, off, none⟩ → mb < g := fun off g e => (h.row hs e).1
  have own3 := (H2.own s hs).turn (Turn.of_grown hg3) (fun g off e e2 => by injection e2 with e2; have := hrw off g e; omega)
  have hsz3 := hg3.size
  rw [show (wa.alloc (.cells #[.int .i64 (s.1 : Int), .bool s.2] 66)).heap.size = wa.heap.size + 1 by simp] at hrow2
  have hrow3 := hrow2.grown hg3 (by intro e; injection e; omega)
  have hk16 : ((hd s).2.1 + 1) * 16 ≤ 140737488355328 := by omega
  have hbase : mb + 1 ≤ w3.heap.size := by omega
  have HC := Lib.hid (And.intro hb2 (And.intro H2 (And.intro hrw (And.intro hsz3 (And.intro hg3 (And.intro hbase hsz2))))))
  clear hb2 H2 hrw hsz3 hg3 hrow2 hm2 hsz2 h hkk hls HB hmap2 q0 q1 s0 f0 f1
  obtain ⟨i, e1, e2, e3, e4, e5⟩ := infoState
  go_wp2_with (first
    | (at_builtin; refine wpList_app_q _ rfl _ _ 86 rfl 66 i _ 2 16 e1 e2 e3 e4 e5 (by simp [Value.cells]) (by omega) (mb + 1) _ _ _ _ rfl own3 hbase ⟨wa.heap.size + 1, 0, none⟩ 1 1 [.int .i64 (f.1 : Int), .bool f.2] rfl rfl (cells_row hrow3) (by intro u hu; simp at hu; rcases hu with rfl | rfl <;> rfl) hk16 (by omega) ?_)
    | fail)
  intro A9 c9 w9 ho9 ht9 hd9
  have hb9 : w9.heap[mb]? = w3.heap[mb]? := ht9.block mb (by omega) (fun ⟨off, e⟩ => by have := HC.out.2.2.1 off mb e; omega)
  have HD := Lib.hid (And.intro ho9 (And.intro ht9 hd9))
  clear ho9 ht9 hd9 own3 hrow3 hk16
  go_wp2_with (first
    | (refine wpList_entryStore_H _ rfl _ _ _ rfl hE rfl rfl (A9, (hd s).2.1 + 1, c9) rfl hb9 ?_)
    | fail)
  intro w10 hg10 hm10
  have HF := Lib.hid (And.intro hg10 hm10)
  clear hg10 hm10 hE hb9
  go_wp2_with fail
  go_end0
  obtain ⟨hb2, H2, hrw, hsz3, hg3, hbase, hsz2⟩ := HC.out
  obtain ⟨ho9, ht9, hd9⟩ := HD.out
  obtain ⟨hg10, hm10⟩ := HF.out
  have hcs : cellsS (lst s) ++ [.int .i64 (f.1 : Int), .bool f.2] = cellsS (lst s ++ [f]) := by rw [cellsS_append]; rfl
  rw [hcs] at ho9
  have ht29 : Turn ((wa.alloc (.cells #[.int .i64 (s.1 : Int), .bool s.2] 66)).alloc (.cells #[.int .i64 (f.1 : Int), .bool f.2] 66)) w9 (fun b => b = mb ∨ ∃ off, (hd s).1 = some ⟨b, off, none⟩) :=
    ((Turn.of_grown hg3).mono (fun x _ e => by injection e with e; exact .inl e.symm)).trans ht9 (fun x _ e => .inr e)
  refine ⟨rfl, ⟨_, (Back.app H2 hs ho9 ht29 (fun g off e => ?_) hm10 hg10).weak fun b hb => .inl hb⟩, ?_⟩
  · rcases hd9 g off e with h1 | h1
    · exact .inl h1
    · exact .inr (by omega)
  · exact ((Turn.of_below hb2 _).trans ht29 (fun x _ e => e)).trans (Turn.of_grown hg10) (fun x _ e => by injection e with e; exact .inl e.symm)
end Go.Proofs.Ytdlnglffimcopaa
