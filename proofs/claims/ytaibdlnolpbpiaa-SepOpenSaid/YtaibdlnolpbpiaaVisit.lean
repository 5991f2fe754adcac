/- dag.reach's closure, walked: a point that was not seen is put in. Conditions: the captured variables are the call's own. -/
import Derived.Test.YtaibdlnolpbpiaaFits
import Derived.Test.YtaibdlnolpbpiaaHeap
namespace Go.Proofs.Ytaibdlnolpbpiaa
open Go.RowKit

/-- a captured map of what was seen, and a captured list -/
structure Vis (wa wr : World) (mb sb ob : Nat) (A : Option Addr) (k c : Nat) (L : List Nat) : Prop where
  map : MapI Try.prog 3 3 wr mb k (seenI (castL L))
  sc : RowC wr sb 91 [.map (some mb)]
  oc : RowC wr ob 23 [.slice A k c]
  oo : OwnR eN wr (ob + 1) 3 A k c L
  lt1 : mb < sb
  lt2 : sb < ob
  bel : Below mb wa wr
section
variable {wa wr w' : World} {mb sb ob k c : Nat} {L : List Nat} {A : Option Addr}
theorem Vis.row (h : Vis wa wr mb sb ob A k c L) {b : Nat} (e : A = some ⟨b, 0, none⟩) : ob < b ∧ b < wr.heap.size := by
  rcases h.oo.at_row with h1 | ⟨g', h1, h2, h3⟩
  · rw [e] at h1; cases h1
  · rw [e] at h1; injection h1 with h1; injection h1 with h1; omega
theorem Vis.step (h : Vis wa wr mb sb ob A k c L) (hb : Below wr.heap.size wr w') : Vis wa w' mb sb ob A k c L :=
  ⟨h.map.below hb, h.sc.below' hb, h.oc.below' hb, h.oo.below (Nat.le_refl _) hb, h.lt1, h.lt2, h.bel.trans (hb.mono (Nat.le_of_lt h.map.lt))⟩
end
def VisPost (wa : World) (mb sb ob : Nat) (L : List Nat) (x : Nat) (e : Ending) (w' : World) : Prop :=
  e = .returned (.tuple #[]) ∧ ∃ A' k' c', Vis wa w' mb sb ob A' k' c' (if x ∈ L then L else L ++ [x])

set_option maxRecDepth 100000 in
set_option maxHeartbeats 1600000 in
theorem visit_any (wa : World) (mb sb ob : Nat) (A : Option Addr) (k c : Nat) (L : List Nat) (x : Nat) (w : World) (h : Vis wa w mb sb ob A k c L) (hx : x ≤ 140737488351232) (hk : (k + 1) * 8 ≤ 140737488355328) :
    Calls Try.prog 75 #[.int .i64 (x : Int), .pointer (some ⟨sb, 0, none⟩), .pointer (some ⟨ob, 0, none⟩)] w (VisPost wa mb sb ob L x) := by
  obtain ⟨w0, hw0⟩ : ∃ w0 : World, w0 = w := ⟨_, rfl⟩
  subst hw0
  have r1 := h.sc.cell 0
  have hmap := h.map
  have hwf : (Lit.int .i64 (x : Int)).wf = true := WalkArith.wf_i64 (by omega)
  have hval := seenI_val (castL L) (x : Int)
  have hlt1 := h.lt1
  have hlt2 := h.lt2
  have hsz := Nat.le_of_lt h.map.lt
  have HV := Lib.hid h; clear h
  by_cases hin : x ∈ L
  · have hc : (castL L).contains (x : Int) = true := by rw [List.contains_iff_mem]; exact mem_castL.2 hin
    rw [hc] at hval
    have HH := Lib.hid (And.intro hval hin); clear hval hc hin
    go_enter Try.func75, Try.ntmps75
    go_wp2_with (first
      | (at_lookup; refine wpList_look_I _ rfl _ _ 91 rfl 3 3 Try.underlying3 Try.underlying91 Try.underlying3 (zeroI _) mb k _ rfl hmap _ rfl hwf ?_; rw [HH.out.1])
      | fail)
    go_end0
    exact ⟨rfl, A, k, c, by rw [if_pos HH.out.2]; exact HV.out⟩
  · have hc : (castL L).contains (x : Int) = false := by rw [← Bool.not_eq_true, List.contains_iff_mem]; exact fun h => hin (mem_castL.1 h)
    rw [hc] at hval
    have HH := Lib.hid (And.intro hval hin); clear hval hc hin
    go_enter Try.func75, Try.ntmps75
    go_wp2_with (first
      | (at_lookup; refine wpList_look_I _ rfl _ _ 91 rfl 3 3 Try.underlying3 Try.underlying91 Try.underlying3 (zeroI _) mb k _ rfl hmap _ rfl hwf ?_; rw [HH.out.1])
      | (at_mapUpdate; refine wpList_store_I _ rfl _ _ _ 91 rfl 3 3 Try.underlying3 Try.underlying91 Try.underlying3 mb k _ rfl hmap (by unfold maxLen; omega) _ rfl hwf 1 rfl (by decide) ?_)
      | fail)
    intro w1 hm1 hg1
    have hs1 := HV.out.sc.grown hg1 (by intro e; injection e; omega)
    have ho1 := HV.out.oc.grown hg1 (by intro e; injection e; omega)
    have hr1 := HV.out.oo.grown hg1 (fun g e e2 => by injection e2 with e2; have := (HV.out.row e).1; omega)
    have hb1 := HV.out.bel.grown hg1 hsz (fun g e => by cases e; exact Nat.le_refl _)
    have r2 := ho1.cell 0
    have hos := hr1.alloc (.cells #[.int .i64 (x : Int)] 3)
    have hol := ho1.lt
    have H1 := Lib.hid (And.intro hm1 (And.intro hs1 (And.intro ho1 (And.intro hr1 hb1)))); clear hm1 hs1 ho1 hr1 hb1 hg1 hmap r1
    go_wp2_with (first
      | (at_builtin; refine wpList_app _ eiInt eN one_eN rfl _ _ rfl (ob + 1) _ _ _ _ rfl hos _ _ _ _ rfl (Sl.one (enc := eN) _ _ _) (by omega) (by simp; omega) ?_)
      | fail)
    intro A9 c9 w9 ho9 hg9 _ hd9
    have hob : ∀ b, (Value.slice A k c).ownBlock = some b → A = some ⟨b, 0, none⟩ := fun b e => by
      rcases HV.out.oo.at_row with h1 | ⟨g', h1, _⟩
      · rw [h1] at e; cases e
      · rw [h1] at e ⊢; injection e with e; rw [← e]
    have hne : ∀ b, b ≤ ob → some b ≠ (Value.slice A k c).ownBlock := fun b hb e => by have := (HV.out.row (hob b e.symm)).1; omega
    have hm2 := (H1.out.1.alloc (.cells #[.int .i64 (x : Int)] 3)).grown hg9 (hne mb (by omega))
    have hs2 := (H1.out.2.1.alloc (.cells #[.int .i64 (x : Int)] 3)).grown hg9 (hne sb (by omega))
    have ho2 := (H1.out.2.2.1.alloc (.cells #[.int .i64 (x : Int)] 3)).grown hg9 (hne ob (Nat.le_refl _))
    have hb2 := (H1.out.2.2.2.2.alloc (by omega) (.cells #[.int .i64 (x : Int)] 3)).grown hg9 (by simp; omega) (fun g e => by have := (HV.out.row (hob g e)).1; omega)
    have r3 := ho2.cell 0
    have f3 := ho2.frozen 0
    have hfin : Vis wa (w9.setCell ⟨ob, 0, none⟩ (.slice A9 (k + 1) c9)) mb sb ob A9 (k + 1) c9 (L ++ [x]) := by
      refine ⟨(hm2.congr fun y => ?_).setCell (by simp; omega) _, hs2.far (by simp; omega) _, ho2.put 0 _, ho9.setFar (fun b e => ?_) _, hlt1, hlt2, hb2.setCell (p := ⟨ob, 0, none⟩) (by simp; omega) _⟩
      · rw [castL_snoc]; exact seenI_snoc _ _ _
      · rcases ho9.at_row with h1 | ⟨g', h1, h2, _⟩
        · rw [e] at h1; cases h1
        · rw [e] at h1; injection h1 with h1; injection h1 with h1; simp; omega
    have HF := Lib.hid hfin; clear hfin hm2 hs2 ho2 hb2 ho9 hg9 hd9 r2
    go_wp2_with fail
    go_end0
    exact ⟨rfl, A9, k + 1, c9, by rw [if_neg HH.out.2]; exact HF.out⟩
end Go.Proofs.Ytaibdlnolpbpiaa
