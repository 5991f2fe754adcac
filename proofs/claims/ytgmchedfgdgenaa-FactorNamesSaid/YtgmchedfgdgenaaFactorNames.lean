/- credencelaw13.FactorNames, walked: it returns true. No condition. -/
import Derived.Test.YtgmchedfgdgenaaAlive13
import Derived.Test.YtgmchedfgdgenaaTimesB
namespace Go.Proofs.Ytgmchedfgdgenaa.FactorNames
open Go.RowKit
attribute [local go_sem] Oper.semAt_some

theorem fn_err : timesErr [0] [65536] 65536 [1] [65536] 65536 = 4 := by kernel_rfl
theorem fn_check : checkC [0, 1] [65536, 65536] 0 = 4 := by kernel_rfl
set_option maxRecDepth 100000 in
set_option maxHeartbeats 200000 in
theorem law (w : World) : Calls Try.prog 4 #[] w fun e w' => e = .returned (.bool true) ∧ Below w.heap.size w w' := by
  obtain ⟨wa, hwa⟩ : ∃ wa : World, wa = w := ⟨_, rfl⟩
  subst hwa
  obtain ⟨K, hK⟩ : ∃ K : Nat, K = 65536 := ⟨_, rfl⟩
  have hKi : (65536 : Int) = (K : Int) := by rw [hK]; rfl
  have hKm : 1 * K ≤ 281474976710656 := by omega
  have HK := Lib.hid hK
  clear hK
  have H0 := ((Held.init wa).lit [0] (by simp)).lit [(K : Int)] (by simp)
  simp only [World.size_alloc, List.map_cons, List.map_nil] at H0
  have HH := Lib.hid H0
  clear H0
  go_enter Try.func4, Try.ntmps4
  go_wp2_with (first
    | (at_make; refine wpList_mk _ eiB Value.bool false rfl rfl _ _ rfl K (congrArg (Value.int .i64) hKi) (congrArg (Value.int .i64) hKi) hKm ?_)
    | fail)
  intro w1 hr hb1
  have sb : Sl Value.bool w1 (some ⟨wa.heap.size + 1 + 1, 0, none⟩) K (List.replicate K false) := by
    have := hr.sl (by rw [List.length_replicate]; have := HK.out; omega)
    rw [List.length_replicate] at this
    exact this
  have H1 := (HH.out.step (show Below ((wa.alloc (.cells #[.int .i64 0] 3)).alloc (.cells #[.int .i64 (K : Int)] 3)).heap.size _ w1 by simpa using hb1)).sl sb
  clear hr hb1 sb HH
  have H2 := H1.new 50 [.slice (some ⟨wa.heap.size, 0, none⟩) 1 1, .slice (some ⟨wa.heap.size + 1, 0, none⟩) 1 1, .slice (some ⟨wa.heap.size + 1 + 1, 0, none⟩) K K]
  have H3 := H2.new 50 [.slice (some ⟨w1.heap.size + 1 + 1, 0, none⟩) 1 1, .slice (some ⟨wa.heap.size + 1, 0, none⟩) 1 1, .slice (some ⟨wa.heap.size + 1 + 1, 0, none⟩) K K]
  clear H1 H2
  have H4 := H3.lit [1] (by simp)
  simp only [World.size_alloc, List.map_cons, List.map_nil] at H4
  clear H3
  go_wp2_with fail
  refine (times_b (some ⟨wa.heap.size, 0, none⟩) (some ⟨wa.heap.size + 1, 0, none⟩) (some ⟨wa.heap.size + 1 + 1, 0, none⟩) (some ⟨w1.heap.size + 1 + 1, 0, none⟩) (some ⟨wa.heap.size + 1, 0, none⟩) (some ⟨wa.heap.size + 1 + 1, 0, none⟩) 1 1 1 1 K K 1 1 1 1 K K [0] [(K : Int)] [1] [(K : Int)] (List.replicate K false) (List.replicate K false) _ H4.has.2.2.2.2.2.1 H4.has.2.2.2.2.1 H4.has.2.2.2.1 H4.has.1 H4.has.2.2.2.2.1 H4.has.2.2.2.1 (by omega) (fun _ _ _ _ => trivial)).mono ?_
  intro e w2 hp
  unfold TimesPost_b at hp
  rw [List.length_replicate] at hp
  have herr : timesErr [0] [(K : Int)] K [1] [(K : Int)] K = 4 := by rw [HK.out]; exact fn_err
  rcases hp with ⟨_, rfl, hb⟩ | ⟨h, _⟩
  · rw [herr]
    have H5 := H4.step hb
    have H6 := H5.new 50 [.slice none 0 0, .slice none 0 0, .slice none 0 0]
    have HZ := Lib.hid H6
    clear H4 hb H5 H6 herr
    go_wp2_with fail
    refine (alive13_any _).mono ?_
    rintro e w3 ⟨rfl, hb⟩
    have H7 := HZ.out.step hb
    have H8 := ((H7.lit [0, 1] (by simp)).lit [(K : Int), (K : Int)] (by simp))
    simp only [World.size_alloc, List.map_cons, List.map_nil] at H8
    clear H7 hb
    go_wp2_with fail
    refine (check_b (some ⟨w3.heap.size, 0, none⟩) (some ⟨w3.heap.size + 1, 0, none⟩) none 2 2 2 2 0 0 [0, 1] [(K : Int), (K : Int)] _ H8.has.2.1 H8.has.1 (by omega)).mono ?_
    rintro e w4 ⟨rfl, hb⟩
    have hck : checkC [0, 1] [(K : Int), (K : Int)] 0 = 4 := by rw [HK.out]; exact fn_check
    have HB := Lib.hid (H8.step hb).bel
    have e0 : checkC [0, 1] [(K : Int), (K : Int)] ((0 : Nat) : Int) = 4 := hck
    rw [e0]
    clear H8 hb hck e0
    go_wp2_with fail
    go_ret
    exact ⟨rfl, HB.out⟩
  · exfalso
    rw [herr] at h
    cases h
end Go.Proofs.Ytgmchedfgdgenaa.FactorNames
