/- credencelaw16.SepOpen, walked: it returns true. Condition: the lists read. -/
import Derived.Test.YtaibdlnolpbpiaaOpenRun
import Derived.Test.YtaibdlnolpbpiaaAlive
import Derived.Test.YtaibdlnolpbpiaaSub
import Derived.Test.YtaibdlnolpbpiaaTrailAll
import Derived.Test.YtaibdlnolpbpiaaApart
import Derived.Test.YtaibdlnolpbpiaaBelow
namespace Go.Proofs.Ytaibdlnolpbpiaa
open Go.RowKit

/-- a trail, what is given, and parents that may be -/
structure Opened (w0 : World) (base : Nat) (B T U : Option Addr) (n d k dt mz dz : Nat) (Ms : List (List Int)) (vs : List (Option Addr × Nat × Nat)) (a b : Nat) (g : List Int) (r : List Nat) (w : World) : Prop where
  ms : Mats w base B n d Ms vs
  t : OwnR (Value.int .i64) w base 3 T k dt (castL r)
  u : OwnR (Value.int .i64) w base 3 U mz dz g
  mend : Mend Ms
  ig : InN n g
  n30 : n ≤ 30
  bz : mz * 8 ≤ 140737488351232
  bel : Below base w0 w
section
variable {w0 w w' : World} {base : Nat} {B T U : Option Addr} {n d k dt mz dz : Nat} {Ms : List (List Int)} {vs : List (Option Addr × Nat × Nat)} {a b : Nat} {g : List Int} {r : List Nat}
theorem Opened.step (h : Opened w0 base B T U n d k dt mz dz Ms vs a b g r w) (hB : base ≤ w.heap.size) (hb : Below w.heap.size w w') : Opened w0 base B T U n d k dt mz dz Ms vs a b g r w' :=
  ⟨h.ms.below hb, h.t.below (Nat.le_refl _) hb, h.u.below (Nat.le_refl _) hb, h.mend, h.ig, h.n30, h.bz, h.bel.trans (hb.mono hB)⟩
theorem Opened.rows (h : Opened w0 base B T U n d k dt mz dz Ms vs a b g r w) : Rows (Value.int .i64) w B n Ms := h.ms.rows (by have := h.n30; omega) (fun i hi => by have := (h.mend i (by rw [h.ms.len]; exact hi)).2.2; omega)
theorem Opened.su (h : Opened w0 base B T U n d k dt mz dz Ms vs a b g r w) : Sl (Value.int .i64) w U mz g := h.u.sl (by have := h.bz; omega)
theorem Opened.len (h : Opened w0 base B T U n d k dt mz dz Ms vs a b g r w) : Ms.length = n := h.ms.len
theorem Opened.k30 (h : Opened w0 base B T U n d k dt mz dz Ms vs a b g r w) (ht : TrailOk Ms g a b r) : k ≤ n := by
  have h1 := h.t.length
  rw [castL_lenO] at h1
  have h2 := nodup_lt_length ht.nodup ht.lt
  rw [h.len] at h2
  omega
theorem Opened.st (h : Opened w0 base B T U n d k dt mz dz Ms vs a b g r w) (ht : TrailOk Ms g a b r) : Sl (Value.int .i64) w T k (castL r) := h.t.sl (by have := h.k30 ht; have := h.n30; omega)
end
theorem sl_at {w : World} {b o n : Nat} {xs : List Int} (h : Sl (Value.int .i64) w (some ⟨b, o, none⟩) n xs) {i : Nat} (hi : i < n) : w.cell? ⟨b, o + i, none⟩ = some (.int .i64 (nth xs i)) := by
  obtain ⟨b', o', e, _, hc⟩ := h.at' (by omega)
  injection e with e
  injection e with e1 e2 _
  subst e1 e2
  exact hc i hi
theorem rows_at {w : World} {b o n : Nat} {L : List (List Int)} (h : Rows (Value.int .i64) w (some ⟨b, o, none⟩) n L) {i : Nat} (hi : i < n) : ∃ B m d, w.cell? ⟨b, o + i, none⟩ = some (.slice B m d) ∧ Sl (Value.int .i64) w B m (nth L i) := by
  obtain ⟨b', o', B, m, d, e, _, h1, h2⟩ := h.row hi
  injection e with e
  injection e with e1 e2 _
  subst e1 e2
  exact ⟨B, m, d, h1, h2⟩
theorem rows_some {w : World} {A : Option Addr} {n : Nat} {L : List (List Int)} (h : Rows (Value.int .i64) w A n L) (hi : 0 < n) : ∃ b o, A = some ⟨b, o, none⟩ := by
  obtain ⟨b', o', B, m, d, e, _, h1, h2⟩ := h.row hi
  exact ⟨b', o', e⟩
theorem has_lawB (r : Bool) (A : Option Addr) (n c : Nat) (xs : List Int) (x : Int) (w : World) (h : Sl (Value.int .i64) w A n xs) (hr : decide (x ∈ xs) = r) :
    Calls Try.prog 33 #[.slice A n c, .int .i64 x] w fun e w' => e = .returned (.bool r) ∧ w' = w := by
  rw [← hr]; exact has_law A n c xs x w h
namespace SepOpen
set_option maxRecDepth 100000 in
set_option maxHeartbeats 1600000 in
theorem law (A D0 : Option Addr) (n0 c0 mg dg : Nat) (Ps : List (List Int)) (x y : Int) (z : List Int) (w : World) (h : Rows (Value.int .i64) w A n0 Ps) (hz : Sl (Value.int .i64) w D0 mg z) (hmg : mg * 8 ≤ 140737488351232) :
    Calls Try.prog 11 #[.slice A n0 c0, .int .i64 x, .int .i64 y, .slice D0 mg dg] w fun e w' => e = .returned (.bool true) ∧ Below w.heap.size w w' := by
  have H0 := ((Held.init w).and (Q := fun w => Rows (Value.int .i64) w A n0 Ps) h).sl hz
  obtain ⟨wa, hwa⟩ : ∃ wa : World, wa = w := ⟨_, rfl⟩
  subst hwa
  clear h hz
  go_enter Try.func11, Try.ntmps11
  go_wp2_with fail
  refine (alive_any _).mono ?_
  rintro e w1 ⟨rfl, hb⟩
  have H1 := H0.step hb
  clear H0 hb
  go_wp2_with fail
  refine (mended_any A n0 c0 Ps _ H1.has.2.1).mono ?_
  rintro e w2 ⟨B, n, d, Ms, vs, rfl, hn, hM, hmd, hb⟩
  have hs1 := H1.bel.size
  have hn30 : n ≤ 30 := by omega
  have H2 := H1.step hb
  have HM := Lib.hid (And.intro hM (And.intro hmd hn))
  clear H1 hb hM hmd hn
  by_cases hn0 : n = 0
  · subst hn0
    go_wp2_with fail
    go_ret
    exact ⟨rfl, H2.bel⟩
  have hl1 : Sl (Value.int .i64) (w2.alloc (.cells #[.int .i64 x] 3)) (some ⟨w2.heap.size, 0, none⟩) 1 [x] := sl_lit w2 [x] (by simp)
  have hb1 : Below w2.heap.size w2 (w2.alloc (.cells #[.int .i64 x] 3)) := (Below.refl _ _).alloc (Nat.le_refl _) _
  have hz2 := H2.bel.size
  go_wp2_with fail
  refine (points_any (some ⟨w2.heap.size, 0, none⟩) 1 1 n [x] _ hl1 (by omega) (by omega)).mono ?_
  rintro e w3 ⟨X, dx, ys, rfl, hX, hia, hb⟩
  rw [show (if 0 < n then 1 else 0) = 1 from if_pos (by omega)] at hX ⊢
  obtain ⟨a, rfl⟩ : ∃ a, ys = [a] := List.length_eq_one_iff.1 hX.length
  have hb3 := hb1.trans (hb.mono hb1.size)
  have hM3 := HM.out.1.below hb3
  have H3 := H2.step hb3
  have hz3 := hb3.size
  obtain ⟨a, rfl⟩ : ∃ a' : Nat, a = (a' : Int) := ⟨a.toNat, by have := hia a (by simp); omega⟩
  have ha : a < n := by have := hia a (by simp); omega
  obtain ⟨bX, oX, rfl, _, hc⟩ := (hX.sl (by omega)).at' (by omega)
  have g0 : w3.cell? ⟨bX, oX, none⟩ = some (.int .i64 (a : Int)) := hc 0 (by omega)
  have HX := Lib.hid (And.intro hM3 ha)
  clear hM3 H2 hb3 hb hb1 hX hl1 hia ha hc
  have hl1 : Sl (Value.int .i64) (w3.alloc (.cells #[.int .i64 y] 3)) (some ⟨w3.heap.size, 0, none⟩) 1 [y] := sl_lit w3 [y] (by simp)
  have hb1 : Below w3.heap.size w3 (w3.alloc (.cells #[.int .i64 y] 3)) := (Below.refl _ _).alloc (Nat.le_refl _) _
  go_wp2_with fail
  refine (points_any (some ⟨w3.heap.size, 0, none⟩) 1 1 n [y] _ hl1 (by omega) (by omega)).mono ?_
  rintro e w4 ⟨Y, dy, ys, rfl, hX, hia, hb⟩
  rw [show (if 0 < n then 1 else 0) = 1 from if_pos (by omega)] at hX ⊢
  obtain ⟨b, rfl⟩ : ∃ b, ys = [b] := List.length_eq_one_iff.1 hX.length
  have hb3 := hb1.trans (hb.mono hb1.size)
  have hM4 := HX.out.1.below hb3
  have H4 := H3.step hb3
  have hz4 := hb3.size
  obtain ⟨b, rfl⟩ : ∃ b' : Nat, b = (b' : Int) := ⟨b.toNat, by have := hia b (by simp); omega⟩
  have hb' : b < n := by have := hia b (by simp); omega
  obtain ⟨bY, oY, rfl, _, hc⟩ := (hX.sl (by omega)).at' (by omega)
  have g1 : w4.cell? ⟨bY, oY, none⟩ = some (.int .i64 (b : Int)) := hc 0 (by omega)
  have ha' := HX.out.2
  have HX4 := Lib.hid (And.intro hM4 (And.intro ha' hb'))
  clear hM4 ha' hb' HX H3 hb3 hb hb1 hX hl1 hia hc g0
  go_wp2_with fail
  refine (points_any D0 mg dg n z _ H4.has.1 hmg (by omega)).mono ?_
  rintro e w5 ⟨U, dz, g, rfl, hU, hig, hb⟩
  rw [show (if 0 < n then mg else 0) = mg from if_pos (by omega)] at hU ⊢
  have hM5 := HX4.out.1.below hb
  have H5 := H4.step hb
  have hs5 := H5.bel.size
  have hM5 : Mats w5 wa.heap.size B n d Ms vs := ⟨hM5.out.mono (by omega), fun i hi => (hM5.row i hi).mono (by omega), hM5.len⟩
  have hU5 := hU.mono (base' := wa.heap.size) (by have := H4.bel.size; omega)
  have hlen := hM5.len
  have hrow : Rows (Value.int .i64) w5 B n Ms := hM5.rows (by omega) (fun i hi => by have := (HM.out.2.1 i (by rw [hlen]; exact hi)).2.2; omega)
  have hsu := hU5.sl (by omega)
  have hia := HX4.out.2.1
  have hib := HX4.out.2.2
  have hin2 : InN Ms.length [(a : Int), (b : Int)] := fun x hx => by
    rw [hlen]
    simp only [List.mem_cons, List.not_mem_nil, or_false] at hx
    rcases hx with rfl | rfl <;> omega
  have hl2 : lookE Ms g [(a : Int), (b : Int)] = 0 := mend_look HM.out.2.1 (by rw [hlen]; exact hig) hin2
  have htr := trail_apart (mend_check HM.out.2.1) (given := g) (a := a) (b := b) (by rw [hlen]; exact hig) (by rw [hlen]; exact hia) (by rw [hlen]; exact hib)
  have HY := Lib.hid (And.intro hM5 (And.intro hU5 (And.intro HM.out.2.1 (And.intro hig (And.intro hl2 (And.intro htr hlen))))))
  clear hM5 hU5 HX4 H4 hU hig hl2 htr hlen hia hib hin2 HM hb
  go_wp2_with fail
  refine (trail_any B U n d mg dz Ms (a : Int) (b : Int) g _ hrow hsu (by omega) (by omega)).mono ?_
  rintro e w6 ⟨T, k, dt, rfl, hT, hb⟩
  rw [HY.out.2.2.2.2.1]
  have H6 := H5.step hb
  have hs6 := H6.bel.size
  have hM6 := HY.out.1.below hb
  have hU6 := HY.out.2.1.below (Nat.le_refl _) hb
  have hT6 := hT.mono (base' := wa.heap.size) hs5
  have hrow : Rows (Value.int .i64) w6 B n Ms := hM6.rows (by omega) (fun i hi => by have := (HY.out.2.2.1 i (by rw [HY.out.2.2.2.2.2.2]; exact hi)).2.2; omega)
  have hsu := hU6.sl (by omega)
  have hbw : Below w6.heap.size w6 ((w6.alloc (.cells #[.int .i64 (a : Int)] 3)).alloc (.cells #[.int .i64 (b : Int)] 3)) := ((Below.refl w6.heap.size w6).alloc (Nat.le_refl _) _).alloc (by simp) _
  have xa : Sl (Value.int .i64) ((w6.alloc (.cells #[.int .i64 (a : Int)] 3)).alloc (.cells #[.int .i64 (b : Int)] 3)) (some ⟨w6.heap.size, 0, none⟩) 1 [(a : Int)] := (sl_lit w6 [(a : Int)] (by simp)).alloc _
  have xb : Sl (Value.int .i64) ((w6.alloc (.cells #[.int .i64 (a : Int)] 3)).alloc (.cells #[.int .i64 (b : Int)] 3)) (some ⟨w6.heap.size + 1, 0, none⟩) 1 [(b : Int)] := by
    have := sl_lit (w6.alloc (.cells #[.int .i64 (a : Int)] 3)) [(b : Int)] (by simp)
    rw [alloc_size] at this; exact this
  have hrow2 := hrow.below (Nat.le_refl _) hbw
  have hsu2 := hsu.below (Nat.le_refl _) hbw
  have HZ := Lib.hid (And.intro hM6 (And.intro hU6 (And.intro hT6 (And.intro H6 hbw))))
  clear hM6 hU6 hT6 hT hrow hsu H6 H5 hb hbw
  go_wp2_with fail
  refine (apart_any B _ _ U n d 1 1 1 1 mg dz Ms [(a : Int)] [(b : Int)] g _ hrow2 xa xb hsu2 (by omega) (by omega) (by omega) (by omega) (by omega) (by omega)).mono ?_
  rintro e w7 ⟨rfl, hb⟩
  rw [show lookE Ms g ([(a : Int)] ++ [(b : Int)]) = 0 from HY.out.2.2.2.2.1]
  have hb7 := HZ.out.2.2.2.2.trans (hb.mono HZ.out.2.2.2.2.size)
  have H7 := HZ.out.2.2.2.1.step hb7
  have hs7 := H7.bel.size
  have hM7 := HZ.out.1.below hb7
  have hU7 := HZ.out.2.1.below (Nat.le_refl _) hb7
  have hT7 := HZ.out.2.2.1.below (Nat.le_refl _) hb7
  have htr := HY.out.2.2.2.2.2.1
  have HA := Lib.hid (And.intro hM7 (And.intro hU7 (And.intro hT7 (And.intro H7.bel (And.intro HY.out.2.2.1 (And.intro HY.out.2.2.2.1 HY.out.2.2.2.2.2.2))))))
  clear hM7 hU7 hT7 H7 hb7 hb HZ HY hrow2 hsu2 xa xb
  have hkl := HA.out.2.2.1.length
  rcases htr with ⟨ht1, ht2⟩ | ⟨ht1, r, ht2, hok⟩
  · rw [ht2] at hkl
    obtain rfl : k = 0 := by simpa using hkl.symm
    rw [ht1]
    clear hkl ht1 ht2
    go_wp2_with fail
    go_ret
    exact ⟨rfl, HA.out.2.2.2.1⟩
  rw [ht1]
  have hO : Opened wa wa.heap.size B T U n d k dt mg dz Ms vs a b g r w7 := ⟨HA.out.1, by rw [← ht2]; exact HA.out.2.2.1, HA.out.2.1, HA.out.2.2.2.2.1, HA.out.2.2.2.2.2.1, hn30, hmg, HA.out.2.2.2.1⟩
  have hkr : r.length = k := by rw [ht2, castL_lenO] at hkl; exact hkl
  have hlen := hO.len
  have hk30 := hO.k30 hok
  have hk0 : 0 < k := by rw [← hkr]; exact hok.pos
  have hst := hO.st hok
  obtain ⟨bT, oT, rfl, _, _⟩ := hst.at' (by omega)
  have hsu := hO.su
  have hcapT := hO.t.cap
  have hf0 := sl_at hst (i := 0) (by omega)
  have hfl := sl_at hst (i := k - 1) (by omega)
  rw [nth_castO (by omega), hok.first] at hf0
  rw [nth_castO (by omega), ← hkr, hok.last, hkr] at hfl
  rw [Nat.add_zero] at hf0
  have hna : decide ((a : Int) ∈ g) = false := hok.na
  have hnb : decide ((b : Int) ∈ g) = false := hok.nb
  obtain ⟨bB, oB, rfl⟩ := rows_some hO.rows (by omega)
  have HT := Lib.hid (And.intro hO (And.intro hok (And.intro hkr hlen)))
  clear hO hok hkr hlen hkl ht1 ht2 HA hst hs1 hz2 hz3 hz4 hs5 hs6 g1
  have i1 : (0 : Int) < (k : Nat) := by omega
  have i2 : (0 : Int) ≤ (k : Int) - 1 := by omega
  have i3 : ((k : Int) - 1).toNat = k - 1 := by omega
  have i4 : ¬ (k : Int) = 0 := by omega
  have i5 : ((k : Int) == 0) = false := by simpa using i4
  have i6 : (k == 0) = false := by simp; omega
  go_wp2_with fail
  refine (has_lawB false U mg dz g _ _ hsu hna).mono ?_
  rintro e w8 ⟨rfl, rfl⟩
  go_wp2_with fail
  refine (has_lawB false U mg dz g _ _ hsu hnb).mono ?_
  rintro e w8 ⟨rfl, rfl⟩
  clear hf0 hfl hna hnb i2 i3 i4 i5 i6 hsu
  go_wp2_with fail
  have HO := Lib.hid HT.out.1
  go_loopw [19] (fun i wr => ∃ t : Nat, i = .int .i64 (t : Nat) ∧ t ≤ k ∧ Opened wa wa.heap.size (some ⟨bB, oB, none⟩) (some ⟨bT, oT, none⟩) U n d k dt mg dz Ms vs a b g r wr) (fun i _ => k - (intOf i).toNat)
  case atStart => exact ⟨0, rfl, Nat.zero_le _, HO.out⟩
  case round =>
    obtain ⟨t, rfl, ht, hA⟩ := hrel
    obtain ⟨wc, hwc⟩ : ∃ wc : World, wc = wr := ⟨_, rfl⟩
    subst hwc
    have hsc := hA.bel.size
    by_cases hgo : t < k
    · as_aux_lemma =>
        have hgo' : (t : Int) < (k : Nat) := by omega
        have hrl : t < r.length := by rw [HT.out.2.2.1]; exact hgo
        have hsT := hA.st HT.out.2.1
        have g1 := sl_at hsT hgo
        rw [nth_castO hrl] at g1
        have hxn := HT.out.2.1.lt _ (nth_mem hrl)
        rw [HT.out.2.2.2] at hxn
        have hpre := hsT.pre ht
        have hnot := not_take HT.out.2.1.nodup hrl
        generalize nth r t = x at *
        have HS := Lib.hid (And.intro hA (And.intro hpre hnot))
        clear hA hpre hnot hsT hrl HO
        have e1 : ¬ (x : Int) < 0 := by omega
        have e2 : ¬ (n : Int) ≤ (x : Int) := by omega
        have e3 : decide ((x : Int) < 0) = false := by simp
        have e4 : decide ((n : Int) ≤ (x : Int)) = false := by simp; omega
        have e5 : decide (n ≤ x) = false := by simp; omega
        have e6 : (t : Int) ≤ (dt : Nat) := by omega
        have e7 : t ≤ dt := by omega
        have e8 : (0 : Int) ≤ (t : Nat) := by omega
        go_wp2_with fail
        go_quiet ((go_at_call 33; exact Calls.quiet_of_same (has_lawB false _ _ _ _ _ _ (HS.out.2.1.drewN _) HS.out.2.2)))
        go_wp2_with fail
        exact ⟨⟨t + 1, by go_num, by omega, HS.out.1.step hsc (below_refl_drewN _ _ _)⟩, by simp [intOf]; omega⟩
    · have hgo' : ¬ (t : Int) < (k : Nat) := by omega
      have HS := Lib.hid hA
      clear hA hgo ht HO
      go_wp2_with fail
      go_loopw [20] (fun i wr => ∃ t : Nat, i = .int .i64 (t : Nat) ∧ 1 ≤ t ∧ t ≤ k ∧ Opened wa wa.heap.size (some ⟨bB, oB, none⟩) (some ⟨bT, oT, none⟩) U n d k dt mg dz Ms vs a b g r wr) (fun i _ => k - (intOf i).toNat)
      case atStart => exact ⟨1, rfl, Nat.le_refl _, hk0, HS.out⟩
      case round =>
        clear hgo' hsc HS
        obtain ⟨wz, hwz⟩ : ∃ wz : World, wz = wc := ⟨_, rfl⟩
        subst hwz
        obtain ⟨t, rfl, ht1, ht, hA⟩ := hrel
        obtain ⟨wc, hwc⟩ : ∃ wc : World, wc = wr := ⟨_, rfl⟩
        subst hwc
        have hsc := hA.bel.size
        by_cases hgo : t < k
        · as_aux_lemma =>
            have hgo' : (t : Int) < (k : Nat) := by omega
            have hr1 : t < r.length := by rw [HT.out.2.2.1]; exact hgo
            have hr0 : t - 1 < r.length := by omega
            have hsT := hA.st HT.out.2.1
            have g1 := sl_at hsT hgo
            have g0 := sl_at hsT (i := t - 1) (by omega)
            rw [nth_castO hr1] at g1
            rw [nth_castO hr0] at g0
            have hqn := HT.out.2.1.lt _ (nth_mem hr1)
            have hpn := HT.out.2.1.lt _ (nth_mem hr0)
            rw [HT.out.2.2.2] at hqn hpn
            have hj := HT.out.2.1.joined hA.mend (i := t - 1) (by omega)
            rw [show t - 1 + 1 = t by omega] at hj
            generalize nth r t = q at *
            generalize nth r (t - 1) = p at *
            obtain ⟨Q, mq, dq, h1, h2⟩ := rows_at hA.rows hqn
            obtain ⟨P, mp, dp, h3, h4⟩ := rows_at hA.rows hpn
            have HS := Lib.hid (And.intro hA (And.intro h2 h4))
            clear hA h2 h4 hsT hr0 hr1
            have e1 : (q : Int) < (n : Nat) := by omega
            have e2 : (p : Int) < (n : Nat) := by omega
            have e3 : IntKind.i64.wrap ((t : Int) - 1) = (t : Int) - 1 := by rw [IntKind.wrap_i64]; omega
            have e4 : (0 : Int) ≤ (t : Int) - 1 := by omega
            have e5 : ((t : Int) - 1).toNat = t - 1 := by omega
            have e6 : (t : Int) - 1 < (k : Nat) := by omega
            cases hb1 : decide ((p : Int) ∈ nth Ms q) with
            | true =>
              have HB := Lib.hid hb1
              clear hb1 hj
              go_wp2_with fail
              go_quiet ((go_at_call 33; exact Calls.quiet_of_same (has_lawB true _ _ _ _ _ _ (HS.out.2.1.drewN _) HB.out)))
              go_wp2_with fail
              exact ⟨⟨t + 1, by go_num, by omega, by omega, HS.out.1.step hsc (below_refl_drewN _ _ _)⟩, by simp [intOf]; omega⟩
            | false =>
              have hb2 : decide ((q : Int) ∈ nth Ms p) = true := hj.resolve_left (by rw [hb1]; decide)
              have HB := Lib.hid (And.intro hb1 hb2)
              clear hb1 hb2 hj
              go_wp2_with fail
              go_quiet ((go_at_call 33; first | exact Calls.quiet_of_same (has_lawB false _ _ _ _ _ _ (HS.out.2.1.drewN _) HB.out.1) | exact Calls.quiet_of_same (has_lawB true _ _ _ _ _ _ (HS.out.2.2.drewN _) HB.out.2)))
              go_wp2_with fail
              exact ⟨⟨t + 1, by go_num, by omega, by omega, HS.out.1.step hsc (below_refl_drewN _ _ _)⟩, by simp [intOf]; omega⟩
        · have hgo' : ¬ (t : Int) < (k : Nat) := by omega
          have HS := Lib.hid hA
          clear hA hgo ht ht1
          go_wp2_with fail
          go_loopw [21] (fun i wr => ∃ t : Nat, i = .int .i64 (t : Nat) ∧ 1 ≤ t ∧ t ≤ k ∧ Opened wa wa.heap.size (some ⟨bB, oB, none⟩) (some ⟨bT, oT, none⟩) U n d k dt mg dz Ms vs a b g r wr) (fun i _ => k - (intOf i).toNat)
          case atStart => exact ⟨1, rfl, Nat.le_refl _, hk0, HS.out⟩
          case round =>
            clear hgo' hsc HS
            obtain ⟨t, rfl, ht1, ht, hA⟩ := hrel
            obtain ⟨wd, hwd⟩ : ∃ wd : World, wd = wr := ⟨_, rfl⟩
            subst hwd
            have hsc := hA.bel.size
            by_cases hgo : t + 1 < k
            · as_aux_lemma =>
                have hgo' : (t : Int) + 1 < (k : Nat) := by omega
                have hr0 : t - 1 < r.length := by rw [HT.out.2.2.1]; omega
                have hr1 : t < r.length := by rw [HT.out.2.2.1]; omega
                have hr2 : t + 1 < r.length := by rw [HT.out.2.2.1]; omega
                have hsT := hA.st HT.out.2.1
                have g0 := sl_at hsT (i := t - 1) (by omega)
                have g1 := sl_at hsT (i := t) (by omega)
                have g2 := sl_at hsT (i := t + 1) (by omega)
                rw [nth_castO hr0] at g0
                rw [nth_castO hr1] at g1
                rw [nth_castO hr2] at g2
                have hqn := HT.out.2.1.lt _ (nth_mem hr1)
                rw [HT.out.2.2.2] at hqn
                have hsh := fun h => HT.out.2.1.shut hA.mend (i := t - 1) (by omega) h
                have hmt := fun h => HT.out.2.1.met hA.mend (by rw [HT.out.2.2.2]; exact hA.ig) (i := t - 1) (by omega) h
                have e1 : t - 1 + 1 = t := by omega
                have e2 : t - 1 + 2 = t + 1 := by omega
                unfold meetB at hsh hmt
                rw [e1, e2] at hsh hmt
                clear e1 e2 hr0 hr1 hr2 hsT
                generalize hqe : nth r t = q at *
                have HQ := Lib.hid hqe
                clear hqe
                generalize nth r (t - 1) = p at *
                generalize nth r (t + 1) = s at *
                obtain ⟨Q, mq, dq, h1, h2⟩ := rows_at hA.rows hqn
                have HS := Lib.hid (And.intro hA (And.intro h2 (And.intro hsh hmt)))
                clear hA h2 hsh hmt
                have e1 : (q : Int) < (n : Nat) := by omega
                have e3 : IntKind.i64.wrap ((t : Int) - 1) = (t : Int) - 1 := by rw [IntKind.wrap_i64]; omega
                have e4 : (0 : Int) ≤ (t : Int) - 1 := by omega
                have e5 : ((t : Int) - 1).toNat = t - 1 := by omega
                have e6 : (t : Int) - 1 < (k : Nat) := by omega
                have e7 : IntKind.i64.wrap ((t : Int) + 1) = (t : Int) + 1 := by rw [IntKind.wrap_i64]; omega
                have e8 : (0 : Int) ≤ (t : Int) + 1 := by omega
                have e9 : ((t : Int) + 1).toNat = t + 1 := by omega
                have e10 : (t : Int) < (k : Nat) := by omega
                have e11 : t + 1 < k := hgo
                go_upto_region 30 with fail
                go_cut [22] from 183 to 210 (fun v wx => v = .bool (decide ((p : Int) ∈ nth Ms q) && decide ((s : Int) ∈ nth Ms q)) ∧ ∃ u, wx = wd.drewN u)
                case first => as_aux_lemma =>
                  cases hb1 : decide ((p : Int) ∈ nth Ms q) with
                  | false =>
                    have HB := Lib.hid hb1
                    clear hb1
                    go_quiet ((go_at_call 33; exact Calls.quiet_of_same (has_lawB false _ _ _ _ _ _ (HS.out.2.1.drewN _) HB.out)))
                    go_wp2_with fail
                    go_meet
                    exact ⟨by rw [HB.out]; rfl, _, rfl⟩
                  | true =>
                    have HB := Lib.hid hb1
                    clear hb1
                    go_quiet ((go_at_call 33; first | exact Calls.quiet_of_same (has_lawB true _ _ _ _ _ _ (HS.out.2.1.drewN _) HB.out) | exact Calls.quiet_of_same (has_lawB (decide ((s : Int) ∈ nth Ms q)) _ _ _ _ _ _ (HS.out.2.1.drewN _) rfl)))
                    go_wp2_with fail
                    go_meet
                    exact ⟨by rw [HB.out, Bool.true_and], _, rfl⟩
                case rest => as_aux_lemma =>
                  obtain ⟨rfl, u, rfl⟩ := hcut
                  have hA := HS.out.1.step hsc (below_refl_drewN _ _ u)
                  have hsh := HS.out.2.2.1
                  have hmt := HS.out.2.2.2
                  clear g0 g1 g2 h1 e3 e4 e5 e6 e7 e8 e9 HS
                  generalize wd.drewN u = we at *
                  have hse := hA.bel.size
                  have g1 := sl_at (hA.st HT.out.2.1) (i := t) (by omega)
                  generalize hmm : (decide ((p : Int) ∈ nth Ms q) && decide ((s : Int) ∈ nth Ms q)) = mm at *
                  clear hmm
                  rw [nth_castO (by rw [HT.out.2.2.1]; omega)] at g1
                  have hqq : nth r t = q := HQ.out
                  rw [hqq] at g1
                  clear hqq
                  have hsu := hA.su
                  cases mm with
                  | false => as_aux_lemma =>
                    have HS := Lib.hid hA
                    have HB := Lib.hid (hsh rfl)
                    clear hA hsh hmt
                    go_wp2_with fail
                    refine (has_lawB false U mg dz g _ _ hsu HB.out).mono ?_
                    rintro e wf ⟨rfl, rfl⟩
                    go_wp2_with fail
                    exact ⟨⟨t + 1, by go_num, by omega, by omega, HS.out⟩, by simp [intOf]; omega⟩
                  | true => as_aux_lemma =>
                    have hsn := hmt rfl
                    clear hsh hmt hsu
                    have hl1 : Sl (Value.int .i64) (we.alloc (.cells #[.int .i64 (q : Int)] 3)) (some ⟨we.heap.size, 0, none⟩) 1 [(q : Int)] := sl_lit we [(q : Int)] (by simp)
                    have hb1 : Below we.heap.size we (we.alloc (.cells #[.int .i64 (q : Int)] 3)) := (Below.refl _ _).alloc (Nat.le_refl _) _
                    have hrow := hA.rows.below (Nat.le_refl _) hb1
                    have hab : aboveE Ms [(q : Int)] = 0 := by
                      unfold aboveE
                      rw [if_neg (by rw [mend_check hA.mend]; simp), if_pos]
                      exact InN.row (fun x hx => by rw [List.mem_singleton] at hx; subst hx; rw [hA.len]; exact ⟨by omega, e1⟩)
                    have HS := Lib.hid (And.intro hA (And.intro hb1 (And.intro hab hsn)))
                    clear hA hab hsn hb1
                    go_wp2_with fail
                    refine (below_any (some ⟨bB, oB, none⟩) (some ⟨we.heap.size, 0, none⟩) n d 1 1 Ms [(q : Int)] _ hrow hl1 (by omega)).mono ?_
                    rintro e wf ⟨hb, C, k2, d2, rfl, hC, _, hcd⟩
                    rw [HS.out.2.2.1]
                    have hC := hC HS.out.2.2.1
                    rw [show [(q : Int)].map Int.toNat = [q] from by simp] at hC
                    have hA := HS.out.1.step hse (HS.out.2.1.trans (hb.mono HS.out.2.1.size))
                    have hlen := hC.len
                    have hk2 := hC.big
                    have hsn := HS.out.2.2.2
                    rw [hlen] at hsn
                    have HF := Lib.hid (And.intro hA (And.intro hC (And.intro hsn hlen)))
                    clear hA hC hsn hlen hb HS hrow hl1
                    go_wp2_with fail
                    go_loopw [25, 26] (fun v i wr => ∃ j : Nat, v = .bool (seenB Ms g q j) ∧ i = .int .i64 (j : Nat) ∧ j ≤ k2 ∧ Opened wa wa.heap.size (some ⟨bB, oB, none⟩) (some ⟨bT, oT, none⟩) U n d k dt mg dz Ms vs a b g r wr ∧ Sl eN wr C k2 (upList (kids (toG Ms)) [q])) (fun _ i _ => k2 - (intOf i).toNat)
                    case atStart => exact ⟨0, by unfold seenB; rfl, rfl, Nat.zero_le _, HF.out.1, HF.out.2.1⟩
                    case round => as_aux_lemma =>
                      obtain ⟨j, rfl, rfl, hj, hA, hC⟩ := hrel
                      obtain ⟨wg, hwg⟩ : ∃ wg : World, wg = wr := ⟨_, rfl⟩
                      subst hwg
                      by_cases hlt : j < k2
                      · have hlt' : (j : Int) < (k2 : Nat) := by omega
                        have hnx := seenB_next (Ms := Ms) (g := g) (p := q) (k := j) (by rw [HF.out.2.2.2]; exact hlt)
                        obtain ⟨bC, oC, hCe, _, hcc⟩ := hC.at' (by omega)
                        have gc := hcc j hlt
                        have hsu := hA.su
                        have HS := Lib.hid (And.intro hA hC)
                        clear hA hC hcc
                        generalize nth (upList (kids (toG Ms)) [q]) j = x at *
                        have gc : wg.cell? ⟨bC, oC + j, none⟩ = some (.int .i64 (x : Int)) := gc
                        subst hCe
                        generalize hss : seenB Ms g q j = ss at *
                        have HX := Lib.hid hnx
                        clear hnx hss
                        cases ss with
                        | true => as_aux_lemma =>
                          go_wp2_with fail
                          exact ⟨⟨j + 1, by rw [HX.out]; rfl, by go_num, by omega, HS.out.1, HS.out.2⟩, by simp [intOf]; omega⟩
                        | false => as_aux_lemma =>
                          go_wp2_with fail
                          refine (has_lawB _ U mg dz g _ _ hsu rfl).mono ?_
                          rintro e wh ⟨rfl, rfl⟩
                          rw [Bool.false_or] at HX
                          rw [← HX.out]
                          go_wp2_with fail
                          exact ⟨⟨j + 1, rfl, by go_num, by omega, HS.out.1, HS.out.2⟩, by simp [intOf]; omega⟩
                      · as_aux_lemma =>
                        obtain rfl : j = k2 := by omega
                        rw [HF.out.2.2.1]
                        have HS := Lib.hid hA
                        clear hA hC
                        go_wp2_with fail
                        exact ⟨⟨t + 1, by go_num, by omega, by omega, HS.out⟩, by simp [intOf]; omega⟩
            · have hgo' : ¬ (t : Int) + 1 < (k : Nat) := by omega
              have HS := Lib.hid hA
              clear hA
              go_wp2_with fail
              go_ret
              exact ⟨rfl, HS.out.bel⟩
theorem lawB (A : Option Addr) (n c : Nat) (Ps : List (List Int)) (x y : Int) (D0 : Option Addr) (mg dg : Nat) (z : List Int) (w : World) (h : Rows (Value.int .i64) w A n Ps) (_ : n ≤ c) (_ : n * 24 ≤ 140737488351232) (_ : (∀ i, i < n → (nth Ps i).length * 8 ≤ 140737488351232) ∧ ∀ l ∈ Ps, ∀ x ∈ l, (Lit.int .i64 x).wf = true) (_ : (Lit.int .i64 x).wf = true) (_ : (Lit.int .i64 y).wf = true)
    (hz : Sl (Value.int .i64) w D0 mg z) (_ : ∀ a ∈ z, (Lit.int .i64 a).wf = true) (hmg : mg * 8 ≤ 140737488351232) :
    Calls Try.prog 11 #[.slice A n c, .int .i64 x, .int .i64 y, .slice D0 mg dg] w fun e w' => e = .returned (.bool true) ∧ Below w.heap.size w w' := law A D0 n c mg dg Ps x y z w h hz hmg
end SepOpen
end Go.Proofs.Ytaibdlnolpbpiaa
