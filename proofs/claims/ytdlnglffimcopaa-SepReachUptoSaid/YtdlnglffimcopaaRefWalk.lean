/- credenceref16's Hunt.walk, walked: all open trails that begin so. Conditions: the hunt's cell and its row are the call's own. -/
import Derived.Test.YtdlnglffimcopaaRefHunt
import Derived.Deep.CutRange
import Derived.Lib.SliceRun
namespace Go.Proofs.Ytdlnglffimcopaa
open Go.RowKit

section
variable {w0 w w' : World} {G : List (List Nat)} {given : List Int} {n pc mg gd mu ud hb cb : Nat} {PA GA UA : Option Addr} {tg : Int}
theorem HuntM.mark {L : List Bool} {BA : Option Addr} {bn bc : Nat} {b : Option (List Nat)} (h : HuntM w0 n PA GA UA pc mg gd mu ud tg hb cb L BA bn bc b w) {x : Nat} (hx : x < L.length) :
    HuntM w0 n PA GA UA pc mg gd mu ud tg hb cb (L.set x true) BA bn bc b (w.setCell ⟨cb, x, none⟩ (eB true)) := by
  have hlt := h.lt
  refine ⟨h.row.far (by simp; omega) _, h.came.set hx true, ?_, h.lt, h.bel.setCell (p := ⟨cb, x, none⟩) (Nat.le_refl _) _, h.sz⟩
  rcases h.best with h1 | ⟨t, h1, h2, h3⟩
  · exact .inl h1
  · refine .inr ⟨t, h1, h2, h3.setFar (fun g e => ?_) _⟩
    rcases h3.at_row with h4 | ⟨g', h4, h5, _⟩
    · rw [e] at h4; cases h4
    · rw [e] at h4; injection h4 with h4; injection h4 with h4; simp; omega
theorem HuntM.took {L : List Bool} {BA : Option Addr} {bn bc : Nat} {b : Option (List Nat)} (h : HuntM w0 n PA GA UA pc mg gd mu ud tg hb cb L BA bn bc b w) {A : Option Addr} {k c : Nat} {t : List Nat} (ht : t ≠ []) (ho : OwnR eN w (hb + 1) 3 A k c t) :
    HuntM w0 n PA GA UA pc mg gd mu ud tg hb cb L A k c (some t) (w.setCell ⟨hb, 4, none⟩ (.slice A k c)) := by
  have hlt := h.lt
  refine ⟨h.row.put 4 _, h.came.setCellFar (by simp; omega) _, .inr ⟨t, rfl, ht, ho.setFar (fun g e => ?_) _⟩, h.lt, h.bel.setCell (p := ⟨hb, 4, none⟩) (by simp; omega) _, h.sz⟩
  rcases ho.at_row with h4 | ⟨g', h4, h5, _⟩
  · rw [e] at h4; cases h4
  · rw [e] at h4; injection h4 with h4; injection h4 with h4; simp; omega
/-- what walk does -/
def WalkPost (w0 : World) (G : List (List Nat)) (given : List Int) (n pc mg gd mu ud hb cb : Nat) (PA GA UA : Option Addr) (tg : Int) (a : Nat) (P : List Nat → Prop) (l : List Nat) (w : World) (e : Ending) (w' : World) : Prop :=
  e = .returned (.tuple #[]) ∧ Turn w w' (fun x => x = hb ∨ x = cb) ∧ ∃ L' BA' bn' bc' b', HuntM w0 n PA GA UA pc mg gd mu ud tg hb cb L' BA' bn' bc' b' w' ∧ L'.length = n ∧ Hst tg (Zp given) (fun l' => P l' ∨ Ext G (Zp given) (Ap G given) a l l') L' b'
end
set_option maxRecDepth 100000 in
set_option maxHeartbeats 1600000 in
theorem walk_ref {w0 : World} {G : List (List Nat)} {given : List Int} {n pc mg gd mu ud hb cb : Nat} {PA GA UA : Option Addr} {tg : Int} {a : Nat} (hS : HuntS w0 G given n PA GA UA mg mu) (han : a < n) (hn : n * 24 ≤ 140737488351232) (fuel : Nat) :
    ∀ (x : Nat) (l : List Nat) (P : List Nat → Prop) (TA : Option Addr) (tk tc : Nat) (L : List Bool) (BA : Option Addr) (bn bc : Nat) (b : Option (List Nat)) (w : World), n + 1 - (x :: l).length ≤ fuel → Trl G (Zp given) (Ap G given) a (x :: l) →
      OwnR eN w (hb + 1) 3 TA tk tc (x :: l).reverse → HuntM w0 n PA GA UA pc mg gd mu ud tg hb cb L BA bn bc b w → L.length = n → Hst tg (Zp given) P L b → (∀ l', P l' → Trl G (Zp given) (Ap G given) a l') →
      Calls Try.prog 75 #[.pointer (some ⟨hb, 0, none⟩), .slice TA tk tc] w (WalkPost w0 G given n pc mg gd mu ud hb cb PA GA UA tg a P (x :: l) w) := by
  induction fuel with
  | zero =>
    intro x l P TA tk tc L BA bn bc b w hf ht
    have := ht.length_le (by rw [hS.len]; exact han)
    rw [hS.len] at this
    omega
  | succ fuel ih =>
    intro x l P TA tk tc L BA bn bc b w hf ht hown hM hLn hH hPt
    obtain ⟨wa, hwa⟩ : ∃ wa : World, wa = w := ⟨_, rfl⟩
    subst hwa
    have hlen := hown.length
    have hle := ht.length_le (by rw [hS.len]; exact han)
    rw [hS.len] at hle
    have hxn := ht.lt (by rw [hS.len]; exact han) x (by simp)
    rw [hS.len] at hxn
    have htk : tk = l.length + 1 := by rw [← hlen]; simp
    have htkn : tk ≤ n := by rw [← hlen]; simp at hle ⊢; exact hle
    have hsl := hown.sl (by simp at hle; omega)
    have hbt := hsl.big
    obtain ⟨tb, toff, rfl, _, hc⟩ := hsl.at' (by omega)
    have g0 := hc (tk - 1) (by omega)
    have hlast : nth (x :: l).reverse (tk - 1) = x := by
      rw [nth_eq (by rw [hlen]; omega)]
      simp [htk]
    rw [hlast] at g0
    have q1 : (0 : Int) ≤ ((tk : Nat) : Int) - 1 := by omega
    have q2 : ((tk : Nat) : Int) - 1 < (tk : Nat) := by omega
    have q3 : (((tk : Nat) : Int) - 1).toNat = tk - 1 := by omega
    have r1 := hM.row.cell 1
    simp only [List.getElem?_cons_zero, List.getElem?_cons_succ] at r1
    have hgiv := hS.giv.below hM.sz hM.bel
    have H0 := Lib.hid (And.intro hf (And.intro ht (And.intro hown (And.intro hM (And.intro hLn (And.intro hH (And.intro hlen (And.intro hle (And.intro htk hsl)))))))))
    clear hf ht hown hM hLn hH hlen hle htk hsl hc hlast
    have IH := Lib.hid ih; clear ih
    have HS := Lib.hid hS; clear hS
    go_enter Try.func75, Try.ntmps75
    go_wp2_with fail
    refine (has_ref GA mg gd _ _ _ hgiv).mono ?_
    rintro e w1 ⟨rfl, rfl⟩
    generalize hz : decide ((x : Int) ∈ given) = z at *
    have HZ := Lib.hid hz; clear hz
    go_upto_if 23 with fail
    go_cut [4] from 10 (fun s4 wx => s4 = .int .i64 (x : Int) ∧ Turn w1 wx (fun y => y = hb ∨ y = cb) ∧ ∃ L' BA' bn' bc' b', HuntM w0 n PA GA UA pc mg gd mu ud tg hb cb L' BA' bn' bc' b' wx ∧ L'.length = n ∧ Hst tg (Zp given) (fun l' => P l' ∨ l' = x :: l) L' b')
    case first =>
      cases z with
      | true =>
        go_wp2_with fail
        go_meet
        case rel =>
          obtain ⟨_, _, _, h4, h5, h6, _⟩ := H0.out
          exact ⟨rfl, Turn.refl _ _, L, BA, bn, bc, b, h4, h5, h6.given HZ.out⟩
      | false =>
        have hzn : ¬ Zp given x := fun h => by have h1 := HZ.out; unfold Zp zB at h; rw [h1] at h; cases h
        obtain ⟨hf, ht, hown, hM, hLn, hH, hlen, hle, htk, hsl⟩ := H0.out
        have hMm := hM.mark (x := x) (by rw [hLn]; exact hxn)
        have r3 := hM.row.cell 3
        have r4 := hM.row.cell 4
        have r5 := hM.row.cell 5
        have s3 := hMm.row.cell 3
        have s4 := hMm.row.cell 4
        have f4 := hMm.row.frozen 4
        have c5 := hM.came.cell (j := x) (by rw [hLn]; exact hxn)
        have f5 := hM.came.frozen x
        have hcl := hM.lt
        have p1 : (0 : Int) ≤ (x : Nat) := by omega
        have p2 : ((x : Nat) : Int) < (n : Nat) := by omega
        simp only [List.getElem?_cons_zero, List.getElem?_cons_succ] at r3 r4 r5 s3 s4
        have hT0 : Turn w1 (w1.setCell ⟨cb, x, none⟩ (eB true)) (fun y => y = hb ∨ y = cb) := (Turn.refl w1 _).setCell ⟨cb, x, none⟩ (fun _ => .inr rfl) _
        have hLn2 : (L.set x true).length = n := by simpa using hLn
        have hL0 : x < L.length := by rw [hLn]; exact hxn
        have hnil := fun (w : World) (a : Option Addr) (n c : Nat) => Go.Lib.run_eql_slice_nil (P := Try.prog) w 23 3 a n c 0 0 Try.underlying23
        by_cases hxt : (x : Int) = tg
        · have hown2 : OwnR eN (w1.setCell ⟨cb, x, none⟩ (eB true)) (hb + 1) 3 (some ⟨tb, toff, none⟩) tk tc (x :: l).reverse := hown.setFar (fun g e => by
            rcases hown.at_row with h1 | ⟨g', h1, h2, _⟩
            · cases h1
            · rw [e] at h1; injection h1 with h1; injection h1 with h1; simp; omega) _
          have hsl2 := hown2.sl (by omega)
          have hbst := hM.best
          subst hxt
          rcases hbst with ⟨rfl, rfl, rfl, rfl⟩ | ⟨t, rfl, htne, hot⟩
          · have hemp : OwnR eN ((w1.setCell ⟨cb, x, none⟩ (eB true)).alloc (.cells #[] 3)) (hb + 1) 3 (some ⟨w1.heap.size, 0, none⟩) 0 0 [] := by
              have hr : RowAt eN ((w1.setCell ⟨cb, x, none⟩ (eB true)).alloc (.cells #[] 3)) w1.heap.size 3 ([] : List Nat) [] := by
                have := RowC.new (w1.setCell ⟨cb, x, none⟩ (eB true)) 3 []
                rw [(show (w1.setCell ⟨cb, x, none⟩ (eB true)).heap.size = w1.heap.size from by simp [World.setCell])] at this
                exact this
              exact OwnR.of_row' hr (by have := hMm.row.lt; rw [show (w1.setCell ⟨cb, x, none⟩ (eB true)).heap.size = w1.heap.size from (show (w1.setCell ⟨cb, x, none⟩ (eB true)).heap.size = w1.heap.size from by simp [World.setCell])] at this; omega) rfl (by unfold maxLen; omega) rfl
            have htr := hsl2.below (Nat.le_refl _) ((Below.refl (w1.setCell ⟨cb, x, none⟩ (eB true)).heap.size (w1.setCell ⟨cb, x, none⟩ (eB true))).alloc (Nat.le_refl _) (.cells #[] 3))
            have hlb := hMm.row.lt
            rw [show (w1.setCell ⟨cb, x, none⟩ (eB true)).heap.size = w1.heap.size from (show (w1.setCell ⟨cb, x, none⟩ (eB true)).heap.size = w1.heap.size from by simp [World.setCell])] at hlb
            have HX := Lib.hid (And.intro hMm (And.intro hT0 (And.intro hLn2 (And.intro hH (And.intro hlen (hH.better (l := l) hzn hL0 rfl (fun t e => by cases e)))))))
            clear hMm hT0 hLn2 hM hH hown ht hLn hsl hf hlen hle htk hgiv hown2 hsl2
            go_wp2_with (first
              | (at_builtin; refine wpList_app _ eiInt eN one_eN rfl _ _ rfl (hb + 1) _ _ _ _ rfl hemp _ _ _ _ rfl htr (by omega) (by simp; omega) ?_)
              | fail)
            intro A9 c9 w9 ho9 hg9 _ _
            have hbv : Below (w1.setCell ⟨cb, x, none⟩ (eB true)).heap.size (w1.setCell ⟨cb, x, none⟩ (eB true)) w9 := ((Below.refl (w1.setCell ⟨cb, x, none⟩ (eB true)).heap.size (w1.setCell ⟨cb, x, none⟩ (eB true))).alloc (Nat.le_refl _) (.cells #[] 3)).grown hg9 (by simp) (fun g e => by
              have e2 : w1.heap.size = g := by injection e
              rw [show (w1.setCell ⟨cb, x, none⟩ (eB true)).heap.size = w1.heap.size from (show (w1.setCell ⟨cb, x, none⟩ (eB true)).heap.size = w1.heap.size from by simp [World.setCell])]; omega)
            have hM9 := HX.out.1.step hbv
            have ho9' : OwnR eN w9 (hb + 1) 3 A9 tk c9 (x :: l).reverse := by rw [List.reverse_cons]; exact ho9
            have hMf := hM9.took (t := (x :: l).reverse) (by simp) ho9'
            have hTf : Turn w1 (w9.setCell ⟨hb, 4, none⟩ (.slice A9 tk c9)) (fun y => y = hb ∨ y = cb) := (HX.out.2.1.trans (Turn.of_below hbv (fun _ => False)) (fun _ _ e => e.elim)).setCell ⟨hb, 4, none⟩ (fun _ => .inl rfl) _
            have u4 := hM9.row.cell 4
            have fu4 := hM9.row.frozen 4
            have HF := Lib.hid (And.intro hMf hTf)
            clear hMf hTf hM9 ho9 ho9' hg9 hbv hemp htr
            go_wp2_with fail
            go_meet
            case rel => exact ⟨rfl, HF.out.2, L.set x true, A9, tk, c9, _, HF.out.1, HX.out.2.2.1, HX.out.2.2.2.2.2⟩
          · have hbl := hot.length
            obtain ⟨gB, rest, rfl, hgB, hrB, _⟩ := hot.row (by rw [← hbl]; exact List.length_pos_iff.2 htne)
            have hbn : bn ≤ 140737488351232 := by
              obtain ⟨⟨y, m, h1, h2, h3, h4⟩, _⟩ := hH.bsome t rfl
              have h5 := hPt _ h1
              have h6 := h5.length_le (by rw [HS.out.len]; exact han)
              rw [HS.out.len] at h6
              rw [← hbl, h4, List.length_reverse]
              omega
            have hot2 : OwnR eN (w1.setCell ⟨cb, x, none⟩ (eB true)) (hb + 1) 3 (some ⟨gB, 0, none⟩) bn bc t := hot.setFar (fun g e => by injection e with e; injection e with e; simp; omega) _
            have hbsl := hot2.sl hbn
            have HQ := Lib.hid (And.intro hMm (And.intro hT0 (And.intro hLn2 (And.intro hH (And.intro hlen hsl2)))))
            clear hrB hot hot2 hMm hT0 hLn2 hM hH hown ht hLn hsl hf hlen hle htk hgiv hown2
            go_wp2_with fail
            refine (less_ref _ _ tk tc bn bc _ _ _ hsl2 hbsl).mono ?_
            rintro e v ⟨rfl, dn, hv⟩
            have hMm := HQ.out.1.step (w' := v) (by rw [hv]; exact below_refl_drewN _ _ _)
            have hT0 : Turn w1 v (fun y => y = hb ∨ y = cb) := by rw [hv]; exact HQ.out.2.1.drewN dn
            have hszv : v.heap.size = w1.heap.size := by rw [hv]; simp [World.setCell, World.drewN]
            have hlen := HQ.out.2.2.2.2.1
            have hLn2 := HQ.out.2.2.1
            have hH := HQ.out.2.2.2.1
            have hslv : Sl eN v (some ⟨tb, toff, none⟩) tk (x :: l).reverse := by rw [hv]; exact hsl2.drewN dn
            clear hv hsl2
            cases hlt : lessL (x :: l).reverse t with
            | true =>
              have hsl2 := hslv
              have hemp : OwnR eN (v.alloc (.cells #[] 3)) (hb + 1) 3 (some ⟨w1.heap.size, 0, none⟩) 0 0 [] := by
                have hr : RowAt eN (v.alloc (.cells #[] 3)) w1.heap.size 3 ([] : List Nat) [] := by
                  have := RowC.new v 3 []
                  rw [hszv] at this
                  exact this
                exact OwnR.of_row' hr (by have := hMm.row.lt; rw [show v.heap.size = w1.heap.size from hszv] at this; omega) rfl (by unfold maxLen; omega) rfl
              have htr := hsl2.below (Nat.le_refl _) ((Below.refl v.heap.size v).alloc (Nat.le_refl _) (.cells #[] 3))
              have hlb := hMm.row.lt
              rw [show v.heap.size = w1.heap.size from hszv] at hlb
              have HX := Lib.hid (And.intro hMm (And.intro hT0 (And.intro hLn2 (And.intro hH (And.intro hlen (hH.better (l := l) hzn hL0 rfl (fun t' e => by injection e with e; rw [← e]; exact hlt)))))))
              clear hMm hT0 hLn2 hH hlen hsl2 hlt hslv hbsl
              go_wp2_with (first
                | (at_builtin; refine wpList_app _ eiInt eN one_eN rfl _ _ rfl (hb + 1) _ _ _ _ rfl hemp _ _ _ _ rfl htr (by omega) (by simp; omega) ?_)
                | fail)
              intro A9 c9 w9 ho9 hg9 _ _
              have hbv : Below v.heap.size v w9 := ((Below.refl v.heap.size v).alloc (Nat.le_refl _) (.cells #[] 3)).grown hg9 (by simp) (fun g e => by
                have e2 : w1.heap.size = g := by injection e
                rw [show v.heap.size = w1.heap.size from hszv]; omega)
              have hM9 := HX.out.1.step hbv
              have ho9' : OwnR eN w9 (hb + 1) 3 A9 tk c9 (x :: l).reverse := by rw [List.reverse_cons]; exact ho9
              have hMf := hM9.took (t := (x :: l).reverse) (by simp) ho9'
              have hTf : Turn w1 (w9.setCell ⟨hb, 4, none⟩ (.slice A9 tk c9)) (fun y => y = hb ∨ y = cb) := (HX.out.2.1.trans (Turn.of_below hbv (fun _ => False)) (fun _ _ e => e.elim)).setCell ⟨hb, 4, none⟩ (fun _ => .inl rfl) _
              have u4 := hM9.row.cell 4
              have fu4 := hM9.row.frozen 4
              have HF := Lib.hid (And.intro hMf hTf)
              clear hMf hTf hM9 ho9 ho9' hg9 hbv hemp htr
              go_wp2_with fail
              go_meet
              case rel => exact ⟨rfl, HF.out.2, L.set x true, A9, tk, c9, _, HF.out.1, HX.out.2.2.1, HX.out.2.2.2.2.2⟩
            | false =>
              have HF := Lib.hid (And.intro hMm (And.intro hT0 (And.intro hLn2 (hH.worse (l := l) hzn hL0 rfl hlt))))
              clear hMm hT0 hLn2 hH hlen hbsl hslv hlt
              go_wp2_with fail
              go_meet
              case rel => exact ⟨rfl, HF.out.2.1, L.set x true, some ⟨gB, 0, none⟩, bn, bc, some t, HF.out.1, HF.out.2.2.1, HF.out.2.2.2⟩
        · have HF := Lib.hid (And.intro hMm (And.intro hT0 (And.intro hLn2 (hH.other (l := l) hzn hL0 hxt))))
          clear hMm hT0 hLn2 hM hH hown ht hLn hsl hf hlen hle htk hgiv
          go_wp2_with fail
          go_meet
          case rel => exact ⟨rfl, HF.out.2.1, L.set x true, BA, bn, bc, b, HF.out.1, HF.out.2.2.1, HF.out.2.2.2⟩
    case rest =>
      obtain ⟨rfl, hT, L1, BA1, bn1, bc1, b1, hM1, hL1, hH1⟩ := hcut
      have r0 := hM1.row.cell 0
      simp only [List.getElem?_cons_zero] at r0
      have hown1 : OwnR eN wc (hb + 1) 3 (some ⟨tb, toff, none⟩) tk tc (x :: l).reverse := H0.out.2.2.1.turn hT (fun g e h => by
        rcases H0.out.2.2.1.at_row with h1 | ⟨g', h1, h2, _⟩
        · cases h1
        · rw [e] at h1; injection h1 with h1; injection h1 with h1; have := hM1.lt; omega)
      have hPart : Hst tg (Zp given) (fun l' => P l' ∨ Part G (Zp given) (Ap G given) a (x :: l) 0 l') L1 b1 := hH1.congr fun l' => by rw [part_zero H0.out.2.1]
      have HC := Lib.hid (And.intro hT (And.intro hM1 (And.intro hL1 hPart))); clear hT hM1 hL1 hH1 hPart
      have ht := H0.out.2.1
      have hHT := Lib.hid ht
      clear ht r1 hgiv
      go_wp2_with fail
      clear r0
      go_loopw [6] (fun i wr => ∃ (k : Nat) (L : List Bool) (BA : Option Addr) (bn bc : Nat) (b : Option (List Nat)), i = .int .i64 (k : Nat) ∧ k ≤ n ∧ Turn w1 wr (fun y => y = hb ∨ y = cb) ∧ HuntM w0 n PA GA UA pc mg gd mu ud tg hb cb L BA bn bc b wr ∧ L.length = n ∧ Hst tg (Zp given) (fun l' => P l' ∨ Part G (Zp given) (Ap G given) a (x :: l) k l') L b) (fun i _ => n - (intOf i).toNat)
      case atStart => exact ⟨0, L1, BA1, bn1, bc1, b1, rfl, Nat.zero_le _, HC.out.1, HC.out.2.1, HC.out.2.2.1, HC.out.2.2.2⟩
      case round =>
        obtain ⟨k, L2, BA2, bn2, bc2, b2, rfl, hk, hT2, hM2, hL2, hH2⟩ := hrel
        obtain ⟨wb, hwb⟩ : ∃ wb : World, wb = wr := ⟨_, rfl⟩
        subst hwb
        have r0 := hM2.row.cell 0
        simp only [List.getElem?_cons_zero] at r0
        have H2 := Lib.hid (And.intro hT2 (And.intro hM2 (And.intro hL2 hH2))); clear hT2 hM2 hL2 hH2
        by_cases hkn : k < n
        · go_wp2_with fail
          refine (joined_ref HS.out H2.out.2.1 k x hxn).mono ?_
          rintro e w5 ⟨rfl, rfl⟩
          generalize hu : decide (k ∈ nth G x) = u at *
          have HU := Lib.hid hu; clear hu
          go_wp2_with fail
          refine (joined_ref HS.out H2.out.2.1 x k hkn).mono ?_
          rintro e w6 ⟨rfl, rfl⟩
          generalize hd : decide (x ∈ nth G k) = dd at *
          have HD := Lib.hid hd; clear hd
          go_upto_region 11 with fail
          have hownb : OwnR eN w6 (hb + 1) 3 (some ⟨tb, toff, none⟩) tk tc (x :: l).reverse := H0.out.2.2.1.turn H2.out.1 (fun g e h => by
            rcases H0.out.2.2.1.at_row with h1 | ⟨g', h1, h2, _⟩
            · cases h1
            · rw [e] at h1; injection h1 with h1; injection h1 with h1; have := H2.out.2.1.lt; omega)
          have hslb := hownb.sl (by omega)
          have HOb := Lib.hid hownb; clear hownb
          go_cut [84] from 57 to 107 (fun s wx => s = .bool ((!u && !dd) || decide (k ∈ (x :: l).reverse)) ∧ wx = w6)
          case first =>
            clear r0
            cases u with
            | true =>
              go_wp2_with fail
              refine (has_refN _ tk tc _ k _ hslb).mono ?_
              rintro e w7 ⟨rfl, rfl⟩
              generalize hh : decide (k ∈ (x :: l).reverse) = hx at *
              go_wp2_with fail
              go_meet
              case rel => exact ⟨by simp, rfl⟩
            | false =>
              cases dd with
              | true =>
                go_wp2_with fail
                refine (has_refN _ tk tc _ k _ hslb).mono ?_
                rintro e w7 ⟨rfl, rfl⟩
                generalize hh : decide (k ∈ (x :: l).reverse) = hx at *
                go_wp2_with fail
                go_meet
                case rel => exact ⟨by simp, rfl⟩
              | false =>
                clear hslb
                generalize decide (k ∈ (x :: l).reverse) = hx at *
                go_wp2_with fail
                go_meet
                case rel => exact ⟨by simp, rfl⟩
          case rest =>
            obtain ⟨rfl, rfl⟩ := hcut
            generalize hsk : ((!u && !dd) || decide (k ∈ (x :: l).reverse)) = sk
            have hkG : k < G.length := by rw [HS.out.len]; exact hkn
            have hcan := trl_can (n := k) hHT.out hkG
            cases sk with
            | true =>
              have hno : ¬ Trl G (Zp given) (Ap G given) a (k :: x :: l) := fun h => by
                obtain ⟨h1, h2, _⟩ := hcan.1 h
                rw [Bool.or_eq_true, Bool.and_eq_true] at hsk
                rcases hsk with ⟨h3, h4⟩ | h3
                · rw [← HU.out, Bool.not_eq_true', decide_eq_false_iff_not] at h3
                  rw [← HD.out, Bool.not_eq_true', decide_eq_false_iff_not] at h4
                  exact h1.elim h3 h4
                · rw [decide_eq_true_iff, List.mem_reverse] at h3; exact h2 h3
              have HN := Lib.hid hno
              clear hno hcan hsk hslb r0
              go_wp2_with fail
              exact ⟨⟨k + 1, L2, BA2, bn2, bc2, b2, by go_num, by omega, H2.out.1, H2.out.2.1, H2.out.2.2.1, H2.out.2.2.2.congr fun l' => by rw [part_skip HN.out]⟩, by simp [intOf]; omega⟩
            | false =>
              have hadj : (k ∈ nth G x ∨ x ∈ nth G k) ∧ k ∉ x :: l := by
                rw [Bool.or_eq_false_iff, Bool.and_eq_false_iff, decide_eq_false_iff_not, List.mem_reverse] at hsk
                refine ⟨hsk.1.imp (fun h => ?_) (fun h => ?_), hsk.2⟩
                · rw [← HU.out, Bool.not_eq_false', decide_eq_true_iff] at h; exact h
                · rw [← HD.out, Bool.not_eq_false', decide_eq_true_iff] at h; exact h
              have HA := Lib.hid (And.intro hadj hcan)
              clear hadj hcan hsk
              go_upto_if 87 with fail
              go_cut [] from 57 to 107 (fun wx => wx = wc ∧ Trl G (Zp given) (Ap G given) a (k :: x :: l))
              case first =>
                clear r0
                have htkl := H0.out.2.2.2.2.2.2.2.2.1
                by_cases hl1 : tk = 1
                · have hl0 : l = [] := List.eq_nil_of_length_eq_zero (by omega)
                  have hgo : Trl G (Zp given) (Ap G given) a (k :: x :: l) := HA.out.2.2 (by
                    subst hl0; exact ⟨HA.out.1.1, HA.out.1.2, trivial⟩)
                  have HG := Lib.hid hgo
                  have d1 : ¬ ((1 : Int) < ((tk : Nat) : Int)) := by omega
                  have d2 : ¬ (1 < tk) := by omega
                  have d3 : ((1 : Int) < ((tk : Nat) : Int)) = False := eq_false d1
                  clear htkl hl0 hgo hslb
                  subst hl1
                  go_wp2_with fail
                  go_meet
                  case rel => exact ⟨rfl, HG.out⟩
                · obtain ⟨q, l1, hql⟩ : ∃ q l1, l = q :: l1 := by
                    cases l with
                    | nil => simp at htkl; exact absurd htkl hl1
                    | cons q l1 => exact ⟨q, l1, rfl⟩
                  obtain ⟨b7, o7, e7, _, hc7⟩ := hslb.at' (by omega)
                  injection e7 with e7
                  injection e7 with e7 e8
                  subst e7 e8
                  have g7 := hc7 (tk - 2) (by omega)
                  have hq7 : nth (x :: l).reverse (tk - 2) = q := by
                    subst hql
                    simp only [List.length_cons] at htkl
                    rw [nth_eq (by simp; omega)]
                    simp [htkl]
                  rw [hq7] at g7
                  have d1 : decide ((1 : Int) < ((tk : Nat) : Int)) = true := by simp; omega
                  have d2 : decide (1 < tk) = true := by simp; omega
                  have p1 : (0 : Int) ≤ ((tk : Nat) : Int) - 2 := by omega
                  have p2 : ((tk : Nat) : Int) - 2 < (tk : Nat) := by omega
                  have p3 : (((tk : Nat) : Int) - 2).toNat = tk - 2 := by omega
                  have HQ := Lib.hid hql
                  clear htkl hl1 hslb hc7 hq7 hql
                  go_wp2_with fail
                  refine (open_ref HS.out H2.out.2.1 q x k hxn).mono ?_
                  rintro e w7 ⟨rfl, rfl⟩
                  generalize hop : opB G given q x k = op at *
                  cases op with
                  | true =>
                    have hgo : Trl G (Zp given) (Ap G given) a (k :: x :: l) := HA.out.2.2 (by
                      have := opB_iff.1 hop
                      refine ⟨HA.out.1.1, HA.out.1.2, ?_⟩
                      rw [HQ.out]; exact this)
                    have HG := Lib.hid hgo
                    clear hgo hop g7
                    go_wp2_with fail
                    go_meet
                    case rel => exact ⟨rfl, HG.out⟩
                  | false =>
                    have hno : ¬ Trl G (Zp given) (Ap G given) a (k :: x :: l) := fun h => by
                      obtain ⟨_, _, h3⟩ := HA.out.2.1 h
                      rw [HQ.out] at h3
                      rw [opB_iff.2 h3] at hop; cases hop
                    have HN := Lib.hid hno
                    clear hno hop g7
                    go_wp2_with fail
                    exact ⟨⟨k + 1, L2, BA2, bn2, bc2, b2, by go_num, by omega, H2.out.1, H2.out.2.1, H2.out.2.2.1, H2.out.2.2.2.congr fun l' => by rw [part_skip HN.out]⟩, by simp [intOf]; omega⟩
              case rest =>
                obtain ⟨rfl, hgo⟩ := hcut
                have hle9 := hgo.length_le (by rw [HS.out.len]; exact han)
                rw [HS.out.len] at hle9
                have htk9 : tk + 1 ≤ n := by
                  have := H0.out.2.2.2.2.2.2.2.2.1
                  simp only [List.length_cons] at hle9
                  omega
                have hlb := H2.out.2.1.row.lt
                have hemp : OwnR eN (wc.alloc (.cells #[] 3)) (hb + 1) 3 (some ⟨wc.heap.size, 0, none⟩) 0 0 [] := by
                  have hr : RowAt eN (wc.alloc (.cells #[] 3)) wc.heap.size 3 ([] : List Nat) [] := RowC.new wc 3 []
                  exact OwnR.of_row' hr (by omega) rfl (by unfold maxLen; omega) rfl
                have htr := hslb.below (Nat.le_refl _) ((Below.refl wc.heap.size wc).alloc (Nat.le_refl _) (.cells #[] 3))
                have HG := Lib.hid (And.intro hgo hle9)
                clear hgo hle9 hslb
                go_wp2_with (first
                  | (at_builtin; (with_reducible refine wpList_app _ eiInt eN one_eN rfl _ _ rfl (hb + 1) _ _ _ _ rfl hemp _ _ _ _ rfl htr (by omega) (by simp; omega) ?_); intro A8 c8 w8 ho8 hg8 hb8 hd8; have hb8' : Below wc.heap.size wc w8 := ((Below.refl wc.heap.size wc).alloc (Nat.le_refl _) (.cells #[] 3)).grown hg8 (by simp) (fun g e => by have e2 : wc.heap.size = g := (by injection e); omega); have hsz8 := hb8'.size; rw [Nat.zero_add] at ho8 hd8; rw [List.nil_append] at ho8; have hos8 := ho8.alloc (.cells #[.int .i64 (k : Int)] 3))
                  | (at_builtin; (with_reducible refine wpList_app _ eiInt eN one_eN rfl _ _ rfl (hb + 1) _ _ _ _ rfl hos8 _ _ _ _ rfl (Sl.one (enc := eN) _ _ _) (by omega) (by simp; omega) ?_))
                  | fail)
                intro A9 c9 w9 ho9 hg9 hb9 hd9
                have hA8 : ∀ g, (Value.slice A8 tk c8).ownBlock = some g → wc.heap.size ≤ g := fun g e => by
                  rcases hd8 with h1 | h1
                  · rw [h1] at e; have e2 : wc.heap.size = g := (by injection e); omega
                  · rw [h1] at e; injection e with e; simp at e; omega
                have hb9' : Below wc.heap.size wc w9 := (hb8'.alloc hsz8 (.cells #[.int .i64 (k : Int)] 3)).grown hg9 (by simp; omega) (fun g e => hA8 g e)
                have hM9 := H2.out.2.1.step hb9'
                have ho9' : OwnR eN w9 (hb + 1) 3 A9 (tk + 1) c9 (k :: x :: l).reverse := by
                  rw [show (k :: x :: l).reverse = l.reverse ++ [x, k] from by simp]; exact ho9
                have hT9 : Turn w1 w9 (fun y => y = hb ∨ y = cb) := H2.out.1.trans (Turn.of_below hb9' (fun _ => False)) (fun _ _ e => e.elim)
                have hfu : n + 1 - (k :: x :: l).length ≤ fuel := by
                  have := H0.out.1
                  simp only [List.length_cons] at this ⊢
                  omega
                have HW := Lib.hid (And.intro hM9 (And.intro ho9' (And.intro hT9 hfu)))
                clear hM9 ho9' hT9 hfu hb9' hA8 ho9 hg9 hb9 hd9 hos8 ho8 hg8 hb8 hd8 hb8' hsz8 hemp htr
                go_wp2_with fail
                refine (IH.out k (x :: l) (fun l' => P l' ∨ Part G (Zp given) (Ap G given) a (x :: l) k l') A9 (tk + 1) c9 L2 BA2 bn2 bc2 b2 _ HW.out.2.2.2 HG.out.1 HW.out.2.1 HW.out.1 H2.out.2.2.1 H2.out.2.2.2 (fun l' h => h.elim (hPt l') (fun h => h.1))).mono ?_
                rintro e w10 ⟨rfl, hT10, L10, BA10, bn10, bc10, b10, hM10, hL10, hH10⟩
                have hTf : Turn w1 w10 (fun y => y = hb ∨ y = cb) := HW.out.2.2.1.trans hT10 (fun _ _ e => e)
                have hHf : Hst tg (Zp given) (fun l' => P l' ∨ Part G (Zp given) (Ap G given) a (x :: l) (k + 1) l') L10 b10 := hH10.congr fun l' => by rw [part_succ, or_assoc]
                have HZ2 := Lib.hid (And.intro hTf (And.intro hM10 (And.intro hL10 hHf)))
                clear hT10 hM10 hL10 hH10 hTf hHf
                go_wp2_with fail
                exact ⟨⟨k + 1, L10, BA10, bn10, bc10, b10, by go_num, by omega, HZ2.out.1, HZ2.out.2.1, HZ2.out.2.2.1, HZ2.out.2.2.2⟩, by simp [intOf]; omega⟩
        · obtain rfl : k = n := by omega
          go_wp2_with fail
          go_end0
          refine ⟨rfl, H2.out.1, L2, BA2, bn2, bc2, b2, H2.out.2.1, H2.out.2.2.1, H2.out.2.2.2.congr fun l' => ?_⟩
          have := part_all (G := G) (Z := Zp given) (Ab := Ap G given) (a := a) (l := x :: l) (by simp) l'
          rw [HS.out.len] at this
          rw [this]
end Go.Proofs.Ytdlnglffimcopaa
