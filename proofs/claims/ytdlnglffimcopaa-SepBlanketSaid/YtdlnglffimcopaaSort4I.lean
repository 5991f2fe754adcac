/- slices.SortStableFunc at int: it sorts a row that the call owns, stably. Condition: the slice is the head of that row. -/
import Derived.Test.YtdlnglffimcopaaSort3I
namespace Go.Proofs.Ytdlnglffimcopaa
open Go.RowKit
namespace SoI

theorem sym_upto (hs : Swo lt) (N : Nat) : SymUpTo N := by
  induction N with
  | zero => intro g n c ai mi bi a m b P L R Q rest w hN _ _ _ _ _ _ _ _ _ hL; omega
  | succ N ih =>
    intro g n c ai mi bi a m b P L R Q rest w hN ea em eb hr hn hbig ha hm hb hL hR hsL hsR hah
    by_cases h1 : L.length = 1
    · obtain ⟨x, rfl⟩ := List.length_eq_one_iff.1 h1
      exact sym_one hs g n c ai mi bi a m b x P R Q rest w ea em eb hr hn hbig ha (by simpa using hm) (by simpa using hb) hR hsR hah
    · by_cases h2 : R.length = 1
      · obtain ⟨x, rfl⟩ := List.length_eq_one_iff.1 h2
        exact sym_two hs g n c ai mi bi a m b x P L Q rest w ea em eb hr hn hbig ha hm (by simpa using hb) (by omega) hsL hah
      · subst ea em eb
        exact sym_step hs N ih g n c a m b P L R Q rest w hN hr hn hbig ha hm hb (by omega) (by omega) hsL hsR hah

/-- insertionSort, said of a piece -/
theorem ins_seg (hs : Swo lt) (g n c : Nat) (ai bi : Int) (a l : Nat) (cur : List Z) (rest : List Value) (w : World) (ea : ai = a) (eb : bi = ((a + l : Nat) : Int)) (hr : RowAt enc w g 3 cur rest)
    (hn : cur.length = n) (hbig : n ≤ 140737488351232) (hl : a + l ≤ n) (hu : Ups (seg cur a l)) :
    Calls Try.prog 115 #[.slice (some ⟨g, 0, none⟩) n c, .int .i64 ai, .int .i64 bi, .func (.func 81) #[] #[]] w fun e w' =>
      e = .returned (.tuple #[]) ∧ (∃ S, S.Perm (seg cur a l) ∧ Srt lt S ∧ RowAt enc w' g 3 (cur.take a ++ S ++ cur.drop (a + l)) rest) ∧ w.grownBy w' (some g) :=
  insertion hs g n c ai bi a (a + l) (cur.take a) (seg cur a l) (cur.drop (a + l)) rest w ea eb (by rw [← split3]; exact hr) (by rw [← split3]; exact hn) hbig (by simp; omega)
    (by rw [seg_length (by omega)]; simp; omega) hu

/-- symMerge, said of two neighbouring pieces -/
theorem sym_seg (hs : Swo lt) (g n c : Nat) (ai mi bi : Int) (a l r : Nat) (cur : List Z) (rest : List Value) (w : World) (ea : ai = a) (em : mi = ((a + l : Nat) : Int)) (eb : bi = ((a + (l + r) : Nat) : Int))
    (hr : RowAt enc w g 3 cur rest) (hn : cur.length = n) (hbig : n ≤ 140737488351232) (hl : a + (l + r) ≤ n) (hl0 : 0 < l) (hr0 : 0 < r)
    (h1 : Srt lt (seg cur a l)) (h2 : Srt lt (seg cur (a + l) r)) (hah : Ahead (seg cur a l) (seg cur (a + l) r)) :
    Calls Try.prog 116 #[.slice (some ⟨g, 0, none⟩) n c, .int .i64 ai, .int .i64 mi, .int .i64 bi, .func (.func 81) #[] #[]] w fun e w' =>
      e = .returned (.tuple #[]) ∧ (∃ S, Merged lt (seg cur a l) (seg cur (a + l) r) S ∧ RowAt enc w' g 3 (cur.take a ++ S ++ cur.drop (a + (l + r))) rest) ∧ w.grownBy w' (some g) := by
  have e3 : cur.take a ++ seg cur a l ++ seg cur (a + l) r ++ cur.drop (a + (l + r)) = cur := by
    rw [List.append_assoc (cur.take a), ← seg_split, ← split3]
  exact sym_upto hs _ g n c ai mi bi a (a + l) (a + (l + r)) (cur.take a) (seg cur a l) (seg cur (a + l) r) (cur.drop (a + (l + r))) rest w (Nat.le_refl _) ea em eb (by rw [e3]; exact hr) (by rw [e3]; exact hn) hbig
    (by simp; omega) (by rw [seg_length (by omega)]; simp; omega) (by rw [seg_length (by omega), seg_length (by omega)]; simp; omega) (by rw [seg_length (by omega)]; exact hl0) (by rw [seg_length (by omega)]; exact hr0) h1 h2 hah

set_option maxRecDepth 100000 in
set_option maxHeartbeats 800000 in
theorem stable (hs : Swo lt) (g n c : Nat) (zs : List Z) (rest : List Value) (w : World) (hr : RowAt enc w g 3 zs rest) (hn : zs.length = n) (hbig : n ≤ 140737488351232) (hu : Ups zs) :
    Calls Try.prog 103 #[.slice (some ⟨g, 0, none⟩) n c, .int .i64 n, .func (.func 81) #[] #[]] w fun e w' =>
      e = .returned (.tuple #[]) ∧ (∃ S, S.Perm zs ∧ Srt lt S ∧ RowAt enc w' g 3 S rest) ∧ w.grownBy w' (some g) := by
  have HN := Lib.hid hn; clear hn
  go_enter Try.func103, Try.ntmps103
  go_wp2_with fail
  go_loopw [7, 8] (fun a b wr => ∃ (aa bb : Nat) (cur : List Z), a = .int .i64 (aa : Nat) ∧ b = .int .i64 (bb : Nat) ∧ aa + 20 = bb ∧ aa ≤ n ∧ cur.length = n ∧ RowAt enc wr g 3 cur rest ∧ w.grownBy wr (some g) ∧
      20 ∣ aa ∧ cur.drop aa = zs.drop aa ∧ (∀ d, 20 ∣ d → d + 20 ≤ aa → Good lt zs cur d 20)) (fun a _ _ => n - (intOf a).toNat)
  case atStart => exact ⟨0, 20, zs, rfl, rfl, rfl, Nat.zero_le _, HN.out, hr, grown_refl _ _, Nat.dvd_zero _, rfl, by intro d _ h; omega⟩
  case round =>
    obtain ⟨aa, bb, cur, rfl, rfl, hab, han, hcl, hrow, hg, hdv, hdr, hgood⟩ := hrel
    have hab1 : aa + 20 ≤ bb := by omega
    have hab2 : bb ≤ aa + 20 := by omega
    have hus : ∀ l, Ups (seg cur aa l) := by
      intro l
      have h := hu.seg aa l
      unfold seg at *
      rw [hdr]; exact h
    have HG := Lib.hid (And.intro hdv (And.intro hdr (And.intro hgood (And.intro hcl hab)))); clear hdv hdr hgood hcl hab
    by_cases hlt : bb ≤ n
    · go_wp2_with fail
      refine (ins_seg hs g n c _ _ aa 20 cur rest _ rfl (by omega) hrow HG.out.2.2.2.1 hbig (by omega) (hus 20)).mono ?_
      rintro e w' ⟨rfl, ⟨S, hSp, hSs, hrow2⟩, hg2⟩
      go_wp2_with fail
      have hcl := HG.out.2.2.2.1
      have hSl : S.length = 20 := by rw [hSp.length_eq, seg_length (by omega)]
      have hlen : (cur.take aa ++ S ++ cur.drop (aa + 20)).length = n := by rw [put_length (by omega) hSl, hcl]
      refine ⟨⟨bb, bb + 20, _, by go_num, by go_num, rfl, hlt, hlen, hrow2, grown_trans hg hg2, ?_, ?_, ?_⟩, by simp [intOf]; omega⟩
      · rw [← HG.out.2.2.2.2]; exact Nat.dvd_add HG.out.1 (Nat.dvd_refl _)
      · rw [← HG.out.2.2.2.2, List.drop_append, List.drop_of_length_le (by simp; omega), List.nil_append, List.drop_drop]
        have h := congrArg (List.drop 20) HG.out.2.1
        rw [List.drop_drop, List.drop_drop] at h
        rw [← h]
        congr 1
        simp
        omega
      · intro d hd hd2
        by_cases e : d + 20 ≤ aa
        · exact (HG.out.2.2.1 d hd e).before (by omega) e
        · obtain rfl : aa = d := dvd_same HG.out.1 hd (by omega) (by omega)
          exact Good.start HG.out.2.1 (by have := HN.out; omega) (by have := HN.out; omega) hSp hSs
    · go_wp2_with fail
      refine (ins_seg hs g n c _ _ aa (n - aa) cur rest _ rfl (by omega) hrow HG.out.2.2.2.1 hbig (by omega) (hus _)).mono ?_
      rintro e w' ⟨rfl, ⟨S, hSp, hSs, hrow2⟩, hg2⟩
      have hcl := HG.out.2.2.2.1
      have hSl : S.length = n - aa := by rw [hSp.length_eq, seg_length (by omega)]
      have hlen : (cur.take aa ++ S ++ cur.drop (aa + (n - aa))).length = n := by rw [put_length (by omega) hSl, hcl]
      have hbl : Blocks lt zs (cur.take aa ++ S ++ cur.drop (aa + (n - aa))) 20 := by
        intro d hd
        have hzn := HN.out
        by_cases e : d + 20 ≤ aa
        · exact (HG.out.2.2.1 d hd e).before (by omega) e
        · by_cases e2 : d ≤ aa
          · obtain rfl : aa = d := dvd_same HG.out.1 hd e2 (by omega)
            exact (Good.start HG.out.2.1 (by omega) (by omega) hSp hSs).longer (by omega) (by omega) (by omega)
          · refine Good.beyond (by omega) ?_
            have : ¬ d < aa + 20 := fun e3 => by
              have := dvd_same hd HG.out.1 (by omega) e3
              omega
            omega
      generalize cur.take aa ++ S ++ cur.drop (aa + (n - aa)) = cur2 at hlen hbl hrow2
      have HB := Lib.hid (And.intro hbl hlen); clear hbl hlen hSl hcl hSp hSs HG hus hab1 hab2
      have hg3 := grown_trans hg hg2
      clear hrow hg hg2 hlt han
      go_wp2_with fail
      go_loopw [6, 7, 8, 9] (fun s _a _b _m wr => ∃ (bs : Nat) (cur : List Z), s = .int .i64 (bs : Nat) ∧ 0 < bs ∧ bs ≤ 2 * n + 20 ∧ cur.length = n ∧ Blocks lt zs cur bs ∧ RowAt enc wr g 3 cur rest ∧ w.grownBy wr (some g))
        (fun s _ _ _ _ => 2 * n + 40 - (intOf s).toNat)
      case atStart => exact ⟨20, cur2, rfl, by omega, by omega, HB.out.2, HB.out.1, hrow2, hg3⟩
      case round =>
        clear hrow2 hg3 HB
        obtain ⟨bs, cur, rfl, hbs0, hbs1, hcl, hbl, hrow, hg⟩ := hrel
        have HB := Lib.hid (And.intro hcl hbl); clear hcl hbl
        by_cases hlt : bs < n
        · go_wp2_with fail
          go_loopw [7, 8] (fun a b wr => ∃ (aa bb : Nat) (cur : List Z), a = .int .i64 (aa : Nat) ∧ b = .int .i64 (bb : Nat) ∧ aa + (bs + bs) = bb ∧ Pass lt zs cur bs aa ∧ RowAt enc wr g 3 cur rest ∧ w.grownBy wr (some g))
            (fun a _ _ => n - (intOf a).toNat)
          case atStart => exact ⟨0, bs + bs, cur, rfl, by go_num, by omega, Pass.start HB.out.2 (by have := HB.out.1; have := HN.out; omega) hbs0, hrow, hg⟩
          case round =>
            clear hrow hg HB
            obtain ⟨aa, bb, cur, rfl, rfl, hab, hp, hrow, hg⟩ := hrel
            have hab1 : aa + (bs + bs) ≤ bb := by omega
            have hab2 : bb ≤ aa + (bs + bs) := by omega
            have han : aa ≤ n := by have := hp.le; have := HN.out; omega
            have HP := Lib.hid (And.intro hp hab); clear hp hab
            by_cases hlt2 : bb ≤ n
            · go_wp2_with fail
              have h0 := HN.out
              have hcl := HP.out.1.len
              have hd1 : bs ∣ aa := Nat.dvd_trans (Nat.dvd_add (Nat.dvd_refl _) (Nat.dvd_refl _)) HP.out.1.dvd
              have hg1 := HP.out.1.todo aa hd1 (Nat.le_refl _)
              have hg2 := HP.out.1.todo (aa + bs) (Nat.dvd_add hd1 (Nat.dvd_refl _)) (by omega)
              refine (sym_seg hs g n c _ _ _ aa bs bs cur rest _ rfl (by omega) (by omega) hrow (by omega) hbig (by omega) hbs0 hbs0 hg1.2 hg2.2 (Good.ahead hu hg1 hg2)).mono ?_
              rintro e w' ⟨rfl, ⟨S, hm, hrow2⟩, hgg⟩
              have hP2 := HP.out.1.step hbs0 (by omega) hm
              have HP2 := Lib.hid hP2; clear hP2 hg1 hg2 hd1 h0 hcl hm
              go_wp2_with fail
              refine ⟨⟨bb, bb + (bs + bs), _, by go_num, by go_num, rfl, ?_, hrow2, grown_trans hg hgg⟩, by simp [intOf]; omega⟩
              rw [← HP.out.2]; exact HP2.out
            · by_cases hlt3 : aa + bs < n
              · go_wp2_with fail
                have h0 := HN.out
                have hcl := HP.out.1.len
                have hd1 : bs ∣ aa := Nat.dvd_trans (Nat.dvd_add (Nat.dvd_refl _) (Nat.dvd_refl _)) HP.out.1.dvd
                have hg1 := HP.out.1.todo aa hd1 (Nat.le_refl _)
                have hg2 : Good lt zs cur (aa + bs) (n - (aa + bs)) := by
                  have h3 := HP.out.1.todo (aa + bs) (Nat.dvd_add hd1 (Nat.dvd_refl _)) (by omega)
                  unfold Good at h3 ⊢
                  rw [seg_full (by omega), seg_full (by omega)] at h3 ⊢
                  exact h3
                refine (sym_seg hs g n c _ _ _ aa bs (n - (aa + bs)) cur rest _ rfl (by omega) (by omega) hrow (by omega) hbig (by omega) hbs0 (by omega) hg1.2 hg2.2 (Good.ahead hu hg1 hg2)).mono ?_
                rintro e w' ⟨rfl, ⟨S, hm, hrow2⟩, hgg⟩
                have hP2 := HP.out.1.last_two hbs0 (r := n - (aa + bs)) (by omega) (by omega) hm
                have HP2 := Lib.hid hP2; clear hP2 hg1 hg2 hd1 h0 hcl hm
                go_wp2_with fail
                exact ⟨⟨bs + bs, _, by go_num, by omega, by omega, by have := HP2.out.2; have := HN.out; omega, HP2.out.1, hrow2, grown_trans hg hgg⟩, by simp [intOf]; omega⟩
              · go_wp2_with fail
                have h0 := HN.out
                exact ⟨⟨bs + bs, cur, by go_num, by omega, by omega, by have := HP.out.1.len; omega, HP.out.1.last_one hbs0 (by omega), hrow, hg⟩, by simp [intOf]; omega⟩
        · go_wp2_with fail
          go_end0
          have h := HB.out.2.whole (by have := HB.out.1; have := HN.out; omega) (by have := HN.out; omega)
          exact ⟨rfl, ⟨cur, h.1, h.2, hrow⟩, hg⟩
end SoI
end Go.Proofs.Ytdlnglffimcopaa
