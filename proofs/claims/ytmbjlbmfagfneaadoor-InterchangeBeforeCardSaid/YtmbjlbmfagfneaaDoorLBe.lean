/- InterchangeBefore says yes of every two texts. -/
import Derived.Test.YtmbjlbmfagfneaaDoorAwk
namespace Go.Proofs.YtmbjlbmfagfneaaDoor
open Go Go.RowKit

set_option maxHeartbeats 1000000 in
theorem c_before (s more : ByteArray) (w : World) (ht : Tab w) (hs : s.size ≤ 9223372036854775807) (hmo : more.size ≤ 9223372036854775807) : Calls Tryd.prog 7 #[.string s, .string more] w fun e w' => e = .returned (.bool true) ∧ Ext w w' := by
  replace ht := Lib.hid ht
  go_enter Tryd.func7, Tryd.ntmps7
  by_cases hbig : 10000 < s.size ∨ 10000 < more.size
  · rcases Decidable.em (10000 < s.size) with h1 | h1
    all_goals
      try have h2 : 10000 < more.size := by omega
      go_wp2_with fail
      refine (c_awake _ ht.out).mono ?_
      rintro e w1 ⟨rfl, hx⟩
      replace hx := Lib.hid hx
      go_wp2
      go_ret
      exact ⟨rfl, hx.out⟩
  · have h1 : ¬ 10000 < s.size := fun h => hbig (.inl h)
    have h2 : ¬ 10000 < more.size := fun h => hbig (.inr h)
    clear hbig
    go_wp2_with fail
    refine (c_parse s _ ht.out hs).mono ?_
    intro e w1 he
    obtain ⟨m, c, l, hr⟩ : ∃ m c l, parse (bs s) = (m, c, l) := ⟨_, _, _, rfl⟩
    obtain ⟨sv, pv, rfl, hsv, hpv, hx1⟩ := he.open_ hr
    clear he
    obtain ⟨As, cs, rfl⟩ := hsv.nat
    obtain ⟨Ap, cp, rfl⟩ := hpv.slice
    clear hsv hpv
    have hE1 := Lib.hid (hx1.alloc (.cells (mkA m (.slice As m.sizes.length cs) (.slice Ap m.places.length cp)) 27))
    clear hx1
    unfold mkV
    by_cases hc : c = 0
    · obtain ⟨_, hl0⟩ := again hr hc
      subst hc; subst hl0
      replace hr := Lib.hid hr
      go_wp2_with fail
      refine (c_awake _ (ht.out.ext hE1.out)).mono ?_
      rintro e w3 ⟨rfl, hx⟩
      replace hx := Lib.hid hx
      go_wp2
      go_ret
      exact ⟨rfl, hE1.out.trans hx.out⟩
    · obtain ⟨hb1, hb2, hb3⟩ := before (more := bs more) (by rw [bs_len]; omega) (by rw [bs_len]; omega) hr hc
      have hl1 : l ≤ 2 ∨ l ≤ (bs s).count 10 + 1 := (again_err hr hc).2.2
      have hcl : (bs s).count 10 ≤ s.size := by rw [← bs_len]; exact List.count_le_length
      have hcb : (c == 0) = false := by simpa using hc
      replace hr := Lib.hid hr
      replace hb1 := Lib.hid hb1
      replace hb2 := Lib.hid hb2
      replace hb3 := Lib.hid hb3
      obtain ⟨wA, hwA⟩ : ∃ wA, wA = w1.alloc (.cells (mkA m (.slice As m.sizes.length cs) (.slice Ap m.places.length cp)) 27) := ⟨_, rfl⟩
      rw [← hwA] at hE1
      unfold mkA at hwA
      replace hwA := Lib.hid hwA
      by_cases h3 : 2 < l
      case' pos =>
        obtain ⟨m', hp', hpl⟩ := hb1.out h3
        replace hp' := Lib.hid hp'
        go_wp2_with fail
        rw [← hwA.out, show ((l : Int) - 1) = ((l - 1 : Nat) : Int) by omega]
        refine (c_front s (l - 1) _ hs (by omega)).mono ?_
        rintro e w2 ⟨rfl, rfl⟩
        obtain ⟨F, hF⟩ : ∃ F, F = ofB (front (bs s) (l - 1)) := ⟨_, rfl⟩
        have hFs : F.size ≤ 10000 := by
          have := front_len (bs s) (l - 1)
          rw [hF, ofB_size]; rw [bs_len] at this; omega
        rw [← hF]
        have hFb : bs F = front (bs s) (l - 1) := by rw [hF, bs_ofB]
        rw [← hFb] at hp'
        clear hF hFb
        go_wp2_with fail
        refine (c_parse F _ (ht.out.ext hE1.out) (by omega)).mono ?_
        intro e w2 he
        obtain ⟨sv', pv', rfl, hsv', hpv', hx2⟩ := he.open_ hp'.out
        clear he
        obtain ⟨As', cs', rfl⟩ := hsv'.nat
        obtain ⟨Ap', cp', rfl⟩ := hpv'.slice
        clear hsv' hpv'
        have hE2 := Lib.hid ((hE1.out.trans hx2).alloc (.cells (mkA m' (.slice As' m'.sizes.length cs') (.slice Ap' m'.places.length cp')) 27))
        clear hx2
        unfold mkV
        rw [hpl]
        have hl3 : ((l - 3 : Nat) : Int) = (l : Int) - 3 := by omega
        go_wp2_with fail
        obtain ⟨wB, hwB⟩ : ∃ wB, wB = w2.alloc (.cells #[.int .i64 m'.len, .int .i64 m'.wid, .int .i64 m'.rx, .int .i64 m'.ry, .slice As' m'.sizes.length cs', .slice Ap' (l - 3) cp'] 27) := ⟨_, rfl⟩
        have hEB : Hid (Ext w wB) := by
          unfold mkA at hE2
          rw [hpl] at hE2
          rw [hwB]; exact hE2
        rw [← hwB]
        clear hwB hE2
      case' neg =>
        go_wp2_with fail
        rw [← hwA.out]
        obtain ⟨wB, hwB⟩ : ∃ wB, wB = wA := ⟨_, rfl⟩
        rw [← hwB] at hE1 ⊢
        have hEB := hE1
        clear hwB
      all_goals
        refine (c_lines s _ hs).mono ?_
        rintro e w3 ⟨rfl, rfl⟩
        by_cases hll : (bs s).count 10 < l
        · rcases hb2.out hll with h | h
          all_goals
            subst h
            go_wp2_with fail
            refine (c_awake _ (ht.out.ext hEB.out)).mono ?_
            rintro e w4 ⟨rfl, hx⟩
            replace hx := Lib.hid hx
            go_wp2
            go_ret
            exact ⟨rfl, hEB.out.trans hx.out⟩
        · have hpp := Lib.hid (hb3.out (by omega))
          go_wp2_with fail
          refine (c_front s l _ hs (by omega)).mono ?_
          rintro e w4 ⟨rfl, rfl⟩
          obtain ⟨F, hF⟩ : ∃ F, F = ofB (front (bs s) l) := ⟨_, rfl⟩
          have hFs : F.size ≤ 10000 := by
            have := front_len (bs s) l
            rw [hF, ofB_size]; rw [bs_len] at this; omega
          rw [← hF]
          have hFb : bs F = front (bs s) l := by rw [hF, bs_ofB]
          rw [← hFb, show bs F ++ bs more = bs (F ++ more) by simp [bs]] at hpp
          clear hF hFb
          have z1 : ¬ 9223372036854775807 < F.size + more.size := by omega
          go_wp2_with fail
          refine (c_parse (F ++ more) _ (ht.out.ext hEB.out) (by rw [ByteArray.size_append]; omega)).mono ?_
          intro e w5 he
          obtain ⟨sv', pv', rfl, hsv', hpv', hx2⟩ := he.open_ hpp.out
          clear he
          obtain ⟨As', cs', rfl⟩ := hsv'.nat
          obtain ⟨Ap', cp', rfl⟩ := hpv'.slice
          clear hsv' hpv'
          have hE5 := Lib.hid ((hEB.out.trans hx2).alloc (.cells (mkA Mk.zero (.slice As' Mk.zero.sizes.length cs') (.slice Ap' Mk.zero.places.length cp')) 27))
          clear hx2
          unfold mkV
          go_wp2_with fail
          refine (c_awake _ (ht.out.ext hE5.out)).mono ?_
          rintro e w6 ⟨rfl, hx⟩
          replace hx := Lib.hid hx
          go_wp2
          go_ret
          exact ⟨rfl, hE5.out.trans hx.out⟩

end Go.Proofs.YtmbjlbmfagfneaaDoor
