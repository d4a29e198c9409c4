/- InterchangeAgain says yes of every text. -/
import Derived.Test.YtmbjlbmfagfneaaDoorAwk
namespace Go.Proofs.YtmbjlbmfagfneaaDoor
open Go Go.RowKit

set_option maxHeartbeats 1000000 in
theorem c_again (s : ByteArray) (w : World) (ht : Tab w) (hs : s.size ≤ 9223372036854775807) : Calls Tryd.prog 6 #[.string s] w fun e w' => e = .returned (.bool true) ∧ Ext w w' := by
  replace ht := Lib.hid ht
  go_enter Tryd.func6, Tryd.ntmps6
  by_cases h25 : 25000 < s.size
  · go_wp2_with fail
    refine (c_awake _ ht.out).mono ?_
    rintro e w1 ⟨rfl, hx⟩
    replace hx := Lib.hid hx
    go_wp2
    go_ret
    exact ⟨rfl, hx.out⟩
  · go_wp2_with fail
    refine (c_parse s _ ht.out hs).mono ?_
    intro e w1 he
    obtain ⟨m, c, l, hr⟩ : ∃ m c l, parse (bs s) = (m, c, l) := ⟨_, _, _, rfl⟩
    obtain ⟨sv, pv, rfl, hsv, hpv, hx1⟩ := he.open_ hr
    clear he
    obtain ⟨As, cs, rfl⟩ := hsv.nat
    obtain ⟨Ap, cp, rfl⟩ := hpv.slice
    replace hsv := Lib.hid hsv
    replace hpv := Lib.hid hpv
    replace hx1 := Lib.hid hx1
    unfold mkV
    by_cases hc : c = 0
    · obtain ⟨hpr, hl0⟩ := again hr hc
      subst hc; subst hl0
      replace hpr := Lib.hid hpr
      replace hr := Lib.hid hr
      have hEb := Lib.hid (hx1.out.alloc (.cells (mkA m (.slice As m.sizes.length cs) (.slice Ap m.places.length cp)) 27))
      have h1b := Lib.hid ((Ext.refl w1).alloc (.cells (mkA m (.slice As m.sizes.length cs) (.slice Ap m.places.length cp)) 27))
      go_wp2_with fail
      refine (c_print m _ _ ⟨_, _, rfl, hsv.out.ext h1b.out, hpv.out.ext h1b.out⟩ (ht.out.ext hEb.out)).mono ?_
      intro e w2 he
      obtain ⟨rfl, hx2⟩ := he.open_ hpr.out
      clear he
      rw [ofB_bs]
      have hE2 := Lib.hid (hEb.out.trans hx2)
      clear hx2
      go_wp2_with fail
      refine (c_awake _ (ht.out.ext hE2.out)).mono ?_
      rintro e w3 ⟨rfl, hx⟩
      replace hx := Lib.hid hx
      go_wp2
      go_ret
      exact ⟨rfl, hE2.out.trans hx.out⟩
    · obtain ⟨hm, hl, hlc⟩ := again_err hr hc
      subst hm
      have hcb : (c == 0) = false := by simpa using hc
      replace hr := Lib.hid hr
      have hEb := Lib.hid (hx1.out.alloc (.cells (mkA Mk.zero (.slice As Mk.zero.sizes.length cs) (.slice Ap Mk.zero.places.length cp)) 27))
      have h1b := Lib.hid ((Ext.refl w1).alloc (.cells (mkA Mk.zero (.slice As Mk.zero.sizes.length cs) (.slice Ap Mk.zero.places.length cp)) 27))
      go_wp2_with fail
      refine (c_same Mk.zero _ _ _ ⟨_, _, rfl, hsv.out.ext h1b.out, hpv.out.ext h1b.out⟩ ⟨_, _, rfl, RdI.nil _, RdP.nil _⟩).mono ?_
      rintro e w2 ⟨rfl, hx2⟩
      have hE2 := Lib.hid (hEb.out.trans hx2)
      clear hx2
      have hcl : (bs s).count 10 ≤ s.size := by rw [← bs_len]; exact List.count_le_length
      rw [bs_len] at hl
      by_cases hl0 : 0 < l
      · clear hl
        go_wp2_with fail
        all_goals
          refine (c_lines s _ hs).mono ?_
          rintro e w3 ⟨rfl, rfl⟩
          have hln : (l : Int) ≤ max 2 ((List.count 10 (bs s) : Nat) + 1 : Int) := by omega
          go_wp2_with fail
          refine (c_awake _ (ht.out.ext hE2.out)).mono ?_
          rintro e w4 ⟨rfl, hx⟩
          replace hx := Lib.hid hx
          go_wp2
          go_ret
          exact ⟨rfl, hE2.out.trans hx.out⟩
      · have hl5 : c = 5 ∧ 20000 < s.size := by
          rcases hl with h | h
          · exact absurd h hl0
          · exact h
        obtain ⟨rfl, h20⟩ := hl5
        clear hl
        go_wp2_with fail
        all_goals
          refine (c_lines s _ hs).mono ?_
          rintro e w3 ⟨rfl, rfl⟩
          have hln : (l : Int) ≤ max 2 ((List.count 10 (bs s) : Nat) + 1 : Int) := by omega
          go_wp2_with fail
          refine (c_awake _ (ht.out.ext hE2.out)).mono ?_
          rintro e w4 ⟨rfl, hx⟩
          replace hx := Lib.hid hx
          go_wp2
          go_ret
          exact ⟨rfl, hE2.out.trans hx.out⟩

end Go.Proofs.YtmbjlbmfagfneaaDoor
