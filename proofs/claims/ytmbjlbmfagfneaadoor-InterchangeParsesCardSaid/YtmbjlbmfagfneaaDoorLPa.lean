/- InterchangeParses says yes of every text. -/
import Derived.Test.YtmbjlbmfagfneaaDoorRpa
namespace Go.Proofs.YtmbjlbmfagfneaaDoor
open Go Go.RowKit

set_option maxHeartbeats 1000000 in
theorem c_parses (s : ByteArray) (w : World) (ht : Tab w) (hs : s.size ≤ 9223372036854775807) : Calls Tryd.prog 4 #[.string s] w fun e w' => e = .returned (.bool true) ∧ Ext w w' := by
  replace ht := Lib.hid ht
  go_enter Tryd.func4, Tryd.ntmps4
  by_cases h25 : 25000 < s.size
  · go_wp2_with fail
    refine (c_awake _ ht.out).mono ?_
    rintro e w1 ⟨rfl, hx⟩
    replace hx := Lib.hid hx
    go_wp2
    go_ret
    exact ⟨rfl, hx.out⟩
  · obtain ⟨m, c, l, hr⟩ : ∃ m c l, parse (bs s) = (m, c, l) := ⟨_, _, _, rfl⟩
    go_wp2_with fail
    refine (c_parse s _ ht.out hs).mono ?_
    intro e w1 he
    obtain ⟨sv, pv, rfl, hsv, hpv, hx1⟩ := he.open_ hr
    clear he
    obtain ⟨As, cs, rfl⟩ := hsv.nat
    obtain ⟨Ap, cp, rfl⟩ := hpv.slice
    unfold mkV
    obtain ⟨wA, hwA⟩ : ∃ wA, wA = w1.alloc (.cells (mkA m (.slice As m.sizes.length cs) (.slice Ap m.places.length cp)) 27) := ⟨_, rfl⟩
    have h1A := show Ext w1 wA from hwA ▸ (Ext.refl w1).alloc _
    have hbA := Lib.hid (show Blk wA w1.heap.size 27 (mkA m (.slice As m.sizes.length cs) (.slice Ap m.places.length cp)) from hwA ▸ Blk.new w1 27 _)
    have hEA := Lib.hid (hx1.trans h1A)
    have hsA := Lib.hid (hsv.ext h1A)
    have hpA := Lib.hid (hpv.ext h1A)
    clear hsv hpv hx1 h1A
    unfold mkA at hwA
    replace hwA := Lib.hid hwA
    go_wp2_with fail
    rw [← hwA.out]
    refine (c_rparse s _ hs).mono ?_
    intro e w2 he
    obtain ⟨sv, pv, rfl, hsv, hpv, hx2⟩ := he.open_ hr
    clear he
    obtain ⟨As', cs', rfl⟩ := hsv.nat
    obtain ⟨Ap', cp', rfl⟩ := hpv.slice
    unfold mkV
    have h2B := (Ext.refl w2).alloc (.cells (mkA m (.slice As' m.sizes.length cs') (.slice Ap' m.places.length cp')) 27)
    have hbC := hbA.out.ext hx2
    have hEB := Lib.hid ((hEA.out.trans hx2).trans h2B)
    have hsB := Lib.hid (hsv.ext h2B)
    have hpB := Lib.hid (hpv.ext h2B)
    have hsC := Lib.hid ((hsA.out.ext hx2).ext h2B)
    have hpC := Lib.hid ((hpA.out.ext hx2).ext h2B)
    clear hsv hpv hx2 h2B hwA
    obtain ⟨⟨q0, q1, q2, q3, q4, q5⟩, _, hlt⟩ := hbC.parts6
    clear hbC hbA hEA hsA hpA
    replace hr := Lib.hid hr
    go_wp2_with fail
    refine (c_same m _ _ _ ⟨_, _, rfl, hsC.out, hpC.out⟩ ⟨_, _, rfl, hsB.out, hpB.out⟩).mono ?_
    rintro e w3 ⟨rfl, hx3⟩
    have hE3 := Lib.hid (hEB.out.trans hx3)
    clear hx3 hEB hsC hpC hsB hpB
    go_wp2_with fail
    refine (c_awake _ (ht.out.ext hE3.out)).mono ?_
    rintro e w4 ⟨rfl, hx⟩
    replace hx := Lib.hid hx
    go_wp2
    go_ret
    exact ⟨rfl, hE3.out.trans hx.out⟩

end Go.Proofs.YtmbjlbmfagfneaaDoor
