/- InterchangePrints says yes of every marker. -/
import Derived.Test.YtmbjlbmfagfneaaDoorRpr
namespace Go.Proofs.YtmbjlbmfagfneaaDoor
open Go Go.RowKit

set_option maxHeartbeats 1000000 in
theorem c_prints (m : Mk) (v : Value) (w : World) (ht : Tab w) (hm : RdM w v m) : Calls Tryd.prog 3 #[v] w fun e w' => e = .returned (.bool true) ∧ Ext w w' := by
  obtain ⟨sv, pv, rfl, hsv, hpv⟩ := hm
  obtain ⟨As, cs, rfl⟩ := hsv.nat
  obtain ⟨Ap, cp, rfl⟩ := hpv.slice
  replace hsv := Lib.hid hsv
  replace hpv := Lib.hid hpv
  replace ht := Lib.hid ht
  unfold mkV
  go_enter Tryd.func3, Tryd.ntmps3
  go_wp2_with fail
  refine (c_few m _ _ _ ⟨_, _, rfl⟩ ⟨_, _, rfl⟩).mono ?_
  rintro e w1 ⟨rfl, hx1⟩
  have hb1 := (Blk.new w 27 (mkA m (.slice As m.sizes.length cs) (.slice Ap m.places.length cp))).ext hx1
  have hE1 := Lib.hid (((Ext.refl w).alloc _).trans hx1)
  obtain ⟨⟨q0, q1, q2, q3, q4, q5⟩, _, hlt⟩ := hb1.parts6
  replace hb1 := Lib.hid hb1
  clear hx1
  by_cases hf : m.sizes.length ≤ 20 ∧ m.places.length ≤ 70
  rotate_left
  · have hfd : decide (m.sizes.length ≤ 20 ∧ m.places.length ≤ 70) = false := decide_eq_false hf
    rw [hfd]
    go_wp2_with fail
    refine (c_awake _ (ht.out.ext hE1.out)).mono ?_
    rintro e w2 ⟨rfl, hx⟩
    replace hx := Lib.hid hx
    go_wp2
    go_ret
    exact ⟨rfl, hE1.out.trans hx.out⟩
  · have hfd : decide (m.sizes.length ≤ 20 ∧ m.places.length ≤ 70) = true := decide_eq_true hf
    rw [hfd]
    go_wp2_with fail
    refine (c_print m _ _ ⟨_, _, rfl, hsv.out.ext hE1.out, hpv.out.ext hE1.out⟩ (ht.out.ext hE1.out)).mono ?_
    rintro e w2 ⟨rfl, hx2⟩
    have hE2 := Lib.hid (hE1.out.trans hx2)
    have hb2 := hb1.out.ext hx2
    clear q0 q1 q2 q3 q4 q5 hlt hx2
    obtain ⟨⟨q0, q1, q2, q3, q4, q5⟩, _, hlt⟩ := hb2.parts6
    replace hb2 := Lib.hid hb2
    obtain ⟨S, hS⟩ : ∃ S, S = ofB (print m).1 := ⟨_, rfl⟩
    obtain ⟨c, hc⟩ : ∃ c, c = (print m).2 := ⟨_, rfl⟩
    rw [← hS, ← hc]
    replace hS := Lib.hid hS
    replace hc := Lib.hid hc
    go_wp2_with fail
    refine (c_rprint m _ _ ⟨_, _, rfl, hsv.out.ext hE2.out, hpv.out.ext hE2.out⟩).mono ?_
    rintro e w3 ⟨rfl, hx3⟩
    rw [← hS.out, ← hc.out]
    have hE3 := Lib.hid (hE2.out.trans hx3)
    clear hx3
    go_wp2_with fail
    refine (c_awake _ (ht.out.ext hE3.out)).mono ?_
    rintro e w4 ⟨rfl, hx⟩
    replace hx := Lib.hid hx
    go_wp2
    go_ret
    exact ⟨rfl, hE3.out.trans hx.out⟩

end Go.Proofs.YtmbjlbmfagfneaaDoor
