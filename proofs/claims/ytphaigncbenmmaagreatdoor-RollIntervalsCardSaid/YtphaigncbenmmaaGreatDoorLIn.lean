/- RollIntervals says yes of every roll and every least length. -/
import Derived.Test.YtphaigncbenmmaaGreatDoorAwk
import Derived.Test.YtphaigncbenmmaaGreatDoorRsr
namespace Go.Proofs.YtphaigncbenmmaaGreatDoor
open Go Go.RowKit

set_option maxRecDepth 20000 in
set_option maxHeartbeats 2000000 in
theorem c_intervals (r : Ro) (v : Value) (least : Int) (w : World) (ht : Tab w) (h : RdO w v r) : Calls Tryz.prog 6 #[v, .int .i64 least] w fun e w' => e = .returned (.bool true) ∧ Ext w w' := by
  obtain ⟨fv, rfl, h⟩ := h
  obtain ⟨Af, cf, rfl⟩ := h.slice
  replace h := Lib.hid h
  replace ht := Lib.hid ht
  have hcf := fun w h => c_few r (.slice Af r.fl.length cf) w h
  have hcs := fun n w h1 h2 => c_stretches r (.slice Af r.fl.length cf) n w h1 h2
  have hcr := fun n w h1 h2 => c_rstretches r (.slice Af r.fl.length cf) n w h1 h2
  unfold roV at hcf hcs hcr ⊢
  replace hcf := Lib.hid hcf
  replace hcs := Lib.hid hcs
  replace hcr := Lib.hid hcr
  go_enter Tryz.func6, Tryz.ntmps6
  go_wp2_with fail
  refine (hcf.out _ (h.out.ext ((Ext.refl w).alloc _))).mono ?_
  rintro e w1 ⟨rfl, hx⟩
  have hb1 := (Blk.new w 26 (roC r (.slice Af r.fl.length cf)).toArray).ext hx
  have hE1 := Lib.hid (((Ext.refl w).alloc (.cells (roC r (.slice Af r.fl.length cf)).toArray 26)).trans hx)
  clear hx
  obtain ⟨q0, q1, q2, q3, q4, q5, q6⟩ := hb1.parts7
  have hlt1 := hb1.lt
  replace hb1 := Lib.hid hb1
  rcases hf : few1 r with _ | _
  · go_wp2_with fail
    refine (c_example _ (ht.out.ext hE1.out)).mono ?_
    rintro e w2 ⟨rfl, hx⟩
    replace hx := Lib.hid hx
    go_wp2
    go_ret
    exact ⟨rfl, hE1.out.trans hx.out⟩
  · have hid : r.id.length ≤ 30000 := by
      have := of_decide_eq_true (show decide (r.fl.length ≤ 30 ∧ r.id.length ≤ 100) = true from hf)
      omega
    replace hf := Lib.hid hf
    rcases hp : strP r least with ⟨zs, c⟩
    replace hp := Lib.hid hp
    go_wp2_with fail
    refine (hcs.out least _ (h.out.ext hE1.out) hid).mono ?_
    intro e w2 he
    obtain ⟨A2, c2, rfl, hz2, hx⟩ := he.open_ hp.out
    clear he q0 q1 q2 q3 q4 q5 q6 hlt1
    have hE2 := Lib.hid (hE1.out.trans hx)
    have hb2 := hb1.out.ext hx
    clear hx
    obtain ⟨q0, q1, q2, q3, q4, q5, q6⟩ := hb2.parts7
    have hlt2 := hb2.lt
    replace hb2 := Lib.hid hb2
    replace hz2 := Lib.hid hz2
    go_wp2_with fail
    refine (hcr.out least _ (h.out.ext hE2.out) hid).mono ?_
    intro e w3 he
    obtain ⟨A3, c3, rfl, hz3, hx⟩ := he.open_ hp.out
    clear he q0 q1 q2 q3 q4 q5 q6 hlt2
    have hE3 := Lib.hid (hE2.out.trans hx)
    have h23 := Lib.hid hx
    replace hz3 := Lib.hid hz3
    clear hx
    have hcc : (c == c) = true := by simp
    go_wp2_with fail
    refine (c_zones _ _ zs _ (hz2.out.ext h23.out) hz3.out).mono ?_
    rintro e w4 ⟨rfl, hx⟩
    have hE4 := Lib.hid (hE3.out.trans hx)
    clear hx
    go_wp2_with fail
    refine (c_example _ (ht.out.ext hE4.out)).mono ?_
    rintro e w5 ⟨rfl, hx⟩
    replace hx := Lib.hid hx
    go_wp2
    go_ret
    exact ⟨rfl, hE4.out.trans hx.out⟩

end Go.Proofs.YtphaigncbenmmaaGreatDoor
