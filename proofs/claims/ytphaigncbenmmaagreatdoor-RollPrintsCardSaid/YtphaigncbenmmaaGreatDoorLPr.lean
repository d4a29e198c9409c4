/- RollPrints says yes of every list of rolls. -/
import Derived.Test.YtphaigncbenmmaaGreatDoorAwk
import Derived.Test.YtphaigncbenmmaaGreatDoorRpr
namespace Go.Proofs.YtphaigncbenmmaaGreatDoor
open Go Go.RowKit

set_option maxRecDepth 20000 in
set_option maxHeartbeats 2000000 in
theorem c_prints (l : List Ro) (v : Value) (w : World) (ht : Tab w) (h : RdR w v l) : Calls Tryz.prog 5 #[v] w fun e w' => e = .returned (.bool true) ∧ Ext w w' := by
  obtain ⟨A, c, rfl⟩ := h.slice
  replace h := Lib.hid h
  replace ht := Lib.hid ht
  go_enter Tryz.func5, Tryz.ntmps5
  go_wp2_with fail
  refine (c_Few _ l _ h.out).mono ?_
  rintro e w1 ⟨rfl, rfl⟩
  rcases hf : fewL l with _ | _
  · go_wp2_with fail
    refine (c_example _ ht.out).mono ?_
    rintro e w2 ⟨rfl, hx⟩
    replace hx := Lib.hid hx
    go_wp2
    go_ret
    exact ⟨rfl, hx.out⟩
  · have hids := Lib.hid (show ∀ r ∈ l, r.id.length ≤ 30000 from fun r hr => by
      have := ((fewL_iff l).1 hf).2 r hr
      omega)
    replace hf := Lib.hid hf
    rcases hp : print l with ⟨t, c'⟩
    replace hp := Lib.hid hp
    go_wp2_with fail
    refine (c_print l _ _ h.out ht.out hids.out).mono ?_
    intro e w2 he
    obtain ⟨rfl, hx⟩ := he.open_ hp.out
    have hE2 := Lib.hid hx
    clear he hx
    go_wp2_with fail
    refine (c_rprint l _ _ (h.out.ext hE2.out) (ht.out.ext hE2.out) hids.out).mono ?_
    intro e w3 he
    obtain ⟨rfl, hx⟩ := he.open_ hp.out
    have hE3 := Lib.hid (hE2.out.trans hx)
    clear he hx
    have hcc : (c' == c') = true := by simp
    go_wp2_with fail
    refine (c_example _ (ht.out.ext hE3.out)).mono ?_
    rintro e w4 ⟨rfl, hx⟩
    replace hx := Lib.hid hx
    go_wp2
    go_ret
    exact ⟨rfl, hE3.out.trans hx.out⟩

end Go.Proofs.YtphaigncbenmmaaGreatDoor
