/- RollParses says yes of every text. -/
import Derived.Test.YtphaigncbenmmaaGreatDoorAwk
import Derived.Test.YtphaigncbenmmaaGreatDoorRpa
namespace Go.Proofs.YtphaigncbenmmaaGreatDoor
open Go Go.RowKit

set_option maxRecDepth 20000 in
set_option maxHeartbeats 2000000 in
theorem c_parses (s : ByteArray) (w : World) (ht : Tab w) (hs : s.size ≤ 9223372036854775807) : Calls Tryz.prog 4 #[.string s] w fun e w' => e = .returned (.bool true) ∧ Ext w w' := by
  replace ht := Lib.hid ht
  go_enter Tryz.func4, Tryz.ntmps4
  by_cases h21 : 21000 < s.size
  · go_wp2_with fail
    refine (c_example _ ht.out).mono ?_
    rintro e w2 ⟨rfl, hx⟩
    replace hx := Lib.hid hx
    go_wp2
    go_ret
    exact ⟨rfl, hx.out⟩
  · rcases hp : parse (bs s) with ⟨l, c, n⟩
    replace hp := Lib.hid hp
    go_wp2_with fail
    refine (c_parse s _ ht.out hs).mono ?_
    intro e w1 he
    obtain ⟨A1, c1, rfl, hl1, hx⟩ := he.open_ hp.out
    have hE1 := Lib.hid hx
    replace hl1 := Lib.hid hl1
    clear he hx
    go_wp2_with fail
    refine (c_rParse s _ hs).mono ?_
    intro e w2 he
    obtain ⟨A2, c2, rfl, hl2, hx⟩ := he.open_ hp.out
    have h12 := Lib.hid hx
    have hE2 := Lib.hid (hE1.out.trans hx)
    replace hl2 := Lib.hid hl2
    clear he hx
    have hcc : (c == c) = true := by simp
    have hnn : ((n : Int) == (n : Int)) = true := by simp
    go_wp2_with fail
    refine (c_same _ _ l _ (hl1.out.ext h12.out) hl2.out).mono ?_
    rintro e w3 ⟨rfl, hx⟩
    have hE3 := Lib.hid (hE2.out.trans hx)
    clear hx
    go_wp2_with fail
    refine (c_example _ (ht.out.ext hE3.out)).mono ?_
    rintro e w4 ⟨rfl, hx⟩
    replace hx := Lib.hid hx
    go_wp2
    go_ret
    exact ⟨rfl, hE3.out.trans hx.out⟩

end Go.Proofs.YtphaigncbenmmaaGreatDoor
