/- RollRoundTrip says yes of every list of rolls. -/
import Derived.Test.YtphaigncbenmmaaDoorAwk
namespace Go.Proofs.YtphaigncbenmmaaDoor
open Go Go.RowKit

theorem print_cases (l : List Ro) : (∃ c, c ≠ 0 ∧ print l = ([], c)) ∨ (∃ s, print l = (s, 0) ∧ parse s = (l, 0, 0)) := by
  rcases h : print l with ⟨s, c⟩
  by_cases hc : c = 0
  · subst hc
    exact .inr ⟨s, rfl, round_trip h⟩
  · have := print_err h hc
    subst this
    exact .inl ⟨c, hc, rfl⟩

set_option maxHeartbeats 2000000 in
theorem c_round (l : List Ro) (v : Value) (w : World) (ht : Tab w) (h : RdR w v l) : Calls Tryd.prog 3 #[v] w fun e w' => e = .returned (.bool true) ∧ Ext w w' := by
  obtain ⟨A, c, rfl⟩ := h.slice
  replace h := Lib.hid h
  replace ht := Lib.hid ht
  go_enter Tryd.func3, Tryd.ntmps3
  go_wp2_with fail
  refine (c_Few _ l _ h.out).mono ?_
  rintro e w1 ⟨rfl, rfl⟩
  rcases hf : fewL l with _ | _
  · go_wp2_with fail
    refine (c_example _ ht.out).mono ?_
    rintro e w2 ⟨rfl, hx⟩
    replace hx := Lib.hid hx
    go_wp2
    go_ret
    exact ⟨rfl, hx.out⟩
  · have hids := Lib.hid (show ∀ r ∈ l, r.id.length ≤ 30000 from fun r hr => by
      have := ((fewL_iff l).1 hf).2 r hr
      omega)
    replace hf := Lib.hid hf
    go_wp2_with fail
    refine (c_print l _ _ h.out ht.out hids.out).mono ?_
    intro e w2 he
    rcases print_cases l with ⟨c', hc, hp⟩ | ⟨s, hp, hps⟩
    · obtain ⟨rfl, hx⟩ := he.open_ hp
      have hn0 : (c' == 0) = false := by simp; exact hc
      replace hp := Lib.hid hp
      clear he
      rw [ofB_nil]
      have hE2 := Lib.hid hx
      clear hx
      go_wp2_with fail
      refine (c_example _ (ht.out.ext hE2.out)).mono ?_
      rintro e w3 ⟨rfl, hx⟩
      replace hx := Lib.hid hx
      go_wp2
      go_ret
      exact ⟨rfl, hE2.out.trans hx.out⟩
    · obtain ⟨rfl, hx⟩ := he.open_ hp
      have hsz : s.length ≤ 20000 := by
        unfold parse at hps
        split at hps
        · injection hps with _ h2
          injection h2 with h2
          exact absurd h2 (by decide)
        · omega
      replace hp := Lib.hid hp
      replace hps := Lib.hid hps
      clear he
      have hE2 := Lib.hid hx
      clear hx
      go_wp2_with fail
      refine (c_parse (ofB s) _ (ht.out.ext hE2.out) (by rw [ofB_size]; omega)).mono ?_
      intro e w3 he
      obtain ⟨A', c', rfl, hl', hx⟩ := he.open_ (show parse (bs (ofB s)) = (l, 0, 0) by rw [bs_ofB]; exact hps.out)
      have hE3 := Lib.hid (hE2.out.trans hx)
      replace hl' := Lib.hid hl'
      clear he hx
      go_wp2_with fail
      refine (c_same _ _ l _ hl'.out (h.out.ext hE3.out)).mono ?_
      rintro e w4 ⟨rfl, hx⟩
      have hE4 := Lib.hid (hE3.out.trans hx)
      clear hx
      go_wp2_with fail
      refine (c_example _ (ht.out.ext hE4.out)).mono ?_
      rintro e w5 ⟨rfl, hx⟩
      replace hx := Lib.hid hx
      go_wp2
      go_ret
      exact ⟨rfl, hE4.out.trans hx.out⟩

end Go.Proofs.YtphaigncbenmmaaDoor
