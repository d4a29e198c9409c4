/- InterchangeRoundTrip says yes of every marker. -/
import Derived.Test.YtmbjlbmfagfneaaDoorAwk
import Derived.Deep.RegionHeld3
import Derived.Deep.DrawnRows
namespace Go.Proofs.YtmbjlbmfagfneaaDoor
open Go Go.RowKit
attribute [local go_sem ↓] Go.wp_at_zero Go.wp_at_succ

theorem c_lines' (s : ByteArray) (n : Nat) (w : World) (hs : s.size ≤ 9223372036854775807) (hn : (bs s).count 10 = 2 + n) :
    Calls Tryd.prog 16 #[.string s] w fun e w' => e = .returned (.int .i64 (2 + (n : Int))) ∧ Ext w w' := by
  refine (c_lines s w hs).mono ?_
  rintro e w1 ⟨rfl, rfl⟩
  exact ⟨ret_int (by rw [hn]; omega), Ext.refl _⟩

set_option maxHeartbeats 1000000 in
theorem c_round (m : Mk) (v : Value) (w : World) (ht : Tab w) (hm : RdM w v m) : Calls Tryd.prog 5 #[v] w fun e w' => e = .returned (.bool true) ∧ Ext w w' := by
  obtain ⟨sv, pv, rfl, hsv, hpv⟩ := hm
  obtain ⟨As, cs, rfl⟩ := hsv.nat
  obtain ⟨Ap, cp, rfl⟩ := hpv.slice
  replace hsv := Lib.hid hsv
  replace hpv := Lib.hid hpv
  replace ht := Lib.hid ht
  unfold mkV
  go_enter Tryd.func5, Tryd.ntmps5
  go_wp2_with fail
  refine (c_few m _ _ _ ⟨_, _, rfl⟩ ⟨_, _, rfl⟩).mono ?_
  rintro e w1 ⟨rfl, hx1⟩
  have hb1 := (Blk.new w 27 (mkA m (.slice As m.sizes.length cs) (.slice Ap m.places.length cp))).ext hx1
  have hE1 := Lib.hid (((Ext.refl w).alloc _).trans hx1)
  obtain ⟨⟨q0, q1, q2, q3, q4, q5⟩, _, hlt⟩ := hb1.parts6
  replace hb1 := Lib.hid hb1
  clear hx1
  by_cases hf : m.sizes.length ≤ 20 ∧ m.places.length ≤ 70
  rotate_left
  · have hfd : decide (m.sizes.length ≤ 20 ∧ m.places.length ≤ 70) = false := decide_eq_false hf
    rw [hfd]
    go_wp2_with fail
    refine (c_awake _ (ht.out.ext hE1.out)).mono ?_
    rintro e w2 ⟨rfl, hx⟩
    replace hx := Lib.hid hx
    go_wp2
    go_ret
    exact ⟨rfl, hE1.out.trans hx.out⟩
  · have hfd : decide (m.sizes.length ≤ 20 ∧ m.places.length ≤ 70) = true := decide_eq_true hf
    rw [hfd]
    go_wp2_with fail
    refine (c_print m _ _ ⟨_, _, rfl, hsv.out.ext hE1.out, hpv.out.ext hE1.out⟩ (ht.out.ext hE1.out)).mono ?_
    intro e w2 he
    rcases print_cases m with ⟨hlo, hpr⟩ | ⟨hlo, hok, hpr⟩ | ⟨hlo, hok, hpr⟩
    · obtain ⟨rfl, hx⟩ := he.open_ hpr
      clear he
      have hE2 := Lib.hid (hE1.out.trans hx)
      replace q4 := hx.cell q4
      replace q5 := hx.cell q5
      clear hx
      have hll : 6 < m.sizes.length ∨ 60 < m.places.length := by
        unfold long at hlo
        rcases Bool.or_eq_true _ _ ▸ hlo with h | h
        · exact .inl (of_decide_eq_true h)
        · exact .inr (of_decide_eq_true h)
      replace hlo := Lib.hid hlo
      rw [ofB_nil]
      rcases Decidable.em (6 < m.sizes.length) with h6 | h6
      all_goals
        try have h60 : 60 < m.places.length := by omega
        go_wp2_with fail
        refine (c_awake _ (ht.out.ext hE2.out)).mono ?_
        rintro e w3 ⟨rfl, hx⟩
        replace hx := Lib.hid hx
        go_wp2
        go_ret
        exact ⟨ret_bool (by simp <;> omega), hE2.out.trans hx.out⟩
    · obtain ⟨rfl, hx⟩ := he.open_ hpr
      clear he
      have hE2 := Lib.hid (hE1.out.trans hx)
      replace q4 := hx.cell q4
      replace q5 := hx.cell q5
      clear hx
      have hll : ¬ 6 < m.sizes.length ∧ ¬ 60 < m.places.length := by
        unfold long at hlo
        rw [Bool.or_eq_false_iff] at hlo
        exact ⟨of_decide_eq_false hlo.1, of_decide_eq_false hlo.2⟩
      obtain ⟨h6, h60⟩ := hll
      replace hlo := Lib.hid hlo
      rw [ofB_nil]
      go_wp2_with fail
      refine (c_awake _ (ht.out.ext hE2.out)).mono ?_
      rintro e w3 ⟨rfl, hx⟩
      replace hx := Lib.hid hx
      go_wp2
      go_ret
      exact ⟨ret_bool (by simp; omega), hE2.out.trans hx.out⟩
    · obtain ⟨rfl, hx⟩ := he.open_ hpr
      clear he
      have hE2 := Lib.hid (hE1.out.trans hx)
      have hx2 := Lib.hid hx
      clear hx
      have htl := text_len m hok hlo
      have hrt := Lib.hid (round_trip m hlo hok)
      have hct := Lib.hid (count_text m)
      obtain ⟨T, hT⟩ : ∃ T, T = ofB (textOf m) := ⟨_, rfl⟩
      rw [← hT]
      have hTs : T.size ≤ 20000 := by rw [hT, ofB_size]; exact htl
      have hTb : bs T = textOf m := by rw [hT, bs_ofB]
      rw [← hTb] at hrt hct
      clear hT htl hTb
      replace hlo := Lib.hid hlo
      replace hok := Lib.hid hok
      go_wp2_with fail
      refine (c_parse T _ (ht.out.ext hE2.out) (by omega)).mono ?_
      intro e w3 he
      obtain ⟨sv', pv', rfl, hsv', hpv', hx3⟩ := he.open_ hrt.out
      clear he
      obtain ⟨As', cs', rfl⟩ := hsv'.nat
      obtain ⟨Ap', cp', rfl⟩ := hpv'.slice
      unfold mkV
      obtain ⟨wD, hwD⟩ : ∃ wD, wD = w3.alloc (.cells (mkA m (.slice As' m.sizes.length cs') (.slice Ap' m.places.length cp')) 27) := ⟨_, rfl⟩
      have h3D := show Ext w3 wD from hwD ▸ (Ext.refl w3).alloc _
      have hbD := show Blk wD w3.heap.size 27 (mkA m (.slice As' m.sizes.length cs') (.slice Ap' m.places.length cp')) from hwD ▸ Blk.new w3 27 _
      have hbm := (hb1.out.ext (hx2.out.trans hx3)).ext h3D
      have hED := Lib.hid ((hE2.out.trans hx3).trans h3D)
      have hsD := Lib.hid (hsv.out.ext hED.out)
      have hpD := Lib.hid (hpv.out.ext hED.out)
      have hsD' := Lib.hid (hsv'.ext h3D)
      have hpD' := Lib.hid (hpv'.ext h3D)
      clear q0 q1 q2 q3 q4 q5 hlt hx3 hsv' hpv'
      obtain ⟨⟨q0, q1, q2, q3, q4, q5⟩, _, hlt⟩ := hbm.parts6
      obtain ⟨⟨r0, r1, r2, r3, r4, r5⟩, _, rlt⟩ := hbD.parts6
      replace hbm := Lib.hid hbm
      replace hbD := Lib.hid hbD
      replace hwD := Lib.hid hwD
      have hN : wD.heap.size ≤ wD.heap.size := Nat.le_refl _
      go_wp2_with fail
      have hwD2 := hwD.out
      unfold mkA at hwD2
      rw [← hwD2]
      have hw2 : IntKind.i64.wrap (2 + (m.places.length : Int)) = 2 + (m.places.length : Int) := IntWalk.i64_in _ (by omega)
      clear hwD2 hwD h3D hpr hfd hf
      go_region_held3 (fun w' => (∀ b o, b < wD.heap.size → w'.cell? ⟨b, o, none⟩ = wD.cell? ⟨b, o, none⟩) ∧ Kp wD.heap.size wD w')
        (first
          | exact (Kp.start hN).drew.both
          | (go_split_ands; exact ((by assumption : Kp _ _ _).call he).both)
          | assumption)
        (first
          | (go_at_call 15; go_split_ands; have hx := (by assumption : Kp _ _ _).ext (Ext.refl _) (Nat.le_refl _); refine (c_same m _ _ _ ⟨_, _, rfl, hsD'.out.ext hx, hpD'.out.ext hx⟩ ⟨_, _, rfl, hsD.out.ext hx, hpD.out.ext hx⟩).mono ?_; rintro e wS ⟨rfl, he⟩; clear hx)
          | (go_at_call 16; go_split_ands; refine (c_lines' T m.places.length _ (by omega) hct.out).mono ?_; rintro e wL ⟨rfl, he⟩)
          | (go_at_call 10; go_split_ands; have hx := (by assumption : Kp _ _ _).ext (Ext.refl _) (Nat.le_refl _); refine (c_awake _ (ht.out.ext (hED.out.trans hx))).mono ?_; rintro e wW ⟨rfl, he⟩; clear hx))
      have hfin := Lib.hid ((by assumption : _ ∧ Kp wD.heap.size wD wW).2.ext (Ext.refl _) (Nat.le_refl _))
      go_wp2
      go_ret
      exact ⟨rfl, hED.out.trans hfin.out⟩

end Go.Proofs.YtmbjlbmfagfneaaDoor
