/- Contract of style.Check. -/
import Derived.Test.YtiahfiopigjolaaGreatPcw
import Derived.Test.YtiahfiopigjolaaGreatLng
namespace Go.Proofs.YtiahfiopigjolaaGreat
open Go Go.RowKit

section
variable {s : St}
theorem style_whole (h : ¬ wholeE s = 0) : styleE s = wholeE s := by unfold styleE; rw [if_neg h]
theorem style_piece (h : wholeE s = 0) {c : Int} (h2 : upto (pieceE s.pieces) s.pieces.length = c) (hc : c ≠ 0) : styleE s = c := by unfold styleE; rw [if_pos h, h2, if_neg hc]
theorem style_use (h : wholeE s = 0) (h2 : upto (pieceE s.pieces) s.pieces.length = 0) (h3 : upto (useE s) s.uses.length = 3) : styleE s = 3 := by unfold styleE; rw [if_pos h, if_pos h2, h3, if_neg (by decide)]
theorem style_run (h : wholeE s = 0) (h2 : upto (pieceE s.pieces) s.pieces.length = 0) (h3 : upto (useE s) s.uses.length = 0) : styleE s = upto (seamE s) s.seams.length := by unfold styleE; rw [if_pos h, if_pos h2, if_pos h3]
theorem useE_no {k : Nat} (hk : k < s.uses.length) (h : ¬ (0 ≤ s.uses[k].piece ∧ s.uses[k].piece < s.pieces.length ∧ 1 ≤ s.uses[k].count ∧ s.uses[k].count ≤ 4)) : useE s k = 3 := by
  unfold useE inR
  rw [nth_eq s.uses hk, if_neg]
  simp only [Bool.and_eq_true, decide_eq_true_eq]
  omega
theorem useE_ok {k : Nat} (hk : k < s.uses.length) (h : 0 ≤ s.uses[k].piece ∧ s.uses[k].piece < s.pieces.length ∧ 1 ≤ s.uses[k].count ∧ s.uses[k].count ≤ 4) : useE s k = 0 := by
  unfold useE inR
  rw [nth_eq s.uses hk, if_pos]
  simp only [Bool.and_eq_true, decide_eq_true_eq]
  omega
theorem seamE_a {k : Nat} (hk : k < s.seams.length) (h : edgeB s s.seams[k].pa s.seams[k].ea = false) : seamE s k = 3 := by
  unfold seamE
  rw [nth_eq s.seams hk, h, if_neg (by simp)]
theorem seamE_b {k : Nat} (hk : k < s.seams.length) (h : edgeB s s.seams[k].pb s.seams[k].eb = false) : seamE s k = 3 := by
  unfold seamE
  rw [nth_eq s.seams hk, h, if_neg (by simp)]
theorem seamE_neg {k : Nat} (hk : k < s.seams.length) (h : edgeB s s.seams[k].pa s.seams[k].ea = true) (h2 : edgeB s s.seams[k].pb s.seams[k].eb = true) (h3 : s.seams[k].ease < 0) : seamE s k = 1 := by
  unfold seamE
  rw [nth_eq s.seams hk, h, h2, if_pos (by simp), if_pos h3]
theorem seamE_ok {k : Nat} (hk : k < s.seams.length) (h : edgeB s s.seams[k].pa s.seams[k].ea = true) (h2 : edgeB s s.seams[k].pb s.seams[k].eb = true) (h3 : ¬ s.seams[k].ease < 0) : seamE s k = 0 := by
  unfold seamE
  rw [nth_eq s.seams hk, h, h2, if_pos (by simp), if_neg h3]
end

set_option maxRecDepth 100000 in
set_option maxHeartbeats 4000000 in
theorem c_stCheck (s : St) (v1 v2 v3 v4 v5 v6 : Value) (w : World) (h : StR w s v1 v2 v3 v4 v5 v6) : Calls Tryz.prog 5 #[.agg (stC s v1 v2 v3 v4 v5 v6).toArray] w fun e w' => e = .returned (.int .i64 (styleE s)) ∧ Ext w w' := by
  have hcw := Lib.hid (fun w h => c_whole s v1 v2 v3 v4 v5 v6 w h)
  have hce := Lib.hid (fun a b w h => c_stEdge s v1 v2 v3 v4 v5 v6 a b w h)
  have hst := Lib.hid h
  obtain ⟨A1, c1, rfl⟩ := h.sz.slice
  obtain ⟨A2, c2, rfl⟩ := h.mu.slice
  obtain ⟨A3, c3, rfl⟩ := h.pc.slice
  obtain ⟨A4, c4, rfl⟩ := h.us.slice
  obtain ⟨A5, c5, rfl⟩ := h.sm.slice
  obtain ⟨A6, c6, rfl, hops⟩ := h.op
  have hl3 := h.pc.le
  have hl4 := h.us.le
  have hl5 := h.sm.le
  have hcap : s.pieces.length ≤ c3 ∧ c3 ≤ 9223372036854775807 := by
    obtain ⟨_, _, e, h1, h2, _⟩ := h.pc
    injection e with _ _ e2
    unfold maxLen at h2
    omega
  unfold maxLen at hl3 hl4 hl5 hops
  have hpc := Lib.hid h.pc
  have hus := Lib.hid h.us
  have hsm := Lib.hid h.sm
  clear h
  unfold stC at hcw hce ⊢
  go_enter Tryz.func5, Tryz.ntmps5
  go_wp2_with fail
  refine (hcw.out _ (hst.out.ext ((Ext.refl w).alloc _))).mono ?_
  rintro e w1 ⟨rfl, hx⟩
  have hP := Lib.hid ((Blk.new w 29 (stC s (.slice A1 s.sizes.length c1) (.slice A2 s.mults.length c2) (.slice A3 s.pieces.length c3) (.slice A4 s.uses.length c4) (.slice A5 s.seams.length c5) (.slice A6 s.nops c6)).toArray).ext hx)
  have hX := Lib.hid (((Ext.refl w).alloc (.cells (stC s (.slice A1 s.sizes.length c1) (.slice A2 s.mults.length c2) (.slice A3 s.pieces.length c3) (.slice A4 s.uses.length c4) (.slice A5 s.seams.length c5) (.slice A6 s.nops c6)).toArray 29)).trans hx)
  clear hx
  by_cases hwh : wholeE s = 0
  rotate_left
  · have hn0 : (wholeE s != 0) = true := bne_iff_ne.2 hwh
    have hh := Lib.hid (style_whole hwh)
    go_wp2
    go_ret
    exact ⟨ret_int hh.out.symm, hX.out⟩
  have hPi := Lib.hid (fun (c : Int) h2 hc => style_piece (c := c) hwh h2 hc)
  have hUs := Lib.hid (fun h2 h3 => style_use hwh h2 h3)
  have hRu := Lib.hid (fun h2 h3 => style_run hwh h2 h3)
  rw [hwh]
  replace hwh := Lib.hid hwh
  obtain ⟨q0, q1, q2, q3, q4, q5, q6⟩ := hP.out.parts7
  have lP := hP.out.lt
  go_wp2
  clear q0 q1 q2 q3 q4 q5 q6 lP
  go_loopw [19] (fun i wr => ∃ k : Nat, k ≤ s.pieces.length ∧ i = .int .i64 (k : Nat) ∧ Pass (pieceE s.pieces) k ∧ Ext w1 wr) (fun i _ => s.pieces.length - (intOf i).toNat)
  case atStart => exact ⟨0, Nat.zero_le _, rfl, Pass.zero _, Ext.refl _⟩
  case round =>
    obtain ⟨k, hk, rfl, hup, hX1⟩ := hrel
    by_cases hlt : k < s.pieces.length
    · obtain ⟨b, o, B1, e1, B2, e2, B3, e3, B4, e4, rfl, hr, d0, d1, d2, d3, d4, d5, d6⟩ := hpc.out.piece k hlt
      have hpe := Lib.hid (pieceE_eq hlt)
      have hHit := Lib.hid (fun (c : Int) h hc => hPi.out c (hup.hit hlt h hc) hc)
      have hNx := Lib.hid (fun h => hup.next (f := pieceE s.pieces) h)
      have htk := Lib.hid (hpc.out.take k (by omega))
      have hytl : (s.pieces.take k).length = k := by rw [List.length_take]; omega
      obtain ⟨ys, hys⟩ : ∃ ys, ys = s.pieces.take k := ⟨_, rfl⟩
      rw [← hys] at htk hpe hytl
      clear hys
      obtain ⟨f, hf⟩ : ∃ f, f = s.pieces[k] := ⟨_, rfl⟩
      rw [← hf] at d0 d1 d2 d3 d4 d5 d6 hr hpe
      clear hf
      have hcp := Lib.hid (fun w h h2 => c_piece ys f (some ⟨b, o, none⟩) c3 (.slice B1 f.edges.length e1) (.slice B2 f.notches.length e2) (.slice B3 f.corners.length e3) (.slice B4 f.widths.length e4) w h h2)
      rw [hytl] at hcp
      unfold pcC at hcp
      replace hytl := Lib.hid hytl
      have hF := Lib.hid (hX.out.trans hX1)
      replace d0 := hF.out.cell d0
      replace d1 := hF.out.cell d1
      replace d2 := hF.out.cell d2
      replace d3 := hF.out.cell d3
      replace d4 := hF.out.cell d4
      replace d5 := hF.out.cell d5
      replace d6 := hF.out.cell d6
      have lb : b < wr.heap.size := World.block_lt_of_cell? _ _ d0
      have hki : (k : Int) < s.pieces.length := by omega
      have hk0 : (0 : Int) ≤ k := by omega
      have hkc : (k : Int) ≤ c3 := by omega
      replace hr := Lib.hid hr
      have hXs := Lib.hid hX1
      have hP1 := Lib.hid (hP.out.ext hX1)
      clear hX1
      replace hup := Lib.hid hup
      go_wp2_with fail
      obtain ⟨wB, hwB⟩ : ∃ wB, wB = wr.alloc (.cells (pcC f (.slice B1 f.edges.length e1) (.slice B2 f.notches.length e2) (.slice B3 f.corners.length e3) (.slice B4 f.widths.length e4)).toArray 44) := ⟨_, rfl⟩
      have hV := Lib.hid (show Blk wB wr.heap.size 44 (pcC f (.slice B1 f.edges.length e1) (.slice B2 f.notches.length e2) (.slice B3 f.corners.length e3) (.slice B4 f.widths.length e4)).toArray from hwB ▸ Blk.new _ _ _)
      have hXB := Lib.hid (show Ext w wB from hwB ▸ hF.out.alloc _)
      have hXB1 := Lib.hid (show Ext w1 wB from hwB ▸ hXs.out.alloc _)
      have hPB := Lib.hid (show Blk wB w.heap.size 29 _ from hwB ▸ hP1.out.alloc _)
      unfold pcC at hwB
      rw [← hwB]
      clear hwB d0 d1 d2 d3 d4 d5 d6 lb
      obtain ⟨p0, p1, p2, p3, p4, p5, p6⟩ := hV.out.parts7
      have lV := hV.out.lt
      obtain ⟨q0, q1, q2, q3, q4, q5, q6⟩ := hPB.out.parts7
      have lP := hPB.out.lt
      have hN : wB.heap.size ≤ wB.heap.size := Nat.le_refl _
      have hNw := Lib.hid hXB.out.size
      go_region_held3 (fun w' => (∀ b o, b < wB.heap.size → w'.cell? ⟨b, o, none⟩ = wB.cell? ⟨b, o, none⟩) ∧ Kp wB.heap.size wB w')
        (first
          | exact (Kp.start hN).drew.both
          | (go_split_ands; exact ((by assumption : Kp _ _ _).call he).both)
          | assumption)
        (first
          | (go_at_call 14; go_split_ands; with_reducible refine (hcp.out _ (htk.out.ext pcP.stays ((by assumption : Kp _ _ _).ext hXB.out hNw.out)) (hr.out.ext ((by assumption : Kp _ _ _).ext hXB.out hNw.out))).mono ?_; rintro e w2 ⟨rfl, he⟩))
      go_split_ands
      have hE2 := Lib.hid ((by assumption : Kp _ _ w2).ext (Ext.refl wB) (Nat.le_refl _))
      clear p0 p1 p2 p3 p4 p5 p6 lV q0 q1 q2 q3 q4 q5 q6 lP he hN
      by_cases hz : pcE f ys = 0
      · have hup2 := Lib.hid (hNx.out (hpe.out.trans hz))
        rw [hz]
        replace hz := Lib.hid hz
        go_wp2
        go_roundw
        case rel => exact ⟨k + 1, by omega, by go_num, hup2.out, hXB1.out.trans hE2.out⟩
        case measure => simp [intOf]; omega
      · have hh := Lib.hid (hHit.out _ hpe.out hz)
        have hn0 : (pcE f ys != 0) = true := bne_iff_ne.2 hz
        replace hz := Lib.hid hz
        go_wp2
        go_ret
        exact ⟨ret_int hh.out.symm, hXB.out.trans hE2.out⟩
    · have hki : ¬ (k : Int) < s.pieces.length := by omega
      have hpz := Lib.hid (hup.done hlt hk)
      have hF := Lib.hid (hX.out.trans hX1)
      have hP1 := Lib.hid (hP.out.ext hX1)
      clear hup hX1
      obtain ⟨q0, q1, q2, q3, q4, q5, q6⟩ := hP1.out.parts7
      have lP := hP1.out.lt
      go_wp2
      clear q0 q1 q2 q3 q4 q5 q6 lP
      obtain ⟨w2, hw2⟩ : ∃ w2, w2 = wr := ⟨_, rfl⟩
      subst hw2
      go_loopw [37] (fun i wr => ∃ k : Nat, k ≤ s.uses.length ∧ i = .int .i64 (k : Nat) ∧ Pass (useE s) k ∧ Ext w2 wr) (fun i _ => s.uses.length - (intOf i).toNat)
      case atStart => exact ⟨0, Nat.zero_le _, rfl, Pass.zero _, Ext.refl _⟩
      case round =>
        obtain ⟨k, hk, rfl, hup, hX2⟩ := hrel
        have hG := Lib.hid (hF.out.trans hX2)
        have hP2 := Lib.hid (hP1.out.ext hX2)
        obtain ⟨q0, q1, q2, q3, q4, q5, q6⟩ := hP2.out.parts7
        have lP := hP2.out.lt
        by_cases hlt : k < s.uses.length
        · obtain ⟨b, o, rfl, d0, d1, d2⟩ := hus.out.us k hlt
          have hNo := Lib.hid (fun h => hUs.out hpz.out (hup.hit hlt (useE_no hlt h) (by decide)))
          have hYes := Lib.hid (fun h => hup.next (useE_ok hlt h))
          obtain ⟨f, hf⟩ : ∃ f, f = s.uses[k] := ⟨_, rfl⟩
          rw [← hf] at d0 d1 d2 hNo hYes
          clear hf
          replace d0 := hG.out.cell d0
          replace d1 := hG.out.cell d1
          replace d2 := hG.out.cell d2
          have lb : b < wr.heap.size := World.block_lt_of_cell? _ _ d0
          have hki : (k : Int) < s.uses.length := by omega
          replace hX2 := Lib.hid hX2
          replace hup := Lib.hid hup
          by_cases t1 : f.piece < 0
          · have hh := Lib.hid (hNo.out (by omega))
            go_wp2
            go_ret
            exact ⟨ret_int hh.out.symm, hG.out.alloc _⟩
          by_cases t2 : (s.pieces.length : Int) ≤ f.piece
          · have hh := Lib.hid (hNo.out (by omega))
            go_wp2
            go_ret
            exact ⟨ret_int hh.out.symm, hG.out.alloc _⟩
          by_cases t3 : f.count < 1
          · have hh := Lib.hid (hNo.out (by omega))
            go_wp2
            go_ret
            exact ⟨ret_int hh.out.symm, hG.out.alloc _⟩
          by_cases t4 : 4 < f.count
          · have hh := Lib.hid (hNo.out (by omega))
            go_wp2
            go_ret
            exact ⟨ret_int hh.out.symm, hG.out.alloc _⟩
          have hup2 := Lib.hid (hYes.out (by omega))
          go_wp2
          go_roundw
          case rel => exact ⟨k + 1, by omega, by go_num, hup2.out, hX2.out.alloc _⟩
          case measure => simp [intOf]; omega
        · have hki : ¬ (k : Int) < s.uses.length := by omega
          have hrun := Lib.hid (hRu.out hpz.out (hup.done hlt hk))
          clear hup hX2
          go_wp2
          clear q0 q1 q2 q3 q4 q5 q6 lP
          obtain ⟨w3, hw3⟩ : ∃ w3, w3 = wr := ⟨_, rfl⟩
          subst hw3
          go_loopw [66] (fun i wr => ∃ k : Nat, k ≤ s.seams.length ∧ i = .int .i64 (k : Nat) ∧ Pass (seamE s) k ∧ Ext w3 wr) (fun i _ => s.seams.length - (intOf i).toNat)
          case atStart => exact ⟨0, Nat.zero_le _, rfl, Pass.zero _, Ext.refl _⟩
          case round =>
            obtain ⟨k, hk, rfl, hup, hX3⟩ := hrel
            have hH := Lib.hid (hG.out.trans hX3)
            have hP3 := Lib.hid (hP2.out.ext hX3)
            by_cases hlt : k < s.seams.length
            · obtain ⟨b, o, rfl, d0, d1, d2, d3, d4, d5⟩ := hsm.out.sm k hlt
              have hA := Lib.hid (fun h => hrun.out.trans (hup.hit hlt (seamE_a hlt h) (by decide)))
              have hB := Lib.hid (fun h => hrun.out.trans (hup.hit hlt (seamE_b hlt h) (by decide)))
              have hN := Lib.hid (fun h h2 h3 => hrun.out.trans (hup.hit hlt (seamE_neg hlt h h2 h3) (by decide)))
              have hYes := Lib.hid (fun h h2 h3 => hup.next (seamE_ok hlt h h2 h3))
              obtain ⟨f, hf⟩ : ∃ f, f = s.seams[k] := ⟨_, rfl⟩
              rw [← hf] at d0 d1 d2 d3 d4 d5 hA hB hN hYes
              clear hf
              replace d0 := hH.out.cell d0
              replace d1 := hH.out.cell d1
              replace d2 := hH.out.cell d2
              replace d3 := hH.out.cell d3
              replace d4 := hH.out.cell d4
              replace d5 := hH.out.cell d5
              have lb : b < wr.heap.size := World.block_lt_of_cell? _ _ d0
              have hki : (k : Int) < s.seams.length := by omega
              obtain ⟨q0, q1, q2, q3, q4, q5, q6⟩ := hP3.out.parts7
              have lP := hP3.out.lt
              replace hX3 := Lib.hid hX3
              replace hup := Lib.hid hup
              go_wp2_with fail
              obtain ⟨wB, hwB⟩ : ∃ wB, wB = wr.alloc (.cells #[.int .i64 f.pa, .int .i64 f.ea, .int .i64 f.pb, .int .i64 f.eb, .bool f.rev, .int .i64 f.ease] 55) := ⟨_, rfl⟩
              have hV := Lib.hid (show Blk wB wr.heap.size 55 #[.int .i64 f.pa, .int .i64 f.ea, .int .i64 f.pb, .int .i64 f.eb, .bool f.rev, .int .i64 f.ease] from hwB ▸ Blk.new _ _ _)
              have hXB := Lib.hid (show Ext w wB from hwB ▸ hH.out.alloc _)
              have hXB3 := Lib.hid (show Ext w3 wB from hwB ▸ hX3.out.alloc _)
              have hPB := Lib.hid (show Blk wB w.heap.size 29 _ from hwB ▸ hP3.out.alloc _)
              rw [← hwB]
              clear hwB d0 d1 d2 d3 d4 d5 lb q0 q1 q2 q3 q4 q5 q6 lP
              refine (hce.out _ _ _ (hst.out.ext hXB.out)).mono ?_
              rintro e w4 ⟨rfl, hx⟩
              have hV4 := Lib.hid (hV.out.ext hx)
              have hX4 := Lib.hid (hXB.out.trans hx)
              have hX43 := Lib.hid (hXB3.out.trans hx)
              have hP4 := Lib.hid (hPB.out.ext hx)
              clear hx
              obtain ⟨p0, p1, p2, p3, p4, p5⟩ := hV4.out.parts6
              have lV := hV4.out.lt
              obtain ⟨q0, q1, q2, q3, q4, q5, q6⟩ := hP4.out.parts7
              have lP := hP4.out.lt
              rcases ha : edgeB s f.pa f.ea with _ | _
              · have hh := Lib.hid (hA.out ha)
                replace ha := Lib.hid ha
                go_wp2
                go_ret
                exact ⟨ret_int hh.out.symm, hX4.out⟩
              have ha1 := Lib.hid ha
              replace ha := Lib.hid ha
              go_wp2_with fail
              refine (hce.out _ _ _ (hst.out.ext hX4.out)).mono ?_
              rintro e w5 ⟨rfl, hx⟩
              have hV5 := Lib.hid (hV4.out.ext hx)
              have hX5 := Lib.hid (hX4.out.trans hx)
              have hX53 := Lib.hid (hX43.out.trans hx)
              clear hx p0 p1 p2 p3 p4 p5 lV q0 q1 q2 q3 q4 q5 q6 lP
              obtain ⟨p0, p1, p2, p3, p4, p5⟩ := hV5.out.parts6
              have lV := hV5.out.lt
              rcases hb : edgeB s f.pb f.eb with _ | _
              · have hh := Lib.hid (hB.out hb)
                replace hb := Lib.hid hb
                go_wp2
                go_ret
                exact ⟨ret_int hh.out.symm, hX5.out⟩
              have hb1 := Lib.hid hb
              replace hb := Lib.hid hb
              by_cases hn : f.ease < 0
              · have hh := Lib.hid (hN.out ha1.out hb1.out hn)
                go_wp2
                go_ret
                exact ⟨ret_int hh.out.symm, hX5.out⟩
              · have hup2 := Lib.hid (hYes.out ha1.out hb1.out (by omega))
                go_wp2
                go_roundw
                case rel => exact ⟨k + 1, by omega, by go_num, hup2.out, hX53.out⟩
                case measure => simp [intOf]; omega
            · have hki : ¬ (k : Int) < s.seams.length := by omega
              have hz := Lib.hid (hrun.out.trans (hup.done hlt hk))
              clear hup
              replace hX3 := Lib.hid hX3
              go_wp2
              go_ret
              exact ⟨ret_int hz.out.symm, hH.out⟩

end Go.Proofs.YtiahfiopigjolaaGreat
