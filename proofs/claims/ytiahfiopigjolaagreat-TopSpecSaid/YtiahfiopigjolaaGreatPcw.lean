/- Contract of style.checkPiece: the walk. -/
import Derived.Test.YtiahfiopigjolaaGreatPce
namespace Go.Proofs.YtiahfiopigjolaaGreat
open Go Go.RowKit

theorem grainB_no {n : Int} (h : ¬ (n = 1 ∨ n = 2 ∨ n = 4)) : grainB n = false := by unfold grainB; exact decide_eq_false h
theorem grainB_yes {n : Int} (h : n = 1 ∨ n = 2 ∨ n = 4) : grainB n = true := by unfold grainB; exact decide_eq_true h

set_option maxRecDepth 100000 in
set_option maxHeartbeats 4000000 in
theorem c_piece (ys : List Pc) (p : Pc) (A : Option Addr) (c : Nat) (v1 v2 v3 v4 : Value) (w : World) (hys : RdL 7 pcP w (.slice A ys.length c) ys) (h : PcR w p v1 v2 v3 v4) : Calls Tryz.prog 14 #[.slice A ys.length c, .agg (pcC p v1 v2 v3 v4).toArray] w fun e w' => e = .returned (.int .i64 (pcE p ys)) ∧ Ext w w' := by
  have hcn := Lib.hid (fun w => c_stName p.name w h.nm)
  have hcg := Lib.hid (fun w h => c_graded p v1 v2 v3 v4 0 w h)
  have hcp := Lib.hid (fun w h => c_Placed p v1 v2 v3 v4 0 w h)
  have hpc := Lib.hid h
  obtain ⟨A1, c1, rfl⟩ := h.ed.slice
  obtain ⟨A2, c2, rfl⟩ := h.nt.slice
  obtain ⟨A3, c3, rfl⟩ := h.co.slice
  obtain ⟨A4, c4, rfl⟩ := h.wi.slice
  have hly := hys.le
  have hlw := h.wi.le
  have hle := h.ed.le
  unfold maxLen at hly hlw hle
  have hwi := Lib.hid h.wi
  replace hys := Lib.hid hys
  clear h
  unfold pcC at hcg hcp ⊢
  go_enter Tryz.func14, Tryz.ntmps14
  go_wp2_with fail
  refine (hcn.out _).mono ?_
  rintro e w1 ⟨rfl, hx⟩
  have hP := Lib.hid ((Blk.new w 44 (pcC p (.slice A1 p.edges.length c1) (.slice A2 p.notches.length c2) (.slice A3 p.corners.length c3) (.slice A4 p.widths.length c4)).toArray).ext hx)
  have hX := Lib.hid (((Ext.refl w).alloc (.cells (pcC p (.slice A1 p.edges.length c1) (.slice A2 p.notches.length c2) (.slice A3 p.corners.length c3) (.slice A4 p.widths.length c4)).toArray 44)).trans hx)
  clear hx hcn
  cases hnm : nmB p.name
  · have hh := Lib.hid (pcE_name (ys := ys) hnm)
    go_wp2
    go_ret
    exact ⟨by rw [hh.out]; rfl, hX.out⟩
  obtain ⟨q0, q1, q2, q3, q4, q5, q6⟩ := hP.out.parts7
  have lP := hP.out.lt
  by_cases hg : p.grain = 1 ∨ p.grain = 2 ∨ p.grain = 4
  rotate_left
  · have hh := Lib.hid (pcE_grain (ys := ys) hnm (grainB_no hg))
    have g1 : (p.grain != 1) = true := bne_iff_ne.2 <| fun h => hg (.inl h)
    have g2 : (p.grain != 2) = true := bne_iff_ne.2 <| fun h => hg (.inr (.inl h))
    have g3 : ¬ p.grain = 4 := fun h => hg (.inr (.inr h))
    clear hg
    go_wp2
    all_goals
      go_ret
      exact ⟨by rw [hh.out]; rfl, hX.out⟩
  have hTw := Lib.hid (fun h3 => pcE_twice (ys := ys) hnm (grainB_yes hg) h3)
  have hGr := Lib.hid (fun h3 h4 => pcE_grade (ys := ys) hnm (grainB_yes hg) h3 h4)
  have hPl := Lib.hid (fun h3 h4 h5 => pcE_placed (ys := ys) hnm (grainB_yes hg) h3 h4 h5)
  have hCo := Lib.hid (fun h3 h4 h5 h6 => pcE_count (ys := ys) hnm (grainB_yes hg) h3 h4 h5 h6)
  have hRu := Lib.hid (fun h3 h4 h5 h6 => pcE_run (ys := ys) hnm (grainB_yes hg) h3 h4 h5 h6)
  replace hnm := Lib.hid hnm
  rcases hg with hg | hg | hg
  all_goals
    rw [hg] at q2
    replace hg := Lib.hid hg
    go_wp2
    clear q0 q1 q2 q3 q4 q5 q6 lP
    go_loopw [32] (fun i wr => ∃ k : Nat, k ≤ ys.length ∧ i = .int .i64 (k : Nat) ∧ Pass (pcNm p ys) k ∧ Ext w1 wr) (fun i _ => ys.length - (intOf i).toNat)
    case atStart => exact ⟨0, Nat.zero_le _, rfl, Pass.zero _, Ext.refl _⟩
    case round =>
      obtain ⟨k, hk, rfl, hup, hX1⟩ := hrel
      have hF := Lib.hid (hX.out.trans hX1)
      obtain ⟨q0, q1, q2, q3, q4, q5, q6⟩ := (hP.out.ext hX1).parts7
      have lP := (hP.out.ext hX1).lt
      by_cases hlt : k < ys.length
      · obtain ⟨b, o, B1, e1, B2, e2, B3, e3, B4, e4, rfl, hr, d0, d1, d2, d3, d4, d5, d6⟩ := hys.out.piece k hlt
        have hHit := Lib.hid (fun h => hTw.out (fun h0 => absurd ((hup.hit hlt (pcNm_hit (p := p) hlt h) (by decide)).symm.trans h0) (by decide)))
        have hNx := Lib.hid (fun h => hup.next (pcNm_no (p := p) hlt h))
        clear hr
        obtain ⟨f, hf⟩ : ∃ f, f = ys[k] := ⟨_, rfl⟩
        rw [← hf] at d0 d1 d2 d3 d4 d5 d6 hHit hNx
        clear hf
        replace d0 := hF.out.cell d0
        replace d1 := hF.out.cell d1
        replace d2 := hF.out.cell d2
        replace d3 := hF.out.cell d3
        replace d4 := hF.out.cell d4
        replace d5 := hF.out.cell d5
        replace d6 := hF.out.cell d6
        have lb : b < wr.heap.size := World.block_lt_of_cell? _ _ d0
        have hki : (k : Int) < ys.length := by omega
        replace hX1 := Lib.hid hX1
        replace hup := Lib.hid hup
        rcases hq : (f.name.toList == p.name.toList) with _ | _
        · have hup2 := Lib.hid (hNx.out (bytes_ne hq))
          go_wp2
          go_roundw
          case rel => exact ⟨k + 1, by omega, by go_num, hup2.out, hX1.out.alloc _⟩
          case measure => simp [intOf]; omega
        · have hh := Lib.hid (hHit.out (bytes_eq hq))
          go_wp2
          go_ret
          exact ⟨ret_int hh.out.symm, hF.out.alloc _⟩
      · have hki : ¬ (k : Int) < ys.length := by omega
        have h3 := Lib.hid (hup.done hlt hk)
        clear hup
        replace hX1 := Lib.hid hX1
        go_wp2_with fail
        refine (hcg.out _ (hpc.out.ext hF.out)).mono ?_
        rintro e w2 ⟨v, rfl, hrd, hx⟩
        clear hrd
        have hP2 := Lib.hid ((hP.out.ext hX1.out).ext hx)
        have hF2 := Lib.hid (hF.out.trans hx)
        clear hx q0 q1 q2 q3 q4 q5 q6 lP
        obtain ⟨q0, q1, q2, q3, q4, q5, q6⟩ := hP2.out.parts7
        have lP := hP2.out.lt
        by_cases hge : gradeE p 0 = 0
        rotate_left
        · have hn0 : (gradeE p 0 != 0) = true := bne_iff_ne.2 hge
          have hh := Lib.hid (hGr.out h3.out hge)
          go_wp2
          go_ret
          exact ⟨ret_int hh.out.symm, hF2.out⟩
        have h4 := Lib.hid hge
        rw [hge]
        replace hge := Lib.hid hge
        go_wp2_with fail
        refine (hcp.out _ (hpc.out.ext hF2.out)).mono ?_
        rintro e w3 ⟨u, rfl, hx⟩
        have hP3 := Lib.hid (hP2.out.ext hx)
        have hF3 := Lib.hid (hF2.out.trans hx)
        clear hx q0 q1 q2 q3 q4 q5 q6 lP
        obtain ⟨q0, q1, q2, q3, q4, q5, q6⟩ := hP3.out.parts7
        have lP := hP3.out.lt
        by_cases hpe : placedE p 0 = 0
        rotate_left
        · have hn0 : (placedE p 0 != 0) = true := bne_iff_ne.2 hpe
          have hh := Lib.hid (hPl.out h3.out h4.out hpe)
          go_wp2
          go_ret
          exact ⟨ret_int hh.out.symm, hF3.out⟩
        have h5 := Lib.hid hpe
        rw [hpe]
        replace hpe := Lib.hid hpe
        by_cases hwl : p.widths.length = p.edges.length
        rotate_left
        · have hh := Lib.hid (hCo.out h3.out h4.out h5.out hwl)
          have hli : ¬ (p.widths.length : Int) = (p.edges.length : Int) := by omega
          have hlb : ((p.widths.length : Int) != (p.edges.length : Int)) = true := bne_iff_ne.2 hli
          go_wp2
          go_ret
          exact ⟨ret_int hh.out.symm, hF3.out⟩
        have hrun := Lib.hid (hRu.out h3.out h4.out h5.out hwl)
        have hlb : ((p.widths.length : Int) != (p.edges.length : Int)) = false := by rw [hwl]; simp
        have hli : (p.widths.length : Int) = (p.edges.length : Int) := by omega
        have hwlh := Lib.hid hwl
        clear hwl
        go_wp2
        clear q0 q1 q2 q3 q4 q5 q6 lP hlb hli
        go_loop [68] (fun i => ∃ m : Nat, m ≤ p.widths.length ∧ i = .int .i64 (m : Nat) ∧ Pass (widthE p.widths) m) (fun i => p.widths.length - (intOf i).toNat)
        case atStart => exact ⟨0, Nat.zero_le _, rfl, Pass.zero _⟩
        case round =>
          obtain ⟨m, hm, rfl, hup⟩ := hrel
          by_cases hml : m < p.widths.length
          · obtain ⟨b, o, rfl, d0⟩ := hwi.out.int m hml
            have hNo := Lib.hid (fun h => hrun.out.trans (hup.hit hml (widthE_no hml h) (by decide)))
            have hYes := Lib.hid (fun h => hup.next (widthE_ok hml h))
            obtain ⟨x, hx⟩ : ∃ x, x = p.widths[m] := ⟨_, rfl⟩
            rw [← hx] at d0 hNo hYes
            clear hx
            replace d0 := hF3.out.cell d0
            replace hup := Lib.hid hup
            have hki2 : (m : Int) < p.widths.length := by omega
            have hki3 : (m : Int) < p.edges.length := by have := hwlh.out; omega
            have hki4 : m < p.edges.length := by omega
            by_cases x0 : x < 0
            · have hh := Lib.hid (hNo.out (.inl x0))
              go_wp2
              go_ret
              exact ⟨ret_int hh.out.symm, hF3.out⟩
            · by_cases x1 : 500 < x
              · have hh := Lib.hid (hNo.out (.inr x1))
                go_wp2
                go_ret
                exact ⟨ret_int hh.out.symm, hF3.out⟩
              · have hup2 := Lib.hid (hYes.out (by omega))
                go_wp2
                go_round
                case rel => exact ⟨m + 1, by omega, by go_num, hup2.out⟩
                case measure => simp [intOf]; omega
          · have hki2 : ¬ (m : Int) < p.widths.length := by omega
            have hki3 : ¬ (m : Int) < p.edges.length := by have := hwlh.out; omega
            have hki4 : ¬ m < p.edges.length := by omega
            have hz := Lib.hid (hrun.out.trans (hup.done hml hm))
            go_wp2
            go_ret
            exact ⟨ret_int hz.out.symm, hF3.out⟩

end Go.Proofs.YtiahfiopigjolaaGreat
