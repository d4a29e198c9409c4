/- Contract of spec.Check. -/
import Derived.Test.YtiahfiopigjolaaGreatSpe
import Derived.Test.YtiahfiopigjolaaGreatStc
namespace Go.Proofs.YtiahfiopigjolaaGreat
open Go Go.RowKit

set_option maxRecDepth 100000 in
set_option maxHeartbeats 6000000 in
theorem c_spCheck (s : St) (v1 v2 v3 v4 v5 v6 : Value) (l : List Pm) (v : Value) (w : World) (h : StR w s v1 v2 v3 v4 v5 v6) (hl : RdL 5 pmP w v l) : Calls Tryz.prog 6 #[.agg (stC s v1 v2 v3 v4 v5 v6).toArray, v] w fun e w' => e = .returned (.int .i64 (specE s l)) ∧ Ext w w' := by
  obtain ⟨A, c, rfl⟩ := hl.slice
  have hcs := Lib.hid (fun w h => c_stCheck s v1 v2 v3 v4 v5 v6 w h)
  have hst := Lib.hid h
  obtain ⟨A1, c1, rfl⟩ := h.sz.slice
  obtain ⟨A2, c2, rfl⟩ := h.mu.slice
  obtain ⟨A3, c3, rfl⟩ := h.pc.slice
  obtain ⟨A4, c4, rfl⟩ := h.us.slice
  obtain ⟨A5, c5, rfl⟩ := h.sm.slice
  obtain ⟨A6, c6, rfl, hops⟩ := h.op
  have hl3 := h.pc.le
  have hll := hl.le
  have hcap : l.length ≤ c ∧ c ≤ 9223372036854775807 := by
    obtain ⟨_, _, e, h1, h2, _⟩ := hl
    injection e with _ _ e2
    unfold maxLen at h2
    omega
  unfold maxLen at hl3 hops hll
  have hpc := Lib.hid h.pc
  replace hl := Lib.hid hl
  clear h
  unfold stC at hcs ⊢
  go_enter Tryz.func6, Tryz.ntmps6
  go_wp2_with fail
  refine (hcs.out _ (hst.out.ext ((Ext.refl w).alloc _))).mono ?_
  rintro e w1 ⟨rfl, hx⟩
  have hP := Lib.hid ((Blk.new w 29 (stC s (.slice A1 s.sizes.length c1) (.slice A2 s.mults.length c2) (.slice A3 s.pieces.length c3) (.slice A4 s.uses.length c4) (.slice A5 s.seams.length c5) (.slice A6 s.nops c6)).toArray).ext hx)
  have hX := Lib.hid (((Ext.refl w).alloc (.cells (stC s (.slice A1 s.sizes.length c1) (.slice A2 s.mults.length c2) (.slice A3 s.pieces.length c3) (.slice A4 s.uses.length c4) (.slice A5 s.seams.length c5) (.slice A6 s.nops c6)).toArray 29)).trans hx)
  clear hx hcs hst
  by_cases hsh : styleE s = 0
  rotate_left
  · have hn0 : (styleE s != 0) = true := bne_iff_ne.2 hsh
    have hh := Lib.hid (specE_bad (l := l) hsh)
    go_wp2
    go_ret
    exact ⟨ret_int hh.out.symm, hX.out⟩
  by_cases h16 : 16 < l.length
  · have hh := Lib.hid (specE_many hsh h16)
    rw [hsh]
    replace hsh := Lib.hid hsh
    go_wp2
    go_ret
    exact ⟨ret_int hh.out.symm, hX.out⟩
  have hRun := Lib.hid (specE_run hsh h16)
  rw [hsh]
  replace hsh := Lib.hid hsh
  go_wp2
  go_loopw [23] (fun i wr => ∃ k : Nat, k ≤ l.length ∧ i = .int .i64 (k : Nat) ∧ Pass (pomE s l) k ∧ Ext w1 wr) (fun i _ => l.length - (intOf i).toNat)
  case atStart => exact ⟨0, Nat.zero_le _, rfl, Pass.zero _, Ext.refl _⟩
  case round =>
    obtain ⟨k, hk, rfl, hup, hX1⟩ := hrel
    by_cases hlt : k < l.length
    · obtain ⟨b, o, B1, e1, B2, e2, rfl, hr, d0, d1, d2, d3, d4⟩ := hl.out.pom k hlt
      have hBad := Lib.hid (fun h => hRun.out.trans (hup.hit hlt (pomE_bad (s := s) hlt h) (by decide)))
      have hDup := Lib.hid (fun h h2 => hRun.out.trans (hup.hit hlt (pomE_dup (s := s) hlt h h2) (by decide)))
      have hAt := Lib.hid (fun h h2 h3 => hRun.out.trans (hup.hit hlt (pomE_at (s := s) hlt h h2 h3) (by decide)))
      have hTol := Lib.hid (fun h h2 h3 h4 => hRun.out.trans (hup.hit hlt (pomE_tol (s := s) hlt h h2 h3 h4) (by decide)))
      have hNx := Lib.hid (fun h h2 h3 h4 => hup.next (pomE_ok (s := s) hlt h h2 h3 h4))
      have hNy := Lib.hid (fun (j : Nat) hj h => pomNameE_hit (j := j) hlt hj h)
      have hNn := Lib.hid (fun (j : Nat) hj h => pomNameE_no (j := j) hlt hj h)
      obtain ⟨f, hf⟩ : ∃ f, f = l[k] := ⟨_, rfl⟩
      rw [← hf] at d0 d1 d2 d3 d4 hr hBad hDup hAt hTol hNx hNy hNn
      clear hf
      have hF := Lib.hid (hX.out.trans hX1)
      replace d0 := hF.out.cell d0
      replace d1 := hF.out.cell d1
      replace d2 := hF.out.cell d2
      replace d3 := hF.out.cell d3
      replace d4 := hF.out.cell d4
      have lb : b < wr.heap.size := World.block_lt_of_cell? _ _ d0
      have hki : (k : Int) < l.length := by omega
      have hk0 : (0 : Int) ≤ k := by omega
      have hkc : (k : Int) ≤ c := by omega
      have hcn := Lib.hid (fun w => c_spName f.name w hr.nm)
      have hlp := hr.pc.le
      have hle := hr.ed.le
      unfold maxLen at hlp hle
      have hfp := Lib.hid hr.pc
      have hfe := Lib.hid hr.ed
      clear hr
      replace hX1 := Lib.hid hX1
      replace hup := Lib.hid hup
      go_wp2_with fail
      refine (hcn.out _).mono ?_
      rintro e w2 ⟨rfl, rfl⟩
      obtain ⟨wB, hwB⟩ : ∃ wB, wB = wr.alloc (.cells (pmC f (.slice B1 f.pieces.length e1) (.slice B2 f.edges.length e2)).toArray 37) := ⟨_, rfl⟩
      have hV := Lib.hid (show Blk wB wr.heap.size 37 (pmC f (.slice B1 f.pieces.length e1) (.slice B2 f.edges.length e2)).toArray from hwB ▸ Blk.new _ _ _)
      have hXB := Lib.hid (show Ext w wB from hwB ▸ hF.out.alloc _)
      have hXB1 := Lib.hid (show Ext w1 wB from hwB ▸ hX1.out.alloc _)
      unfold pmC at hwB
      rw [← hwB]
      clear hwB d0 d1 d2 d3 d4 lb
      obtain ⟨p0, p1, p2, p3, p4⟩ := hV.out.parts5
      have lV := hV.out.lt
      rcases hnm : nmB f.name with _ | _
      · have hh := Lib.hid (hBad.out (fun h => absurd h.1 (by rw [hnm]; decide)))
        go_wp2
        go_ret
        exact ⟨ret_int hh.out.symm, hXB.out⟩
      have hnm1 := Lib.hid hnm
      replace hnm := Lib.hid hnm
      by_cases hfl : f.edges.length = f.pieces.length
      rotate_left
      · have hh := Lib.hid (hBad.out (fun h => absurd h.2.1 hfl))
        have hli : ¬ (f.edges.length : Int) = (f.pieces.length : Int) := by omega
        have hlb : ((f.edges.length : Int) != (f.pieces.length : Int)) = true := bne_iff_ne.2 hli
        go_wp2
        go_ret
        exact ⟨ret_int hh.out.symm, hXB.out⟩
      have hlb : ((f.edges.length : Int) != (f.pieces.length : Int)) = false := by rw [hfl]; simp
      have hflh := Lib.hid hfl
      clear hfl
      by_cases hf0 : f.pieces.length = 0
      · have hh := Lib.hid (hBad.out (fun h => absurd hf0 h.2.2.1))
        have hlz : ((f.pieces.length : Int) == 0) = true := by rw [hf0]; rfl
        replace hf0 := Lib.hid hf0
        go_wp2
        go_ret
        exact ⟨ret_int hh.out.symm, hXB.out⟩
      have hlz : ((f.pieces.length : Int) == 0) = false := beq_eq_false_iff_ne.2 (by omega)
      by_cases hf16 : 16 < f.pieces.length
      · have hh := Lib.hid (hBad.out (fun h => absurd h.2.2.2 (by omega)))
        go_wp2
        go_ret
        exact ⟨ret_int hh.out.symm, hXB.out⟩
      have hsh := Lib.hid (show PmShape f from ⟨hnm1.out, hflh.out, hf0, by omega⟩)
      have hf0h := Lib.hid hf0
      clear hf0
      go_wp2
      clear p0 p1 p2 p3 p4 lV hlb hlz
      go_loopw [54] (fun i wr2 => ∃ j : Nat, j ≤ k ∧ i = .int .i64 (j : Nat) ∧ Pass (pomNameE l k) j ∧ Ext wB wr2) (fun i _ => k - (intOf i).toNat)
      case atStart => exact ⟨0, Nat.zero_le _, rfl, Pass.zero _, Ext.refl _⟩
      case round =>
        obtain ⟨j, hj, rfl, hup2, hX2⟩ := hrel
        have hG := Lib.hid (hXB.out.trans hX2)
        have hV2 := Lib.hid (hV.out.ext hX2)
        obtain ⟨p0, p1, p2, p3, p4⟩ := hV2.out.parts5
        have lV := hV2.out.lt
        by_cases hjl : j < k
        · have hje : j < l.length := by omega
          obtain ⟨b', o', C1, i1, C2, i2, e', _, c0, c1, c2, c3, c4⟩ := hl.out.pom j hje
          injection e' with e'
          injection e' with e5 e6 _
          subst e5 e6
          have hsy := Lib.hid (fun h => hDup.out hsh.out (hup2.hit hjl (hNy.out j hje h) (by decide)))
          have hsn := Lib.hid (fun h => hup2.next (hNn.out j hje h))
          obtain ⟨g, hg⟩ : ∃ g, g = l[j] := ⟨_, rfl⟩
          rw [← hg] at c0 c1 c2 c3 c4 hsy hsn
          clear hg
          replace c0 := hG.out.cell c0
          replace c1 := hG.out.cell c1
          replace c2 := hG.out.cell c2
          replace c3 := hG.out.cell c3
          replace c4 := hG.out.cell c4
          have lb := World.block_lt_of_cell? _ _ c0
          replace hX2 := Lib.hid hX2
          replace hup2 := Lib.hid hup2
          have hji : (j : Int) < k := by omega
          rcases hq : (g.name.toList == f.name.toList) with _ | _
          · have hup3 := Lib.hid (hsn.out (bytes_ne hq))
            go_wp2
            go_roundw
            case rel => exact ⟨j + 1, by omega, by go_num, hup3.out, hX2.out.alloc _⟩
            case measure => simp [intOf]; omega
          · have hh := Lib.hid (hsy.out (bytes_eq hq))
            go_wp2
            go_ret
            exact ⟨ret_int hh.out.symm, hG.out.alloc _⟩
        · have hji : ¬ (j : Int) < k := by omega
          have hnz := Lib.hid (hup2.done hjl hj)
          have hE2 := Lib.hid (hXB1.out.trans hX2)
          clear hup2 hX2
          go_wp2
          clear p0 p1 p2 p3 p4 lV
          obtain ⟨wC, hwC⟩ : ∃ wC, wC = wr := ⟨_, rfl⟩
          subst hwC
          go_loopw [67] (fun i wr3 => ∃ j : Nat, j ≤ f.pieces.length ∧ i = .int .i64 (j : Nat) ∧ Pass (pomAtE s f) j ∧ Ext wC wr3) (fun i _ => f.pieces.length - (intOf i).toNat)
          case atStart => exact ⟨0, Nat.zero_le _, rfl, Pass.zero _, Ext.refl _⟩
          case round =>
            obtain ⟨j, hj, rfl, hup3, hX3⟩ := hrel
            have hH := Lib.hid (hG.out.trans hX3)
            have hV3 := Lib.hid (hV2.out.ext hX3)
            obtain ⟨p0, p1, p2, p3, p4⟩ := hV3.out.parts5
            have lV := hV3.out.lt
            by_cases hjl : j < f.pieces.length
            · have hje : j < f.edges.length := by have := hflh.out; omega
              obtain ⟨bx, ox, rfl, x0⟩ := hfp.out.int j hjl
              obtain ⟨byy, oy, rfl, y0⟩ := hfe.out.int j hje
              have hNo := Lib.hid (fun h => hAt.out hsh.out hnz.out (hup3.hit hjl (pomAtE_no hjl hje h) (by decide)))
              have hYes := Lib.hid (fun h => hup3.next (pomAtE_ok hjl hje h))
              obtain ⟨x, hx⟩ : ∃ x, x = f.pieces[j] := ⟨_, rfl⟩
              obtain ⟨y, hy⟩ : ∃ y, y = f.edges[j] := ⟨_, rfl⟩
              rw [← hx] at x0 hNo hYes
              rw [← hy] at y0 hNo hYes
              clear hx hy
              replace x0 := hH.out.cell x0
              replace y0 := hH.out.cell y0
              have lbx := World.block_lt_of_cell? _ _ x0
              have lby := World.block_lt_of_cell? _ _ y0
              obtain ⟨q0, q1, q2, q3, q4, q5, q6⟩ := (hP.out.ext (hE2.out.trans hX3)).parts7
              have lP := (hP.out.ext (hE2.out.trans hX3)).lt
              replace hX3 := Lib.hid hX3
              replace hup3 := Lib.hid hup3
              have hji : (j : Int) < f.pieces.length := by omega
              have hjE : (j : Int) < f.edges.length := by omega
              have hj0 : (0 : Int) ≤ j := by omega
              replace hf16 := Lib.hid hf16
              go_wp2_with fail
              by_cases t1 : x < 0
              · have hh := Lib.hid (hNo.out (edgeB_piece (by omega)))
                have d1 : decide (x < 0) = true := decide_eq_true t1
                go_quiet (fail)
                go_wp2
                go_ret
                exact ⟨ret_int hh.out.symm, hH.out.drewN _⟩
              have d1 : decide (x < 0) = false := decide_eq_false t1
              by_cases t2 : (s.pieces.length : Int) ≤ x
              · have hh := Lib.hid (hNo.out (edgeB_piece (by omega)))
                have d2 : decide ((s.pieces.length : Int) ≤ x) = true := decide_eq_true t2
                go_quiet (fail)
                go_wp2
                go_ret
                exact ⟨ret_int hh.out.symm, hH.out.drewN _⟩
              have d2 : decide ((s.pieces.length : Int) ≤ x) = false := decide_eq_false t2
              by_cases t3 : y < 0
              · have hh := Lib.hid (hNo.out (by
                  obtain ⟨a, rfl⟩ : ∃ a : Nat, x = (a : Int) := ⟨x.toNat, by omega⟩
                  rw [edgeB_at (by omega)]
                  exact decide_eq_false (by omega)))
                have d3 : decide (y < 0) = true := decide_eq_true t3
                go_quiet (fail)
                go_wp2
                go_ret
                exact ⟨ret_int hh.out.symm, hH.out.drewN _⟩
              have d3 : decide (y < 0) = false := decide_eq_false t3
              obtain ⟨a, rfl⟩ : ∃ a : Nat, x = (a : Int) := ⟨x.toNat, by omega⟩
              have ha : a < s.pieces.length := by omega
              obtain ⟨bp, op, C1, i1, C2, i2, C3, i3, C4, i4, rfl, hrp, _, g1, _⟩ := hpc.out.piece a ha
              have hea := Lib.hid (edgeB_at (e := y) ha)
              have hle2 := hrp.ed.le
              unfold maxLen at hle2
              clear hrp
              obtain ⟨q, hq⟩ : ∃ q, q = s.pieces[a] := ⟨_, rfl⟩
              rw [← hq] at g1 hea hle2
              clear hq
              replace g1 := hH.out.cell g1
              have lbp := World.block_lt_of_cell? _ _ g1
              have hai : (a : Int) < s.pieces.length := by omega
              have ha0 : (0 : Int) ≤ a := by omega
              have d2c : decide (s.pieces.length ≤ a) = false := decide_eq_false (by omega)
              by_cases t4 : (q.edges.length : Int) ≤ y
              · have hh := Lib.hid (hNo.out (hea.out.trans (decide_eq_false (by omega))))
                have d4 : decide ((q.edges.length : Int) ≤ y) = true := decide_eq_true t4
                go_quiet (fail)
                go_wp2
                go_ret
                exact ⟨ret_int hh.out.symm, hH.out.drewN _⟩
              have hup4 := Lib.hid (hYes.out (hea.out.trans (decide_eq_true (by omega))))
              have d4 : decide ((q.edges.length : Int) ≤ y) = false := decide_eq_false t4
              go_quiet (fail)
              go_wp2
              go_roundw
              case rel => exact ⟨j + 1, by omega, by go_num, hup4.out, hX3.out.drewN _⟩
              case measure => simp [intOf]; omega
            · have hji : ¬ (j : Int) < f.pieces.length := by omega
              have haz := Lib.hid (hup3.done hjl hj)
              have hX4 := Lib.hid (hE2.out.trans hX3)
              clear hup3 hX3
              by_cases t1 : f.plus < 0
              · have hh := Lib.hid (hTol.out hsh.out hnz.out haz.out (by omega))
                go_wp2
                go_ret
                exact ⟨ret_int hh.out.symm, hH.out⟩
              by_cases t2 : 1073741824 < f.plus
              · have hh := Lib.hid (hTol.out hsh.out hnz.out haz.out (by omega))
                go_wp2
                go_ret
                exact ⟨ret_int hh.out.symm, hH.out⟩
              by_cases t3 : f.minus < 0
              · have hh := Lib.hid (hTol.out hsh.out hnz.out haz.out (by omega))
                go_wp2
                go_ret
                exact ⟨ret_int hh.out.symm, hH.out⟩
              by_cases t4 : 1073741824 < f.minus
              · have hh := Lib.hid (hTol.out hsh.out hnz.out haz.out (by omega))
                go_wp2
                go_ret
                exact ⟨ret_int hh.out.symm, hH.out⟩
              have hup4 := Lib.hid (hNx.out hsh.out hnz.out haz.out (by omega))
              go_wp2
              go_roundw
              case rel => exact ⟨k + 1, by omega, by go_num, hup4.out, hX4.out⟩
              case measure => simp [intOf]; omega
    · have hki : ¬ (k : Int) < l.length := by omega
      have hz := Lib.hid (hRun.out.trans (hup.done hlt hk))
      replace hX1 := Lib.hid hX1
      go_wp2
      go_ret
      exact ⟨ret_int hz.out.symm, hX.out.trans hX1.out⟩

end Go.Proofs.YtiahfiopigjolaaGreat
