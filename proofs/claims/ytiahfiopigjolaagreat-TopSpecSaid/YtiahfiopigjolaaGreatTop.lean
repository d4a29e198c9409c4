/- The walk of TopSpec. -/
import Derived.Test.YtiahfiopigjolaaGreatLst
namespace Go.Proofs.YtiahfiopigjolaaGreat
open Go Go.RowKit

theorem tmod_u8 (z n : Nat) : Int.tmod (z : Int) (n : Int) = ((z % n : Nat) : Int) := tmod_nat z n

set_option maxRecDepth 100000 in
set_option maxHeartbeats 16000000 in
theorem c_TopSpec (s : St) (v1 v2 v3 v4 v5 v6 : Value) (l : List Pm) (v : Value) (z : Nat) (w : World) (h : StR w s v1 v2 v3 v4 v5 v6) (hl : RdL 5 pmP w v l) (hz : z ≤ 255) : Calls Tryz.prog 3 #[.agg (stC s v1 v2 v3 v4 v5 v6).toArray, v, .int .u8 z] w fun e w' => e = .returned (.bool true) ∧ Ext w w' := by
  have hcm := Lib.hid (fun w => c_measures w)
  have hsm := Lib.hid (fun w h => c_Small s v1 v2 v3 v4 v5 v6 w h)
  have hsc := Lib.hid (fun w h => c_stCheck s v1 v2 v3 v4 v5 v6 w h)
  have hpc := Lib.hid (fun w h h2 => c_spCheck s v1 v2 v3 v4 v5 v6 l v w h h2)
  have hta := Lib.hid (fun (p : Pm) (u1 u2 : Value) (z : Int) w h h2 => c_Target s v1 v2 v3 v4 v5 v6 p u1 u2 z w h h2)
  have hwi := Lib.hid (fun (u : Value) (z : Nat) (m : Int) xs w h h2 h3 h4 => c_Within s v1 v2 v3 v4 v5 v6 l v u z m xs w h h2 h3 h4)
  have huf := Lib.hid (fun (z : Nat) w h h2 h3 => c_Unfit s v1 v2 v3 v4 v5 v6 z w h h2 h3)
  have hst := Lib.hid h
  obtain ⟨A0, c0, rfl⟩ := hl.slice
  obtain ⟨A1, c1, rfl⟩ := h.sz.slice
  obtain ⟨A2, c2, rfl⟩ := h.mu.slice
  obtain ⟨A3, c3, rfl⟩ := h.pc.slice
  obtain ⟨A4, c4, rfl⟩ := h.us.slice
  obtain ⟨A5, c5, rfl⟩ := h.sm.slice
  obtain ⟨A6, c6, rfl, hops⟩ := h.op
  have hl1 := h.sz.le
  have hl2 := h.mu.le
  have hl3 := h.pc.le
  have hl5 := h.sm.le
  have hll := hl.le
  unfold maxLen at hl1 hl2 hl3 hl5 hll hops
  have hmu := Lib.hid h.mu
  have hpcs := Lib.hid h.pc
  have hsms := Lib.hid h.sm
  replace hl := Lib.hid hl
  clear h
  unfold stC at hsm hsc hpc hta hwi huf ⊢
  go_enter Tryz.func3, Tryz.ntmps3
  go_wp2_with fail
  refine (hsm.out _ (hst.out.ext ((Ext.refl w).alloc _))).mono ?_
  rintro e w1 ⟨⟨b, rfl⟩, hx⟩
  have hP := Lib.hid ((Blk.new w 29 (stC s (.slice A1 s.sizes.length c1) (.slice A2 s.mults.length c2) (.slice A3 s.pieces.length c3) (.slice A4 s.uses.length c4) (.slice A5 s.seams.length c5) (.slice A6 s.nops c6)).toArray).ext hx)
  have hX := Lib.hid (((Ext.refl w).alloc (.cells (stC s (.slice A1 s.sizes.length c1) (.slice A2 s.mults.length c2) (.slice A3 s.pieces.length c3) (.slice A4 s.uses.length c4) (.slice A5 s.seams.length c5) (.slice A6 s.nops c6)).toArray 29)).trans hx)
  clear hx hsm
  cases b
  · go_wp2_with fail
    refine (hcm.out _).mono ?_
    rintro e w9 ⟨rfl, hx⟩
    go_wp2
    go_ret
    exact ⟨rfl, hX.out.trans hx⟩
  by_cases h6 : 6 < l.length
  · have h6i : (6 : Int) < l.length := by omega
    go_wp2_with fail
    refine (hcm.out _).mono ?_
    rintro e w9 ⟨rfl, hx⟩
    go_wp2
    go_ret
    exact ⟨rfl, hX.out.trans hx⟩
  have h6f : ¬ (6 : Int) < l.length := by omega
  obtain ⟨q0, q1, q2, q3, q4, q5, q6⟩ := hP.out.parts7
  have lP := hP.out.lt
  go_wp2_with fail
  refine (hsc.out _ (hst.out.ext hX.out)).mono ?_
  rintro e w2 ⟨rfl, hx⟩
  replace hX := Lib.hid (hX.out.trans hx)
  replace hP := Lib.hid (hP.out.ext hx)
  clear hx hsc q0 q1 q2 q3 q4 q5 q6 lP
  by_cases hs0 : styleE s = 0
  rotate_left
  · have hn0 : (styleE s != 0) = true := bne_iff_ne.2 hs0
    go_wp2_with fail
    refine (hcm.out _).mono ?_
    rintro e w9 ⟨rfl, hx⟩
    go_wp2
    go_ret
    exact ⟨rfl, hX.out.trans hx⟩
  rw [hs0]
  replace hs0 := Lib.hid hs0
  obtain ⟨q0, q1, q2, q3, q4, q5, q6⟩ := hP.out.parts7
  have lP := hP.out.lt
  go_wp2_with fail
  refine (hpc.out _ (hst.out.ext hX.out) (hl.out.ext pmP.stays hX.out)).mono ?_
  rintro e w3 ⟨rfl, hx⟩
  replace hX := Lib.hid (hX.out.trans hx)
  replace hP := Lib.hid (hP.out.ext hx)
  clear hx hpc q0 q1 q2 q3 q4 q5 q6 lP
  by_cases hp0 : specE s l = 0
  rotate_left
  · have hn0 : (specE s l != 0) = true := bne_iff_ne.2 hp0
    go_wp2_with fail
    refine (hcm.out _).mono ?_
    rintro e w9 ⟨rfl, hx⟩
    go_wp2
    go_ret
    exact ⟨rfl, hX.out.trans hx⟩
  rw [hp0]
  replace hp0 := Lib.hid hp0
  have hok := Lib.hid (stOk_of hs0.out)
  have hn1 : 0 < s.sizes.length := hok.out.sizes
  obtain ⟨k, hk⟩ : ∃ k, z % s.sizes.length = k := ⟨_, rfl⟩
  have hkl : k < s.sizes.length := hk ▸ Nat.mod_lt _ hn1
  have hkm : k < s.mults.length := by have := hok.out.mults; omega
  have hmx : max (s.sizes.length : Int) 1 = s.sizes.length := by omega
  have t1 : Int.tmod (z : Int) (s.sizes.length : Int) = (k : Int) := by rw [← hk]; exact tmod_u8 z _
  have t3 : (z : Int) % (s.sizes.length : Int) = (k : Int) := by rw [← hk]; rfl
  have n1 : ¬ (s.sizes.length : Int) = 0 := by omega
  have n2 : ¬ s.sizes.length = 0 := by omega
  have n3 : ¬ s.sizes = [] := fun e => by rw [e] at hn1; exact absurd hn1 (by simp)
  have n4 : ((s.sizes.length : Int) == 0) = false := beq_eq_false_iff_ne.2 (by omega)
  have hzw : IntKind.i64.wrap (z : Int) = (z : Int) := IntWalk.i64_in _ (by omega)
  replace hk := Lib.hid hk
  obtain ⟨q0, q1, q2, q3, q4, q5, q6⟩ := hP.out.parts7
  have lP := hP.out.lt
  go_wp2
  clear q0 q1 q2 q3 q4 q5 q6 lP hmx t1 t3 n1 n2 n3 n4 hzw h6f
  obtain ⟨bm, om, rfl, m0⟩ := hmu.out.int k hkm
  obtain ⟨m, hm⟩ : ∃ m, m = s.mults[k] := ⟨_, rfl⟩
  rw [← hm] at m0
  replace hm := Lib.hid hm
  have hm0 := Lib.hid m0
  clear m0
  have hkmi : (k : Int) < s.mults.length := by omega
  have hk0 : (0 : Int) ≤ k := by omega
  go_loopw [8, 9] (fun u i wr => ∃ (j : Nat), j ≤ l.length ∧ i = .int .i64 (j : Nat) ∧ OwnL .i64 3 w3.heap.size wr u (msL s l m j) ∧ Hid (∀ i, i < j → targetE s (nth l i) m = 0) ∧ Ext w3 wr) (fun _ i _ => l.length - (intOf i).toNat)
  case atStart => exact ⟨0, Nat.zero_le _, rfl, OwnL.nil _ _ _ _, Lib.hid (fun i h => absurd h (by omega)), Ext.refl _⟩
  case round =>
    obtain ⟨j, hj, rfl, hown, hall, hX3⟩ := hrel
    have hml := Lib.hid (msL_len s l m j)
    obtain ⟨Ay, cy, rfl⟩ := hown.slice
    rw [hml.out]
    have hownj := Lib.hid (show OwnL .i64 3 w3.heap.size wr (.slice Ay j cy) (msL s l m j) by rw [hml.out] at hown; exact hown)
    clear hown
    have hF := Lib.hid (hX.out.trans hX3)
    have hPr := Lib.hid (hP.out.ext hX3)
    have hX3h := Lib.hid hX3
    clear hX3
    by_cases hjl : j < l.length
    · obtain ⟨b, o, B1, e1, B2, e2, rfl, hr, d0, d1, d2, d3, d4⟩ := hl.out.pom j hjl
      have hpo := Lib.hid (specE_at hp0.out hjl)
      have hSn := Lib.hid (msL_snoc s l m j)
      rw [nth_eq l hjl] at hSn
      have hNth := Lib.hid (nth_eq l hjl)
      obtain ⟨f, hf⟩ : ∃ f, f = l[j] := ⟨_, rfl⟩
      rw [← hf] at d0 d1 d2 d3 d4 hr hpo hSn hNth
      clear hf
      have hlp := hr.pc.le
      have hle := hr.ed.le
      have hfew := hpo.out.few
      have hlen := Lib.hid hpo.out.len
      unfold maxLen at hlp hle
      have hrh := Lib.hid hr
      have d0h := Lib.hid d0
      have d1h := Lib.hid d1
      have d2h := Lib.hid d2
      have d3h := Lib.hid d3
      have d4h := Lib.hid d4
      clear hr d0 d1 d2 d3 d4
      have hji : (j : Int) < l.length := by omega
      have hj0 : (0 : Int) ≤ j := by omega
      go_wp2
      obtain ⟨wq, hwq⟩ : ∃ wq, wq = wr := ⟨_, rfl⟩
      subst hwq
      go_loopw [10, 11] (fun n i wr2 => ∃ q : Nat, q ≤ f.pieces.length ∧ i = .int .i64 (q : Nat) ∧ n = .int .i64 (sumTo (targetAt s f m) q) ∧ Pass (targetAtE s f m) q ∧ Ext wq wr2) (fun _ i _ => f.pieces.length - (intOf i).toNat)
      case atStart => exact ⟨0, Nat.zero_le _, rfl, rfl, Pass.zero _, Ext.refl _⟩
      case round =>
        obtain ⟨q, hq, rfl, rfl, hup, hXq⟩ := hrel
        have hG := Lib.hid (hF.out.trans hXq)
        have d0 := hG.out.cell d0h.out
        have d1 := hG.out.cell d1h.out
        have d2 := hG.out.cell d2h.out
        have d3 := hG.out.cell d3h.out
        have d4 := hG.out.cell d4h.out
        have lb : b < wr.heap.size := World.block_lt_of_cell? _ _ d0
        obtain ⟨q0, q1, q2, q3, q4, q5, q6⟩ := (hPr.out.ext hXq).parts7
        have lP := (hPr.out.ext hXq).lt
        have hXqh := Lib.hid hXq
        clear hXq
        by_cases hql : q < f.pieces.length
        · have hqe : q < f.edges.length := by have := hlen.out; omega
          obtain ⟨bx, ox, rfl, x0⟩ := hrh.out.pc.int q hql
          obtain ⟨byy, oy, rfl, y0⟩ := hrh.out.ed.int q hqe
          obtain ⟨a, e, ha, ea, eb, he⟩ := edgeB_nat (show edgeB s f.pieces[q] f.edges[q] = true by have := hpo.out.at_ q hql; rwa [nth_eq f.pieces hql, nth_eq f.edges hqe] at this)
          have hE := targetAtE_eq (m := m) hql ha ea
          have hT := Lib.hid (fun hb => targetAt_eq (m := m) hql hqe ha ea eb hb)
          rw [ea] at x0
          rw [eb] at y0
          obtain ⟨bp, op, C1, i1, C2, i2, C3, i3, C4, i4, rfl, hrp, g0, g1, g2, g3, g4, g5, g6⟩ := hpcs.out.piece a ha
          have hNx := Lib.hid (fun h => hup.next (f := targetAtE s f m) h)
          obtain ⟨pp, hpp⟩ : ∃ p, p = s.pieces[a] := ⟨_, rfl⟩
          rw [← hpp] at hrp g0 g1 g2 g3 g4 g5 g6 he hE hT
          clear hpp ea eb
          have hcg := Lib.hid (fun w h => c_graded pp (.slice C1 pp.edges.length i1) (.slice C2 pp.notches.length i2) (.slice C3 pp.corners.length i3) (.slice C4 pp.widths.length i4) m w h)
          unfold pcC at hcg
          have hS := targetN_in (m := m) hpo.out (k := q) hq hup.no
          have hSum := Lib.hid (show sumTo (targetAt s f m) (q + 1) = sumTo (targetAt s f m) q + targetAt s f m q from rfl)
          obtain ⟨S, hSe⟩ : ∃ S, S = sumTo (targetAt s f m) q := ⟨_, rfl⟩
          rw [← hSe] at hS hSum
          rw [← hSe]
          clear hSe
          replace hE := Lib.hid hE
          replace x0 := hG.out.cell x0
          replace y0 := hG.out.cell y0
          have lbx := World.block_lt_of_cell? _ _ x0
          have lby := World.block_lt_of_cell? _ _ y0
          have hqi : (q : Int) < f.pieces.length := by omega
          have hqe2 : (q : Int) < f.edges.length := by omega
          have hq0 : (0 : Int) ≤ q := by omega
          have hai : (a : Int) < s.pieces.length := by omega
          have ha0 : (0 : Int) ≤ a := by omega
          replace hup := Lib.hid hup
          replace hrp := Lib.hid hrp
          go_wp2_with fail
          go_quiet (fail)
          generalize hwD : World.drewN wr _ = wD
          have hXd := Lib.hid (show Ext wq wD from hwD ▸ hXqh.out.drewN _)
          have hrD := Lib.hid (show Ext wr wD from hwD ▸ (Ext.refl wr).drewN _)
          clear hwD d0 d1 d2 d3 d4 lb x0 y0 lbx lby q0 q1 q2 q3 q4 q5 q6 lP
          have hGd := Lib.hid (hF.out.trans hXd.out)
          obtain ⟨q0, q1, q2, q3, q4, q5, q6⟩ := (hPr.out.ext hXd.out).parts7
          have lP := (hPr.out.ext hXd.out).lt
          replace g0 := hGd.out.cell g0
          replace g1 := hGd.out.cell g1
          replace g2 := hGd.out.cell g2
          replace g3 := hGd.out.cell g3
          replace g4 := hGd.out.cell g4
          replace g5 := hGd.out.cell g5
          replace g6 := hGd.out.cell g6
          have lg := World.block_lt_of_cell? _ _ g0
          have m0 := hGd.out.cell hm0.out
          have lm := World.block_lt_of_cell? _ _ m0
          have hN : wD.heap.size ≤ wD.heap.size := Nat.le_refl _
          have hNw := Lib.hid hGd.out.size
          go_wp2_with fail
          go_region_held3 (fun w' => (∀ b o, b < wD.heap.size → w'.cell? ⟨b, o, none⟩ = wD.cell? ⟨b, o, none⟩) ∧ Kp wD.heap.size wD w')
            (first
              | exact (Kp.start hN).drew.both
              | (go_split_ands; exact ((by assumption : Kp _ _ _).call hx).both)
              | assumption)
            (first
              | (go_at_call 8; go_split_ands; (with_reducible refine (hcg.out _ (hrp.out.ext ((by assumption : Kp _ _ _).ext hGd.out hNw.out))).mono ?_); rintro e' w4 ⟨v, rfl, hrd, hx⟩))
          go_split_ands
          have hE4 := Lib.hid ((by assumption : Kp _ _ w4).ext (Ext.refl wD) (Nat.le_refl _))
          have hX4 := Lib.hid (hXd.out.trans hE4.out)
          have hG4 := Lib.hid (hGd.out.trans hE4.out)
          clear q0 q1 q2 q3 q4 q5 q6 lP g0 g1 g2 g3 g4 g5 g6 lg m0 lm hN hx
          by_cases hg : gradeE pp m = 0
          rotate_left
          · have hn0 : (gradeE pp m != 0) = true := bne_iff_ne.2 hg
            clear hrd
            go_wp2_with fail
            refine (hcm.out _).mono ?_
            rintro e' w9 ⟨rfl, hx⟩
            go_wp2
            go_ret
            exact ⟨rfl, hG4.out.trans hx⟩
          rw [graded_ok hg] at hrd
          have hok2 := (gradeE_oks hg).2
          have hgl := gradedL_len pp m
          obtain ⟨Ag, cg, rfl⟩ := hrd.slice
          have hkg : e < (gradedL pp m).length := by omega
          obtain ⟨bg, og, Lg, mg, rfl, hline, _, g2, g3⟩ := hrd.edge e hkg
          have hpl := hok2.pl e hkg
          have hlo := plLen_in (hok2.line e hkg)
          have hv := Lib.hid (lenV_ok hpl)
          have ht := hT.out hkg
          obtain ⟨ed, hed⟩ : ∃ x, x = (gradedL pp m)[e] := ⟨_, rfl⟩
          rw [← hed] at hline g2 g3 hpl hv hlo ht
          clear hed hrd hok2
          rw [ht] at hSum
          clear ht
          have hup2 := Lib.hid (hNx.out (hE.out.trans hg))
          have hc2 := Lib.hid (fun w h => c_length (.slice Lg ed.line.length mg) ed.line w h)
          rw [hv.out, hpl] at hc2
          obtain ⟨L, hL⟩ : ∃ L, L = plLen ed.line := ⟨_, rfl⟩
          rw [← hL] at hlo hSum hc2
          clear hL
          have lbg : bg < w4.heap.size := World.block_lt_of_cell? _ _ g2
          rw [hg]
          replace hg := Lib.hid hg
          rw [hgl]
          replace hgl := Lib.hid hgl
          have hei : (e : Int) < pp.edges.length := by omega
          have he0 : (0 : Int) ≤ e := by omega
          replace hpl := Lib.hid hpl
          replace hline := Lib.hid hline
          have hsw : IntKind.i64.wrap (S + L) = S + L := IntWalk.i64_in _ (by omega)
          go_wp2_with fail
          refine (hc2.out _ hline.out).mono ?_
          rintro e' w5 ⟨rfl, hx⟩
          have hX5 := Lib.hid (hX4.out.trans hx)
          clear hx g2 g3
          go_wp2
          go_roundw
          case rel => exact ⟨q + 1, by omega, by go_num, by rw [hSum.out], hup2.out, hX5.out⟩
          case measure => simp [intOf]; omega
        · have hqi : ¬ (q : Int) < f.pieces.length := by omega
          have hqn : q = f.pieces.length := by omega
          have htE := Lib.hid (show targetE s f m = 0 from hup.done hql hq)
          have htN := Lib.hid (show sumTo (targetAt s f m) q = targetN s f m by rw [hqn]; rfl)
          have hta0 := Lib.hid (ta_at (specE_one hs0.out hpo.out) hkl hkm)
          have hbnd := targetN_in (m := m) hpo.out (Nat.le_refl _) htE.out
          rw [show sumTo (targetAt s f m) f.pieces.length = targetN s f m from rfl] at hbnd
          rw [htN.out]
          clear hup
          replace hqn := Lib.hid hqn
          rw [← hm.out, htE.out, tgN_ok htE.out] at hta0
          obtain ⟨T, hTe⟩ : ∃ T, T = targetN s f m := ⟨_, rfl⟩
          rw [← hTe] at hta0 hbnd hSn
          rw [← hTe]
          clear hTe htN
          have hcf := Lib.hid (fun w h h2 => hta.out f (.slice B1 f.pieces.length e1) (.slice B2 f.edges.length e2) k w h h2)
          unfold pmC at hcf
          rw [hta0.out.1, hta0.out.2] at hcf
          have m0 := hG.out.cell hm0.out
          have lm := World.block_lt_of_cell? _ _ m0
          have hN : wr.heap.size ≤ wr.heap.size := Nat.le_refl _
          have hNw := Lib.hid hG.out.size
          go_wp2_with fail
          go_region_held3 (fun w' => (∀ b o, b < wr.heap.size → w'.cell? ⟨b, o, none⟩ = wr.cell? ⟨b, o, none⟩) ∧ Kp wr.heap.size wr w')
            (first
              | exact (Kp.start hN).drew.both
              | (go_split_ands; exact ((by assumption : Kp _ _ _).call hx).both)
              | assumption)
            (first
              | (go_at_call 10; go_split_ands; (with_reducible refine (hcf.out _ (hst.out.ext ((by assumption : Kp _ _ _).ext hG.out hNw.out)) (hrh.out.ext ((by assumption : Kp _ _ _).ext hG.out hNw.out))).mono ?_); rintro e' w4 ⟨rfl, hx⟩))
          go_split_ands
          have hE4 := Lib.hid ((by assumption : Kp _ _ w4).ext (Ext.refl wr) (Nat.le_refl _))
          have hX4 := Lib.hid (hX3h.out.trans (hXqh.out.trans hE4.out))
          have ho1 := Lib.hid (hownj.out.ext (hXqh.out.trans hE4.out))
          clear d0 d1 d2 d3 d4 lb q0 q1 q2 q3 q4 q5 q6 lP m0 lm hN hx
          have hnew := Lib.hid (show ∀ i, i < j + 1 → targetE s (nth l i) m = 0 from fun i hi => by
            rcases Nat.lt_or_ge i j with h | h
            · exact hall.out i h
            · rw [show i = j by omega, hNth.out]; exact htE.out)
          have hml2 := Lib.hid (show (msL s l m j).length ≤ 1000 by rw [hml.out]; omega)
          go_wp2_with (at_builtin; refine wpList_app1 rfl (.tmp 173) (.tmp 175) 23 rfl .i64 3 w3.heap.size 8 Tryz.underlying23 info_int (by decide) _ (msL s l m j) T w4.heap.size 1 rfl (ho1.out.alloc _) rfl ?_ ?_ ?_ ?_; (simp); (have := hml2.out; omega); (have := hX4.out.size; simp; omega); (intro A2 cap2 w5 ho hg hat2))
          go_roundw
          case rel => exact ⟨j + 1, by omega, by go_num, by rw [hSn.out]; exact ho, hnew, (ho1.out.alloc _).extGrown (hX4.out.alloc _) (Nat.le_refl _) hg⟩
          case measure => simp [intOf]; omega
    · have hji : ¬ (j : Int) < l.length := by omega
      have hjn : j = l.length := by omega
      subst hjn
      have hjd := ms_ok hp0.out hkl hkm (by rw [← hm.out]; exact hall.out)
      rw [← hm.out] at hjd
      have hcW := Lib.hid (fun w h h2 h3 => hwi.out (.slice Ay l.length cy) k m (msL s l m l.length) w h h2 h3 hjd)
      rw [ms_in hp0.out] at hcW
      have hrdy := Lib.hid hownj.out.rdI.rdL
      clear hjd hall hwi
      obtain ⟨q0, q1, q2, q3, q4, q5, q6⟩ := hPr.out.parts7
      have lP := hPr.out.lt
      go_wp2_with fail
      refine (hcW.out _ (hst.out.ext hF.out) (hl.out.ext pmP.stays hF.out) hrdy.out).mono ?_
      rintro e w4 ⟨rfl, hx⟩
      have hX4 := Lib.hid (hF.out.trans hx)
      have hP4 := Lib.hid (hPr.out.ext hx)
      clear hx hcW q0 q1 q2 q3 q4 q5 q6 lP
      obtain ⟨q0, q1, q2, q3, q4, q5, q6⟩ := hP4.out.parts7
      have lP := hP4.out.lt
      go_wp2_with fail
      refine (huf.out k _ (hst.out.ext hX4.out) hok.out hkm).mono ?_
      rintro e w5 ⟨⟨v, c, rfl, hbad⟩, hx⟩
      have hX5 := Lib.hid (hX4.out.trans hx)
      have hP5 := Lib.hid (hP4.out.ext hx)
      replace hbad := Lib.hid hbad
      clear hx huf q0 q1 q2 q3 q4 q5 q6 lP
      by_cases hc0 : c = 0
      rotate_left
      · have hn0 : (c != 0) = true := bne_iff_ne.2 hc0
        go_wp2_with fail
        refine (hcm.out _).mono ?_
        rintro e w9 ⟨rfl, hx⟩
        go_wp2
        go_ret
        exact ⟨rfl, hX5.out.trans hx⟩
      subst hc0
      obtain ⟨bad, hbl, hrd, hu⟩ := hbad.out rfl
      obtain ⟨Ab, cb, rfl⟩ := hrd.nat
      have hss := hok.out.ss
      replace hu := Lib.hid hu
      replace hrd := Lib.hid hrd
      clear hbad
      go_wp2
      go_loopw [24] (fun i wr => ∃ j : Nat, j ≤ s.seams.length ∧ i = .int .i64 (j : Nat) ∧ Ext w5 wr) (fun i _ => s.seams.length - (intOf i).toNat)
      case atStart => exact ⟨0, Nat.zero_le _, rfl, Ext.refl _⟩
      case round =>
        obtain ⟨j, hj, rfl, hX6⟩ := hrel
        have hG := Lib.hid (hX5.out.trans hX6)
        have hP6 := Lib.hid (hP5.out.ext hX6)
        have hX6h := Lib.hid hX6
        clear hX6
        obtain ⟨q0, q1, q2, q3, q4, q5, q6⟩ := hP6.out.parts7
        have lP := hP6.out.lt
        by_cases hjl : j < s.seams.length
        · obtain ⟨b, o, rfl, d0, d1, d2, d3, d4, d5⟩ := hsms.out.sm j hjl
          have hFit := Lib.hid (fun h1 h2 => seam_fit hs0.out hkl hkm hjl hu.out h1 h2)
          obtain ⟨f, hf⟩ : ∃ f, f = s.seams[j] := ⟨_, rfl⟩
          rw [← hf] at d0 d1 d2 d3 d4 d5 hFit
          clear hf
          replace d0 := hG.out.cell d0
          replace d1 := hG.out.cell d1
          replace d2 := hG.out.cell d2
          replace d3 := hG.out.cell d3
          replace d4 := hG.out.cell d4
          replace d5 := hG.out.cell d5
          have lb := World.block_lt_of_cell? _ _ d0
          have hji : (j : Int) < s.seams.length := by omega
          have hj0 : (0 : Int) ≤ j := by omega
          go_wp2
          obtain ⟨wB, hwB⟩ : ∃ wB, wB = wr.alloc (.cells #[.int .i64 f.pa, .int .i64 f.ea, .int .i64 f.pb, .int .i64 f.eb, .bool f.rev, .int .i64 f.ease] 55) := ⟨_, rfl⟩
          have hV := Lib.hid (show Blk wB wr.heap.size 55 #[.int .i64 f.pa, .int .i64 f.ea, .int .i64 f.pb, .int .i64 f.eb, .bool f.rev, .int .i64 f.ease] from hwB ▸ Blk.new _ _ _)
          have hXB := Lib.hid (show Ext w wB from hwB ▸ hG.out.alloc _)
          have hX6B := Lib.hid (show Ext w5 wB from hwB ▸ hX6h.out.alloc _)
          have hPB := Lib.hid (show Blk wB w.heap.size 29 _ from hwB ▸ hP6.out.alloc _)
          rw [← hwB]
          clear hwB d0 d1 d2 d3 d4 d5 lb q0 q1 q2 q3 q4 q5 q6 lP
          go_loop [26, 27] (fun b i => ∃ (q : Nat) (t : Bool), q ≤ bad.length ∧ i = .int .i64 (q : Nat) ∧ b = .bool t ∧ FitAt t f.ease bad j q) (fun _ i => bad.length - (intOf i).toNat)
          case atStart => exact ⟨0, _, Nat.zero_le _, rfl, rfl, FitAt.zero _ _ _⟩
          case round =>
            obtain ⟨q, t, hq, rfl, rfl, hfit⟩ := hrel
            by_cases hql : q < bad.length
            · have hqi : (q : Int) < bad.length := by omega
              have hq0 : (0 : Int) ≤ q := by omega
              cases t
              · go_wp2
                go_round
                case rel => exact ⟨q + 1, false, by omega, by go_num, rfl, FitAt.off _ _ _ _⟩
                case measure => simp [intOf]; omega
              · obtain ⟨bb, ob, rfl, x0⟩ := hrd.out.at q hql
                replace x0 := hX6B.out.cell x0
                have lx := World.block_lt_of_cell? _ _ x0
                by_cases hne : bad[q] = (j : Int)
                · have hn0 : ((j : Int) != (j : Int)) = false := by simp
                  rw [hne] at x0
                  go_wp2
                  go_round
                  case rel => exact ⟨q + 1, false, by omega, by go_num, rfl, FitAt.off _ _ _ _⟩
                  case measure => simp [intOf]; omega
                · have hn0 : (bad[q] != (j : Int)) = true := bne_iff_ne.2 hne
                  have hf2 := Lib.hid (hfit.next hql hne)
                  clear hfit
                  generalize bad[q] = y at *
                  go_wp2
                  go_round
                  case rel => exact ⟨q + 1, true, by omega, by go_num, rfl, hf2.out⟩
                  case measure => simp [intOf]; omega
            · have hqi : ¬ (q : Int) < bad.length := by omega
              obtain ⟨p0, p1, p2, p3, p4, p5⟩ := hV.out.parts6
              have lV := hV.out.lt
              obtain ⟨q0, q1, q2, q3, q4, q5, q6⟩ := hPB.out.parts7
              have lP := hPB.out.lt
              have hca := Lib.hid (fun (u1 u2 : Value) w h h2 => hta.out (onePm bA f.pa f.ea) u1 u2 k w h h2)
              have hcb := Lib.hid (fun (u1 u2 : Value) w h h2 => hta.out (onePm bB f.pb f.eb) u1 u2 k w h h2)
              cases t
              · obtain ⟨NA, hNA⟩ : ∃ n, n = taN s (onePm bA f.pa f.ea) k := ⟨_, rfl⟩
                obtain ⟨EA, hEA⟩ : ∃ n, n = taE s (onePm bA f.pa f.ea) k := ⟨_, rfl⟩
                obtain ⟨NB, hNB⟩ : ∃ n, n = taN s (onePm bB f.pb f.eb) k := ⟨_, rfl⟩
                obtain ⟨EB, hEB⟩ : ∃ n, n = taE s (onePm bB f.pb f.eb) k := ⟨_, rfl⟩
                rw [← hNA, ← hEA] at hca
                rw [← hNB, ← hEB] at hcb
                clear hNA hEA hNB hEB
                dsimp only [pmC, onePm, bA, bB] at hca hcb
                go_wp2_with fail
                refine (hca.out _ _ _ (hst.out.ext ((hXB.out.alloc _).alloc _)) ⟨rdInt_one ((Blk.new _ _ _).alloc _), rdInt_one (Blk.at (by simp)), by show bA.size ≤ maxLen; decide⟩).mono ?_
                rintro e w6 ⟨rfl, hx⟩
                have hE6 := Lib.hid ((((Ext.refl wB).alloc (.cells #[.int .i64 f.pa] 3)).alloc (.cells #[.int .i64 f.ea] 3)).trans hx)
                clear hx p0 p1 p2 p3 p4 p5 lV q0 q1 q2 q3 q4 q5 q6 lP
                obtain ⟨p0, p1, p2, p3, p4, p5⟩ := (hV.out.ext hE6.out).parts6
                have lV := (hV.out.ext hE6.out).lt
                obtain ⟨q0, q1, q2, q3, q4, q5, q6⟩ := (hPB.out.ext hE6.out).parts7
                have lP := (hPB.out.ext hE6.out).lt
                have hX7 := Lib.hid (hXB.out.trans hE6.out)
                go_wp2_with fail
                refine (hcb.out _ _ _ (hst.out.ext ((hX7.out.alloc _).alloc _)) ⟨rdInt_one ((Blk.new _ _ _).alloc _), rdInt_one (Blk.at (by simp)), by show bB.size ≤ maxLen; decide⟩).mono ?_
                rintro e w7 ⟨rfl, hx⟩
                have hE7 := Lib.hid ((((Ext.refl w6).alloc (.cells #[.int .i64 f.pb] 3)).alloc (.cells #[.int .i64 f.eb] 3)).trans hx)
                clear hx p0 p1 p2 p3 p4 p5 lV q0 q1 q2 q3 q4 q5 q6 lP
                go_wp2
                go_roundw
                case rel => exact ⟨j + 1, by omega, by go_num, hX6B.out.trans (hE6.out.trans hE7.out)⟩
                case measure => simp [intOf]; omega
              · obtain ⟨h1, h2⟩ := hfit.done hql
                obtain ⟨x1, x2, x3⟩ := hFit.out h1 h2
                replace h1 := Lib.hid h1
                replace h2 := Lib.hid h2
                rw [x1] at hca
                rw [x2, ← x3] at hcb
                clear x1 x2 x3
                obtain ⟨NA, hNA⟩ : ∃ n, n = taN s (onePm bA f.pa f.ea) k := ⟨_, rfl⟩
                rw [← hNA] at hca hcb
                clear hNA
                dsimp only [pmC, onePm, bA, bB] at hca hcb
                go_wp2_with fail
                refine (hca.out _ _ _ (hst.out.ext ((hXB.out.alloc _).alloc _)) ⟨rdInt_one ((Blk.new _ _ _).alloc _), rdInt_one (Blk.at (by simp)), by show bA.size ≤ maxLen; decide⟩).mono ?_
                rintro e w6 ⟨rfl, hx⟩
                have hE6 := Lib.hid ((((Ext.refl wB).alloc (.cells #[.int .i64 f.pa] 3)).alloc (.cells #[.int .i64 f.ea] 3)).trans hx)
                clear hx p0 p1 p2 p3 p4 p5 lV q0 q1 q2 q3 q4 q5 q6 lP
                obtain ⟨p0, p1, p2, p3, p4, p5⟩ := (hV.out.ext hE6.out).parts6
                have lV := (hV.out.ext hE6.out).lt
                obtain ⟨q0, q1, q2, q3, q4, q5, q6⟩ := (hPB.out.ext hE6.out).parts7
                have lP := (hPB.out.ext hE6.out).lt
                have hX7 := Lib.hid (hXB.out.trans hE6.out)
                go_wp2_with fail
                refine (hcb.out _ _ _ (hst.out.ext ((hX7.out.alloc _).alloc _)) ⟨rdInt_one ((Blk.new _ _ _).alloc _), rdInt_one (Blk.at (by simp)), by show bB.size ≤ maxLen; decide⟩).mono ?_
                rintro e w7 ⟨rfl, hx⟩
                have hE7 := Lib.hid ((((Ext.refl w6).alloc (.cells #[.int .i64 f.pb] 3)).alloc (.cells #[.int .i64 f.eb] 3)).trans hx)
                clear hx p0 p1 p2 p3 p4 p5 lV q0 q1 q2 q3 q4 q5 q6 lP
                go_wp2
                go_roundw
                case rel => exact ⟨j + 1, by omega, by go_num, hX6B.out.trans (hE6.out.trans hE7.out)⟩
                case measure => simp [intOf]; omega
        · have hji : ¬ (j : Int) < s.seams.length := by omega
          go_wp2_with fail
          refine (hcm.out _).mono ?_
          rintro e w9 ⟨rfl, hx⟩
          go_wp2
          go_ret
          exact ⟨rfl, hG.out.trans hx⟩

end Go.Proofs.YtiahfiopigjolaaGreat
