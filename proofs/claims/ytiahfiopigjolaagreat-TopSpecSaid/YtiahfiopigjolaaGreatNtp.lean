/- Contracts of notch.placed and Placed. -/
import Derived.Test.YtiahfiopigjolaaGreatNam
import Derived.Test.YtiahfiopigjolaaGreatPtn
namespace Go.Proofs.YtiahfiopigjolaaGreat
open Go Go.RowKit

theorem gradedL_len (p : Pc) (m : Int) : (gradedL p m).length = p.edges.length := by unfold gradedL; simp
theorem gradedL_get (p : Pc) (m : Int) {k : Nat} (h : k < (gradedL p m).length) : (gradedL p m)[k] = gradedAt p m k := by simp [gradedL]
/-- a piece without an error in grading: both outlines are whole -/
theorem gradeE_oks {p : Pc} {m : Int} (h : gradeE p m = 0) : OlOk p.edges ∧ OlOk (gradedL p m) := by
  unfold gradeE at h
  split at h
  · split at h
    · split at h
      · split at h
        · rename_i h4
          exact ⟨olOk_of h4, olOk_of h⟩
        · rename_i h4; exact absurd h h4
      · omega
    · omega
  · omega
theorem placedE_bad {p : Pc} {m : Int} (h : ¬ gradeE p m = 0) : placedE p m = gradeE p m := by unfold placedE; rw [if_neg h]
theorem placedE_many {p : Pc} {m : Int} (h : gradeE p m = 0) (h2 : 16 < p.notches.length) : placedE p m = 5 := by unfold placedE; rw [if_pos h, if_pos h2]
theorem placedE_run {p : Pc} {m : Int} (h : gradeE p m = 0) (h2 : ¬ 16 < p.notches.length) : placedE p m = upto (notchE p m) p.notches.length := by unfold placedE; rw [if_pos h, if_neg h2]
theorem lineAt_eq {l : List Ed} {k : Nat} (h : k < l.length) : lineAt l (k : Int) = l[k].line := by unfold lineAt; rw [Int.toNat_natCast, nth_eq l h]
theorem notchE_out {p : Pc} {m : Int} {i : Nat} (hi : i < p.notches.length) (h : ¬ (0 ≤ p.notches[i].edge ∧ p.notches[i].edge < p.edges.length)) : notchE p m i = 3 := by
  unfold notchE inR
  rw [nth_eq p.notches hi, if_neg (by simp; omega)]
theorem notchE_at {p : Pc} {m : Int} {i k : Nat} (hi : i < p.notches.length) (hk : k < p.edges.length) (he : p.notches[i].edge = (k : Int)) : notchE p m i = if partnerOk (plLen p.edges[k].line) (plLen ((gradedL p m)[k]'(by rw [gradedL_len]; exact hk)).line) p.notches[i].at_ then 0 else 3 := by
  unfold notchE inR
  rw [nth_eq p.notches hi, if_pos (by simp; omega), he, lineAt_eq hk, lineAt_eq (by rw [gradedL_len]; exact hk)]

theorem info_int : (Tryz.prog.info? 3).map (fun i => (i.zero, i.size, i.bytes)) = some (some (.int .i64 0), 1, 8) := by kernel_rfl
/-- how placed ends: what numbers it found is not said -/
def PlOut (p : Pc) (m : Int) (w : World) (e : Ending) (w' : World) : Prop := ∃ v u, e = .returned (.tuple #[v, u, .int .i64 (placedE p m)]) ∧ Ext w w'

set_option maxRecDepth 100000 in
set_option maxHeartbeats 2000000 in
theorem c_placed (p : Pc) (v1 v2 v3 v4 : Value) (m : Int) (w : World) (h : PcR w p v1 v2 v3 v4) : Calls Tryz.prog 45 #[.agg (pcC p v1 v2 v3 v4).toArray, .int .i64 m] w (PlOut p m w) := by
  have hcg := Lib.hid (fun w h => c_graded p v1 v2 v3 v4 m w h)
  have hpc := Lib.hid h
  obtain ⟨A1, c1, rfl⟩ := h.ed.slice
  obtain ⟨A2, c2, rfl⟩ := h.nt.slice
  obtain ⟨A3, c3, rfl⟩ := h.co.slice
  obtain ⟨A4, c4, rfl⟩ := h.wi.slice
  have hle := h.ed.le
  have hln := h.nt.le
  unfold maxLen at hle hln
  have hed := Lib.hid h.ed
  have hnt := Lib.hid h.nt
  clear h
  unfold pcC at hcg ⊢
  go_enter Tryz.func45, Tryz.ntmps45
  go_wp2_with fail
  refine (hcg.out _ (hpc.out.ext ((Ext.refl w).alloc _))).mono ?_
  rintro e w1 ⟨v, rfl, hrd, hx⟩
  have hP := Lib.hid ((Blk.new w 44 (pcC p (.slice A1 p.edges.length c1) (.slice A2 p.notches.length c2) (.slice A3 p.corners.length c3) (.slice A4 p.widths.length c4)).toArray).ext hx)
  have hX := Lib.hid (((Ext.refl w).alloc (.cells (pcC p (.slice A1 p.edges.length c1) (.slice A2 p.notches.length c2) (.slice A3 p.corners.length c3) (.slice A4 p.widths.length c4)).toArray 44)).trans hx)
  clear hx hcg hpc
  by_cases hg : gradeE p m = 0
  rotate_left
  · have hn0 : (gradeE p m != 0) = true := bne_iff_ne.2 hg
    have hh := Lib.hid (placedE_bad hg)
    go_wp2
    go_ret3
    exact ⟨_, _, by rw [hh.out]; rfl, hX.out⟩
  rw [graded_ok hg] at hrd
  obtain ⟨hok1, hok2⟩ := gradeE_oks hg
  have hMany := Lib.hid (fun h => placedE_many hg h)
  have hRun := Lib.hid (fun h => placedE_run hg h)
  rw [hg]
  replace hg := Lib.hid hg
  replace hok1 := Lib.hid hok1
  replace hok2 := Lib.hid hok2
  obtain ⟨Ag, cg, rfl⟩ := hrd.slice
  have hgl := Lib.hid (gradedL_len p m)
  rw [hgl.out]
  have hgr := Lib.hid (show RdL 2 edP w1 (.slice Ag p.edges.length cg) (gradedL p m) by rw [hgl.out] at hrd; exact hrd)
  clear hrd
  obtain ⟨q0, q1, q2, q3, q4, q5, q6⟩ := hP.out.parts7
  have lP := hP.out.lt
  by_cases h16 : 16 < p.notches.length
  · have hh := Lib.hid (hMany.out h16)
    go_wp2
    go_ret3
    exact ⟨_, _, by rw [hh.out]; rfl, hX.out⟩
  have hrun := Lib.hid (hRun.out h16)
  go_wp2
  clear q0 q1 q2 q3 q4 q5 q6 lP
  go_loopw [9, 32] (fun u i wr => ∃ (k : Nat) (ys : List Int), k ≤ p.notches.length ∧ i = .int .i64 (k : Nat) ∧ ys.length ≤ k ∧ OwnL .i64 3 w1.heap.size wr u ys ∧ Pass (notchE p m) k ∧ Ext w1 wr) (fun _ i _ => p.notches.length - (intOf i).toNat)
  case atStart => exact ⟨0, [], Nat.zero_le _, rfl, Nat.le_refl _, OwnL.nil _ _ _ _, Pass.zero _, Ext.refl _⟩
  case round =>
    obtain ⟨k, ys, hk, rfl, hyl, hown, hup, hX1⟩ := hrel
    obtain ⟨Ay, cy, rfl⟩ := hown.slice
    by_cases hlt : k < p.notches.length
    · obtain ⟨b, o, rfl, d0, d1⟩ := hnt.out.nt k hlt
      have hOut := Lib.hid (fun h => hrun.out.trans (hup.hit hlt (notchE_out (m := m) hlt h) (by decide)))
      have hAt := Lib.hid (fun (j : Nat) hj he => notchE_at (m := m) (k := j) hlt hj he)
      have hHit := Lib.hid (fun h => hrun.out.trans (hup.hit (c := 3) hlt h (by decide)))
      have hNx := Lib.hid (fun h => hup.next (f := notchE p m) h)
      obtain ⟨f, hf⟩ : ∃ f, f = p.notches[k] := ⟨_, rfl⟩
      rw [← hf] at d0 d1 hOut hAt
      clear hf
      have hF := Lib.hid (hX.out.trans hX1)
      replace d0 := hF.out.cell d0
      replace d1 := hF.out.cell d1
      have lb : b < wr.heap.size := World.block_lt_of_cell? _ _ d0
      obtain ⟨q0, q1, q2, q3, q4, q5, q6⟩ := (hP.out.ext hX1).parts7
      have lP := (hP.out.ext hX1).lt
      have hki : (k : Int) < p.notches.length := by omega
      by_cases he0 : f.edge < 0
      · have hh := Lib.hid (hOut.out (by omega))
        replace hX1 := Lib.hid hX1
        go_wp2
        go_ret3
        exact ⟨_, _, by rw [hh.out]; rfl, hF.out.alloc _⟩
      by_cases he1 : (p.edges.length : Int) ≤ f.edge
      · have hh := Lib.hid (hOut.out (by omega))
        replace hX1 := Lib.hid hX1
        go_wp2
        go_ret3
        exact ⟨_, _, by rw [hh.out]; rfl, hF.out.alloc _⟩
      obtain ⟨j, hj⟩ : ∃ j : Nat, f.edge = (j : Int) := ⟨f.edge.toNat, by omega⟩
      have hjl : j < p.edges.length := by omega
      have hjg : j < (gradedL p m).length := by rw [hgl.out]; exact hjl
      have hat := Lib.hid (hAt.out j hjl hj)
      obtain ⟨be, oe, Le, me, rfl, hline, _, g0, g1⟩ := hed.out.edge j hjl
      obtain ⟨bg, og, Lg, mg, rfl, hline2, _, g2, g3⟩ := hgr.out.edge j hjg
      have hpl1 := hok1.out.pl j hjl
      have hpl2 := hok2.out.pl j hjg
      have hv1 := Lib.hid (lenV_ok hpl1)
      have hv2 := Lib.hid (lenV_ok hpl2)
      obtain ⟨ea, hea⟩ : ∃ e, e = p.edges[j] := ⟨_, rfl⟩
      obtain ⟨eb, heb⟩ : ∃ e, e = (gradedL p m)[j] := ⟨_, rfl⟩
      rw [← hea] at hline g0 g1 hpl1 hv1 hat
      rw [← heb] at hline2 g2 g3 hpl2 hv2 hat
      clear hea heb
      have hcp := Lib.hid (fun w => c_partner (plLen ea.line) (plLen eb.line) f.at_ w)
      have hc1 := Lib.hid (fun w h => c_length (.slice Le ea.line.length me) ea.line w h)
      have hc2 := Lib.hid (fun w h => c_length (.slice Lg eb.line.length mg) eb.line w h)
      rw [hv1.out, hpl1] at hc1
      rw [hv2.out, hpl2] at hc2
      replace g0 := hF.out.cell g0
      replace g1 := hF.out.cell g1
      replace g2 := hX1.cell g2
      replace g3 := hX1.cell g3
      have lbe : be < wr.heap.size := World.block_lt_of_cell? _ _ g0
      have lbg : bg < wr.heap.size := World.block_lt_of_cell? _ _ g2
      have hji : (j : Int) < p.edges.length := by omega
      have hj0 : (0 : Int) ≤ j := by omega
      have hXs := Lib.hid hX1.size
      have hX1' := Lib.hid hX1
      clear hX1
      replace hup := Lib.hid hup
      replace hown := Lib.hid hown
      replace hpl1 := Lib.hid hpl1
      replace hpl2 := Lib.hid hpl2
      go_wp2_with fail
      refine (hc1.out _ (hline.ext spP.stays (hF.out.alloc _))).mono ?_
      rintro e w2 ⟨rfl, hx2⟩
      have hXw2 := Lib.hid (((Ext.refl wr).alloc (.cells #[.int .i64 (j : Int), .int .i64 f.at_] 116)).trans hx2)
      have hN := Lib.hid ((Blk.new wr 116 #[.int .i64 (j : Int), .int .i64 f.at_]).ext hx2)
      clear hx2 hline
      replace g2 := hXw2.out.cell g2
      replace g3 := hXw2.out.cell g3
      replace hgrw := Lib.hid (hline2.ext spP.stays (hX1'.out.trans hXw2.out))
      obtain ⟨n0, n1, _, _, _⟩ := hN.out.parts2
      have lN := hN.out.lt
      have lbg2 : bg < w2.heap.size := World.block_lt_of_cell? _ _ g2
      go_wp2_with fail
      refine (hc2.out _ hgrw.out).mono ?_
      rintro e w3 ⟨rfl, hx3⟩
      replace n1 := hx3.cell n1
      have lN3 := Nat.lt_of_lt_of_le lN hx3.size
      have hXw3 := Lib.hid (hXw2.out.trans hx3)
      clear hx3 hgrw
      by_cases hpt : partnerOk (plLen ea.line) (plLen eb.line) f.at_ = true
      rotate_left
      · have hpf : partnerOk (plLen ea.line) (plLen eb.line) f.at_ = false := by simpa using hpt
        have hh := Lib.hid (hHit.out (by rw [hat.out, hpf]; rfl))
        go_wp2_with fail
        refine (hcp.out _).mono ?_
        rintro e w4 ⟨⟨hp1, _⟩ | ⟨_, rfl⟩, hx4⟩
        · rw [hpf] at hp1; exact absurd hp1 (by decide)
        replace hXw3 := Lib.hid (hXw3.out.trans hx4)
        clear hx4
        go_wp2
        go_ret3
        exact ⟨_, _, by rw [hh.out]; rfl, (hF.out.trans hXw3.out)⟩
      · have hnx := Lib.hid (hNx.out (by rw [hat.out, hpt]; rfl))
        go_wp2_with fail
        refine (hcp.out _).mono ?_
        rintro e w4 ⟨⟨_, y, rfl⟩ | ⟨hp1, _⟩, hx4⟩
        rotate_left
        · rw [hpt] at hp1; exact absurd hp1 (by decide)
        have ho1 := Lib.hid (hown.out.ext (hXw3.out.trans hx4))
        have hx5 := Lib.hid (hX1'.out.trans (hXw3.out.trans hx4))
        clear hx4
        go_wp2_with (at_builtin; refine wpList_app1 rfl (.tmp 85) (.tmp 87) 23 rfl .i64 3 w1.heap.size 8 Tryz.underlying23 info_int (by decide) _ ys y w4.heap.size 1 rfl (ho1.out.alloc _) rfl ?_ ?_ ?_ ?_; (simp); (omega); (have := hx5.out.size; simp; omega); (intro A2 cap2 w5 ho hg hat2))
        go_roundw
        case rel => exact ⟨k + 1, ys ++ [y], by omega, by go_num, by simp; omega, (by simpa using ho), hnx.out, (ho1.out.alloc _).extGrown (hx5.out.alloc _) (Nat.le_refl _) hg⟩
        case measure => simp [intOf]; omega
    · have hki : ¬ (k : Int) < p.notches.length := by omega
      have hd := Lib.hid (hrun.out.trans (hup.done hlt hk))
      replace hX1 := Lib.hid hX1
      replace hown := Lib.hid hown
      go_wp2
      go_ret3
      exact ⟨_, _, by rw [hd.out]; rfl, hX.out.trans hX1.out⟩

/-- how Placed ends -/
def PdOut (p : Pc) (m : Int) (w : World) (e : Ending) (w' : World) : Prop := ∃ v, e = .returned (.tuple #[v, .int .i64 (placedE p m)]) ∧ Ext w w'

set_option maxHeartbeats 1000000 in
theorem c_Placed (p : Pc) (v1 v2 v3 v4 : Value) (m : Int) (w : World) (h : PcR w p v1 v2 v3 v4) : Calls Tryz.prog 31 #[.agg (pcC p v1 v2 v3 v4).toArray, .int .i64 m] w (PdOut p m w) := by
  have hcg := Lib.hid (fun w h => c_placed p v1 v2 v3 v4 m w h)
  replace h := Lib.hid h
  unfold pcC at hcg ⊢
  go_enter Tryz.func31, Tryz.ntmps31
  go_wp2_with fail
  refine (hcg.out _ (h.out.ext ((Ext.refl w).alloc _))).mono ?_
  rintro e w1 ⟨v, u, rfl, hx⟩
  replace hx := Lib.hid (((Ext.refl w).alloc _).trans hx)
  go_wp2
  go_ret2
  exact ⟨_, rfl, hx.out⟩

end Go.Proofs.YtiahfiopigjolaaGreat
