/- Contract of seam.length; blocks of points of measure. -/
import Derived.Test.YtiahfiopigjolaaGreatNtp
import Derived.Test.YtiahfiopigjolaaGreatEdg
namespace Go.Proofs.YtiahfiopigjolaaGreat
open Go Go.RowKit

/-- the length of edge k of the graded outline; 0 where there is none -/
def lenN (p : Pc) (m : Int) (k : Int) : Int := if gradeE p m = 0 then plLen (lineAt (gradedL p m) k) else 0
theorem lenN_bad {p : Pc} {m k : Int} (h : ¬ gradeE p m = 0) : lenN p m k = 0 := by unfold lenN; rw [if_neg h]
theorem lenN_ok {p : Pc} {m k : Int} (h : gradeE p m = 0) : lenN p m k = plLen (lineAt (gradedL p m) k) := by unfold lenN; rw [if_pos h]

set_option maxHeartbeats 1000000 in
theorem c_smLength (p : Pc) (v1 v2 v3 v4 : Value) (m : Int) (k : Nat) (hk : k < p.edges.length) (w : World) (h : PcR w p v1 v2 v3 v4) : Calls Tryz.prog 41 #[.agg (pcC p v1 v2 v3 v4).toArray, .int .i64 m, .int .i64 k] w fun e w' => e = .returned (.tuple #[.int .i64 (lenN p m k), .int .i64 (gradeE p m)]) ∧ Ext w w' := by
  have hcg := Lib.hid (fun w h => c_graded p v1 v2 v3 v4 m w h)
  have hpc := Lib.hid h
  obtain ⟨A1, c1, rfl⟩ := h.ed.slice
  obtain ⟨A2, c2, rfl⟩ := h.nt.slice
  obtain ⟨A3, c3, rfl⟩ := h.co.slice
  obtain ⟨A4, c4, rfl⟩ := h.wi.slice
  clear h
  unfold pcC at hcg ⊢
  go_enter Tryz.func41, Tryz.ntmps41
  go_wp2_with fail
  refine (hcg.out _ (hpc.out.ext ((Ext.refl w).alloc _))).mono ?_
  rintro e w1 ⟨v, rfl, hrd, hx⟩
  have hX := Lib.hid (((Ext.refl w).alloc (.cells (pcC p (.slice A1 p.edges.length c1) (.slice A2 p.notches.length c2) (.slice A3 p.corners.length c3) (.slice A4 p.widths.length c4)).toArray 44)).trans hx)
  clear hx hcg hpc
  by_cases hg : gradeE p m = 0
  rotate_left
  · have hn0 : (gradeE p m != 0) = true := bne_iff_ne.2 hg
    have hh := Lib.hid (lenN_bad (k := k) hg)
    go_wp2
    go_ret2
    exact ⟨by rw [hh.out]; rfl, hX.out⟩
  rw [graded_ok hg] at hrd
  have hok2 := (gradeE_oks hg).2
  have hgl := gradedL_len p m
  obtain ⟨Ag, cg, rfl⟩ := hrd.slice
  have hkg : k < (gradedL p m).length := by omega
  obtain ⟨bg, og, Lg, mg, rfl, hline, _, g2, g3⟩ := hrd.edge k hkg
  have hpl := hok2.pl k hkg
  have hv := Lib.hid (lenV_ok hpl)
  have hN := Lib.hid ((lenN_ok (k := k) hg).trans (by rw [lineAt_eq hkg] : _ = plLen ((gradedL p m)[k]).line))
  obtain ⟨ea, hea⟩ : ∃ e, e = (gradedL p m)[k] := ⟨_, rfl⟩
  rw [← hea] at hline g2 g3 hpl hv hN
  clear hea hrd hok2
  have hc2 := Lib.hid (fun w h => c_length (.slice Lg ea.line.length mg) ea.line w h)
  rw [hv.out, hpl] at hc2
  have lbg : bg < w1.heap.size := World.block_lt_of_cell? _ _ g2
  rw [hg]
  replace hg := Lib.hid hg
  rw [hgl]
  replace hgl := Lib.hid hgl
  have hki : (k : Int) < p.edges.length := by omega
  have hk0 : (0 : Int) ≤ k := by omega
  replace hpl := Lib.hid hpl
  replace hline := Lib.hid hline
  go_wp2_with fail
  refine (hc2.out _ hline.out).mono ?_
  rintro e w2 ⟨rfl, hx⟩
  go_wp2
  go_ret2
  exact ⟨by rw [hN.out, hg.out]; rfl, hX.out.trans hx⟩

/-- what a walk wants to know of a block of five or six cells -/
theorem Blk.parts5 {w : World} {g : Nat} {t : TypeId} {a b c d e : Value} (h : Blk w g t #[a, b, c, d, e]) :
    w.cell? ⟨g, 0, none⟩ = some a ∧ w.cell? ⟨g, 1, none⟩ = some b ∧ w.cell? ⟨g, 2, none⟩ = some c ∧ w.cell? ⟨g, 3, none⟩ = some d ∧ w.cell? ⟨g, 4, none⟩ = some e := ⟨h.cell 0, h.cell 1, h.cell 2, h.cell 3, h.cell 4⟩
theorem Blk.parts6 {w : World} {g : Nat} {t : TypeId} {a b c d e f : Value} (h : Blk w g t #[a, b, c, d, e, f]) :
    w.cell? ⟨g, 0, none⟩ = some a ∧ w.cell? ⟨g, 1, none⟩ = some b ∧ w.cell? ⟨g, 2, none⟩ = some c ∧ w.cell? ⟨g, 3, none⟩ = some d ∧ w.cell? ⟨g, 4, none⟩ = some e ∧ w.cell? ⟨g, 5, none⟩ = some f := ⟨h.cell 0, h.cell 1, h.cell 2, h.cell 3, h.cell 4, h.cell 5⟩
/-- what a walk reads of one point of measure -/
theorem RdL.pom {w : World} {A : Option Addr} {n c : Nat} {xs : List Pm} (h : RdL 5 pmP w (.slice A n c) xs) (j : Nat) (hj : j < xs.length) : ∃ b o A1 c1 A2 c2, A = some ⟨b, o, none⟩ ∧ PmR w xs[j] (.slice A1 xs[j].pieces.length c1) (.slice A2 xs[j].edges.length c2) ∧
    w.cell? ⟨b, o + j * 5, none⟩ = some (.string xs[j].name) ∧ w.cell? ⟨b, o + j * 5 + 1, none⟩ = some (.slice A1 xs[j].pieces.length c1) ∧ w.cell? ⟨b, o + j * 5 + 2, none⟩ = some (.slice A2 xs[j].edges.length c2) ∧
    w.cell? ⟨b, o + j * 5 + 3, none⟩ = some (.int .i64 xs[j].plus) ∧ w.cell? ⟨b, o + j * 5 + 4, none⟩ = some (.int .i64 xs[j].minus) := by
  obtain ⟨A', c', e, _, _, h3⟩ := h
  injection e with e1 _ _
  obtain ⟨b, o, cs, e2, ⟨v1, v2, hp, hr⟩, _, hc⟩ := h3 j hj
  subst hp
  obtain ⟨A1, c1, rfl⟩ := hr.pc.slice
  obtain ⟨A2, c2, rfl⟩ := hr.ed.slice
  exact ⟨b, o, A1, c1, A2, c2, e1.trans e2, hr, hc 0 (by omega), hc 1 (by omega), hc 2 (by omega), hc 3 (by omega), hc 4 (by omega)⟩
/-- a row of one point of measure that a call has made -/
theorem rdPm_one {w : World} {g : Nat} {p : Pm} {v1 v2 : Value} (h : Blk w g 37 (pmC p v1 v2).toArray) (hr : PmR w p v1 v2) : RdL 5 pmP w (.slice (some ⟨g, 0, none⟩) 1 1) [p] := by
  refine ⟨_, 1, rfl, by simp, by simp [maxLen], fun j hj => ⟨g, 0, pmC p v1 v2, rfl, ?_, rfl, fun i _ => ?_⟩⟩
  · have hj : j < 1 := hj
    obtain rfl : j = 0 := by omega
    exact ⟨v1, v2, rfl, hr⟩
  · have hj : j < 1 := hj
    obtain rfl : j = 0 := by omega
    rw [Nat.zero_mul, Nat.zero_add, h.cell]
    simp
/-- a row of one number that a call has made -/
theorem rdInt_one {w : World} {g : Nat} {a : Int} (h : Blk w g 3 #[.int .i64 a]) : RdL 1 inP w (.slice (some ⟨g, 0, none⟩) 1 1) [a] := by
  refine ⟨_, 1, rfl, by simp, by simp [maxLen], fun j hj => ⟨g, 0, [.int .i64 a], rfl, ?_, rfl, fun i _ => ?_⟩⟩
  · have hj : j < 1 := hj
    obtain rfl : j = 0 := by omega
    rfl
  · have hj : j < 1 := hj
    obtain rfl : j = 0 := by omega
    rw [Nat.zero_mul, Nat.zero_add, h.cell]
    simp

end Go.Proofs.YtiahfiopigjolaaGreat
