/- Contract of seam.Lengths. -/
import Derived.Test.YtiahfiopigjolaaGreatLaw
import Derived.Test.YtiahfiopigjolaaGreatLng
namespace Go.Proofs.YtiahfiopigjolaaGreat
open Go Go.RowKit

/-- how Lengths ends: the error, and the lengths where there is none -/
def lsE (s : St) (m : Int) (f : Sm) : Int := if gradeE (nth s.pieces f.pa.toNat) m = 0 then gradeE (nth s.pieces f.pb.toNat) m else gradeE (nth s.pieces f.pa.toNat) m
def lsA (s : St) (m : Int) (f : Sm) : Int := lenN (nth s.pieces f.pa.toNat) m f.ea
def lsB (s : St) (m : Int) (f : Sm) : Int := lenN (nth s.pieces f.pb.toNat) m f.eb
def LsOut (s : St) (m : Int) (f : Sm) (w : World) (e : Ending) (w' : World) : Prop :=
  (lsE s m f = 0 ∧ e = .returned (.tuple #[.int .i64 (lsA s m f), .int .i64 (lsB s m f), .int .i64 0]) ∨ ¬ lsE s m f = 0 ∧ e = .returned (.tuple #[.int .i64 0, .int .i64 0, .int .i64 (lsE s m f)])) ∧ Ext w w'
theorem lenN_in {p : Pc} {m : Int} {k : Nat} (hk : k < p.edges.length) : 0 ≤ lenN p m k ∧ lenN p m k ≤ 171798691840 := by
  by_cases hg : gradeE p m = 0
  · have hkg : k < (gradedL p m).length := by rw [gradedL_len]; exact hk
    rw [lenN_ok hg, lineAt_eq hkg]
    exact plLen_in ((gradeE_oks hg).2.line k hkg)
  · rw [lenN_bad hg]; omega

set_option maxRecDepth 100000 in
set_option maxHeartbeats 2000000 in
theorem c_Lengths (s : St) (v1 v2 v3 v4 v5 v6 : Value) (z k : Nat) (w : World) (h : StR w s v1 v2 v3 v4 v5 v6) (hok : StOk s) (hz : z < s.mults.length) (hk : k < s.seams.length) : Calls Tryz.prog 27 #[.agg (stC s v1 v2 v3 v4 v5 v6).toArray, .int .i64 z, .int .i64 k] w (LsOut s s.mults[z] s.seams[k] w) := by
  have hcs := Lib.hid (fun w h => c_smSize s v1 v2 v3 v4 v5 v6 z w h)
  have hce := Lib.hid (fun a b w h => c_smEdge s v1 v2 v3 v4 v5 v6 a b w h)
  have hst := Lib.hid h
  obtain ⟨A1, c1, rfl⟩ := h.sz.slice
  obtain ⟨A2, c2, rfl⟩ := h.mu.slice
  obtain ⟨A3, c3, rfl⟩ := h.pc.slice
  obtain ⟨A4, c4, rfl⟩ := h.us.slice
  obtain ⟨A5, c5, rfl⟩ := h.sm.slice
  obtain ⟨A6, c6, rfl, hops⟩ := h.op
  have hl2 := h.mu.le
  have hl3 := h.pc.le
  have hl5 := h.sm.le
  unfold maxLen at hl2 hl3 hl5 hops
  have hpc := Lib.hid h.pc
  obtain ⟨bm, om, rfl, m0⟩ := h.mu.int z hz
  obtain ⟨bs, os, rfl, s0, s1, s2, s3, s4, s5⟩ := h.sm.sm k hk
  obtain ⟨hea, heb⟩ := hok.seam k hk
  clear h hok
  obtain ⟨f, hf⟩ : ∃ f, f = s.seams[k] := ⟨_, rfl⟩
  obtain ⟨m, hm⟩ : ∃ m, m = s.mults[z] := ⟨_, rfl⟩
  rw [← hf] at s0 s1 s2 s3 s4 s5 hea heb ⊢
  rw [← hm] at m0 ⊢
  clear hf hm
  obtain ⟨a, ea, ha, ea1, ea2, hea3⟩ := edgeB_nat hea
  obtain ⟨b, eb, hb, eb1, eb2, heb3⟩ := edgeB_nat heb
  rw [ea1] at s0
  rw [ea2] at s1
  rw [eb1] at s2
  rw [eb2] at s3
  rw [ea1, ea2] at hea
  rw [eb1, eb2] at heb
  replace ea1 := Lib.hid ea1
  replace ea2 := Lib.hid ea2
  replace eb1 := Lib.hid eb1
  replace eb2 := Lib.hid eb2
  have hm0 := Lib.hid m0
  have hzi : (z : Int) < s.mults.length := by omega
  have hz0 : (0 : Int) ≤ z := by omega
  have hki : (k : Int) < s.seams.length := by omega
  have hk0 : (0 : Int) ≤ k := by omega
  have hd : decide ((0 : Int) ≤ (z : Int) ∧ (z : Int) < (s.mults.length : Int)) = true := decide_eq_true ⟨hz0, hzi⟩
  unfold stC at hcs hce ⊢
  rw [hd] at hcs
  clear hd
  have lm := World.block_lt_of_cell? _ _ m0
  have ls := World.block_lt_of_cell? _ _ s0
  go_enter Tryz.func27, Tryz.ntmps27
  go_wp2_with fail
  refine (hcs.out _ (hst.out.ext ((Ext.refl w).alloc _))).mono ?_
  rintro e w1 ⟨rfl, hx⟩
  have hP := Lib.hid ((Blk.new w 29 (stC s (.slice A1 s.sizes.length c1) (.slice (some ⟨bm, om, none⟩) s.mults.length c2) (.slice A3 s.pieces.length c3) (.slice A4 s.uses.length c4) (.slice (some ⟨bs, os, none⟩) s.seams.length c5) (.slice A6 s.nops c6)).toArray).ext hx)
  have hX := Lib.hid (((Ext.refl w).alloc (.cells (stC s (.slice A1 s.sizes.length c1) (.slice (some ⟨bm, om, none⟩) s.mults.length c2) (.slice A3 s.pieces.length c3) (.slice A4 s.uses.length c4) (.slice (some ⟨bs, os, none⟩) s.seams.length c5) (.slice A6 s.nops c6)).toArray 29)).trans hx)
  clear hx hcs
  obtain ⟨q0, q1, q2, q3, q4, q5, q6⟩ := hP.out.parts7
  have lP := hP.out.lt
  replace m0 := hX.out.cell m0
  replace s0 := hX.out.cell s0
  replace s1 := hX.out.cell s1
  replace s2 := hX.out.cell s2
  replace s3 := hX.out.cell s3
  replace s4 := hX.out.cell s4
  replace s5 := hX.out.cell s5
  replace lm := World.block_lt_of_cell? _ _ m0
  replace ls := World.block_lt_of_cell? _ _ s0
  go_wp2_with fail
  obtain ⟨wB, hwB⟩ : ∃ wB, wB = w1.alloc (.cells #[.int .i64 a, .int .i64 ea, .int .i64 b, .int .i64 eb, .bool f.rev, .int .i64 f.ease] 55) := ⟨_, rfl⟩
  have hV := Lib.hid (show Blk wB w1.heap.size 55 #[.int .i64 a, .int .i64 ea, .int .i64 b, .int .i64 eb, .bool f.rev, .int .i64 f.ease] from hwB ▸ Blk.new _ _ _)
  have hXB := Lib.hid (show Ext w wB from hwB ▸ hX.out.alloc _)
  have hE1B := Lib.hid (show Ext w1 wB from hwB ▸ (Ext.refl w1).alloc _)
  rw [← hwB]
  clear hwB q0 q1 q2 q3 q4 q5 q6 lP s0 s1 s2 s3 s4 s5
  refine (hce.out _ _ _ (hst.out.ext hXB.out)).mono ?_
  rintro e w4 ⟨rfl, hx⟩
  rw [hea]
  have hE14 := Lib.hid (hE1B.out.trans hx)
  have hX4 := Lib.hid (hXB.out.trans hx)
  have hV4 := Lib.hid (hV.out.ext hx)
  clear hx
  obtain ⟨p0, p1, p2, p3, p4, p5⟩ := hV4.out.parts6
  have lV := hV4.out.lt
  obtain ⟨q0, q1, q2, q3, q4, q5, q6⟩ := (hP.out.ext hE14.out).parts7
  have lP := (hP.out.ext hE14.out).lt
  go_wp2_with fail
  refine (hce.out _ _ _ (hst.out.ext hX4.out)).mono ?_
  rintro e w5 ⟨rfl, hx⟩
  rw [heb]
  have hE15 := Lib.hid (hE14.out.trans hx)
  have hX5 := Lib.hid (hX4.out.trans hx)
  have hV5 := Lib.hid (hV4.out.ext hx)
  clear hx p0 p1 p2 p3 p4 p5 lV q0 q1 q2 q3 q4 q5 q6 lP
  have hP5 := Lib.hid (hP.out.ext hE15.out)
  obtain ⟨p0, p1, p2, p3, p4, p5⟩ := hV5.out.parts6
  have lV := hV5.out.lt
  obtain ⟨q0, q1, q2, q3, q4, q5, q6⟩ := hP5.out.parts7
  have lP := hP5.out.lt
  replace m0 := hE15.out.cell m0
  replace lm := World.block_lt_of_cell? _ _ m0
  obtain ⟨bp, op, B1, e1, B2, e2, B3, e3, B4, e4, rfl, hr, g0, g1, g2, g3, g4, g5, g6⟩ := hpc.out.piece a ha
  obtain ⟨bp', op', C1, i1, C2, i2, C3, i3, C4, i4, eA, hr2, j0, j1, j2, j3, j4, j5, j6⟩ := hpc.out.piece b hb
  injection eA with eA
  injection eA with eA1 eA2 _
  subst eA1 eA2
  have hlA := Lib.hid (show lsA s m f = lenN s.pieces[a] m ea by unfold lsA; rw [ea1.out, ea2.out, Int.toNat_natCast, nth_eq s.pieces ha])
  have hlB := Lib.hid (show lsB s m f = lenN s.pieces[b] m eb by unfold lsB; rw [eb1.out, eb2.out, Int.toNat_natCast, nth_eq s.pieces hb])
  have hlE := Lib.hid (show lsE s m f = if gradeE s.pieces[a] m = 0 then gradeE s.pieces[b] m else gradeE s.pieces[a] m by unfold lsE; rw [ea1.out, eb1.out, Int.toNat_natCast, Int.toNat_natCast, nth_eq s.pieces ha, nth_eq s.pieces hb])
  obtain ⟨q, hq⟩ : ∃ q, q = s.pieces[a] := ⟨_, rfl⟩
  obtain ⟨r, hr0⟩ : ∃ r, r = s.pieces[b] := ⟨_, rfl⟩
  rw [← hq] at hr g0 g1 g2 g3 g4 g5 g6 hlA hlE hea3
  rw [← hr0] at hr2 j0 j1 j2 j3 j4 j5 j6 hlB hlE heb3
  clear hq hr0
  have hcq := Lib.hid (fun w h => c_smLength q (.slice B1 q.edges.length e1) (.slice B2 q.notches.length e2) (.slice B3 q.corners.length e3) (.slice B4 q.widths.length e4) m ea hea3 w h)
  have hcr := Lib.hid (fun w h => c_smLength r (.slice C1 r.edges.length i1) (.slice C2 r.notches.length i2) (.slice C3 r.corners.length i3) (.slice C4 r.widths.length i4) m eb heb3 w h)
  unfold pcC at hcq hcr
  replace g0 := hX5.out.cell g0
  replace g1 := hX5.out.cell g1
  replace g2 := hX5.out.cell g2
  replace g3 := hX5.out.cell g3
  replace g4 := hX5.out.cell g4
  replace g5 := hX5.out.cell g5
  replace g6 := hX5.out.cell g6
  replace hr := Lib.hid hr
  replace hr2 := Lib.hid hr2
  replace j0 := Lib.hid j0
  replace j1 := Lib.hid j1
  replace j2 := Lib.hid j2
  replace j3 := Lib.hid j3
  replace j4 := Lib.hid j4
  replace j5 := Lib.hid j5
  replace j6 := Lib.hid j6
  have lg := World.block_lt_of_cell? _ _ g0
  have hai : (a : Int) < s.pieces.length := by omega
  have ha0 : (0 : Int) ≤ a := by omega
  have hN : w5.heap.size ≤ w5.heap.size := Nat.le_refl _
  have hNw := Lib.hid hX5.out.size
  go_wp2_with fail
  go_region_held3 (fun w' => (∀ b o, b < w5.heap.size → w'.cell? ⟨b, o, none⟩ = w5.cell? ⟨b, o, none⟩) ∧ Kp w5.heap.size w5 w')
    (first
      | exact (Kp.start hN).drew.both
      | (go_split_ands; exact ((by assumption : Kp _ _ _).call he).both)
      | assumption)
    (first
      | (go_at_call 41; go_split_ands; with_reducible refine (hcq.out _ (hr.out.ext ((by assumption : Kp _ _ _).ext hX5.out hNw.out))).mono ?_; rintro e w6 ⟨rfl, he⟩))
  go_split_ands
  have hE6 := Lib.hid ((by assumption : Kp _ _ w6).ext (Ext.refl w5) (Nat.le_refl _))
  clear p0 p1 p2 p3 p4 p5 lV q0 q1 q2 q3 q4 q5 q6 lP he hN m0 lm g0 g1 g2 g3 g4 g5 g6 lg
  have hX6 := Lib.hid (hX5.out.trans hE6.out)
  by_cases hga : gradeE q m = 0
  rotate_left
  · have hn0 : (gradeE q m != 0) = true := bne_iff_ne.2 hga
    have hh := Lib.hid (hlE.out.trans (if_neg hga))
    have hgh := Lib.hid hga
    clear hga
    go_wp2
    go_ret3
    exact ⟨.inr ⟨by rw [hh.out]; exact hgh.out, by rw [hh.out]; rfl⟩, hX6.out⟩
  replace hlE := Lib.hid (hlE.out.trans (if_pos hga))
  rw [hga]
  replace hga := Lib.hid hga
  obtain ⟨p0, p1, p2, p3, p4, p5⟩ := (hV5.out.ext hE6.out).parts6
  have lV := (hV5.out.ext hE6.out).lt
  obtain ⟨q0, q1, q2, q3, q4, q5, q6⟩ := (hP5.out.ext hE6.out).parts7
  have lP := (hP5.out.ext hE6.out).lt
  have m0 := hX6.out.cell hm0.out
  have lm := World.block_lt_of_cell? _ _ m0
  replace j0 := hX6.out.cell j0.out
  replace j1 := hX6.out.cell j1.out
  replace j2 := hX6.out.cell j2.out
  replace j3 := hX6.out.cell j3.out
  replace j4 := hX6.out.cell j4.out
  replace j5 := hX6.out.cell j5.out
  replace j6 := hX6.out.cell j6.out
  have lg := World.block_lt_of_cell? _ _ j0
  have hbi : (b : Int) < s.pieces.length := by omega
  have hb0 : (0 : Int) ≤ b := by omega
  have hN : w6.heap.size ≤ w6.heap.size := Nat.le_refl _
  have hNw6 := Lib.hid hX6.out.size
  go_wp2_with fail
  go_region_held3 (fun w' => (∀ b o, b < w6.heap.size → w'.cell? ⟨b, o, none⟩ = w6.cell? ⟨b, o, none⟩) ∧ Kp w6.heap.size w6 w')
    (first
      | exact (Kp.start hN).drew.both
      | (go_split_ands; exact ((by assumption : Kp _ _ _).call he).both)
      | assumption)
    (first
      | (go_at_call 41; go_split_ands; with_reducible refine (hcr.out _ (hr2.out.ext ((by assumption : Kp _ _ _).ext hX6.out hNw6.out))).mono ?_; rintro e w7 ⟨rfl, he⟩))
  go_split_ands
  have hE7 := Lib.hid ((by assumption : Kp _ _ w7).ext (Ext.refl w6) (Nat.le_refl _))
  clear p0 p1 p2 p3 p4 p5 lV q0 q1 q2 q3 q4 q5 q6 lP he hN m0 lm j0 j1 j2 j3 j4 j5 j6 lg
  have hX7 := Lib.hid (hX6.out.trans hE7.out)
  by_cases hgb : gradeE r m = 0
  · have hh := Lib.hid (hlE.out.trans hgb)
    rw [hgb]
    replace hgb := Lib.hid hgb
    go_wp2
    go_ret3
    exact ⟨.inl ⟨hh.out, by rw [hlA.out, hlB.out]; rfl⟩, hX7.out⟩
  · have hn0 : (gradeE r m != 0) = true := bne_iff_ne.2 hgb
    have hgh := Lib.hid hgb
    clear hgb
    go_wp2
    go_ret3
    exact ⟨.inr ⟨by rw [hlE.out]; exact hgh.out, by rw [hlE.out]; rfl⟩, hX7.out⟩

end Go.Proofs.YtiahfiopigjolaaGreat
