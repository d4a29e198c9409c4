/- Contract of spec.Target. -/
import Derived.Test.YtiahfiopigjolaaGreatSpc
import Derived.Test.YtiahfiopigjolaaGreatTgt
namespace Go.Proofs.YtiahfiopigjolaaGreat
open Go Go.RowKit

/-- how Target ends -/
def taE (s : St) (p : Pm) (z : Int) : Int := if specE s [p] = 0 then (if 0 ≤ z ∧ z < s.sizes.length then targetE s p (nth s.mults z.toNat) else 3) else specE s [p]
def taN (s : St) (p : Pm) (z : Int) : Int := if specE s [p] = 0 then (if 0 ≤ z ∧ z < s.sizes.length then tgN s p (nth s.mults z.toNat) else 0) else 0
section
variable {s : St} {p : Pm} {z : Int}
theorem ta_bad (h : ¬ specE s [p] = 0) : taE s p z = specE s [p] ∧ taN s p z = 0 := ⟨by unfold taE; rw [if_neg h], by unfold taN; rw [if_neg h]⟩
theorem ta_out (h : specE s [p] = 0) (h2 : ¬ (0 ≤ z ∧ z < s.sizes.length)) : taE s p z = 3 ∧ taN s p z = 0 := ⟨by unfold taE; rw [if_pos h, if_neg h2], by unfold taN; rw [if_pos h, if_neg h2]⟩
theorem ta_run (h : specE s [p] = 0) (h2 : 0 ≤ z ∧ z < s.sizes.length) : taE s p z = targetE s p (nth s.mults z.toNat) ∧ taN s p z = tgN s p (nth s.mults z.toNat) := ⟨by unfold taE; rw [if_pos h, if_pos h2], by unfold taN; rw [if_pos h, if_pos h2]⟩
end

set_option maxRecDepth 100000 in
set_option maxHeartbeats 2000000 in
theorem c_Target (s : St) (v1 v2 v3 v4 v5 v6 : Value) (p : Pm) (u1 u2 : Value) (z : Int) (w : World) (h : StR w s v1 v2 v3 v4 v5 v6) (hp : PmR w p u1 u2) : Calls Tryz.prog 10 #[.agg (stC s v1 v2 v3 v4 v5 v6).toArray, .agg (pmC p u1 u2).toArray, .int .i64 z] w fun e w' => e = .returned (.tuple #[.int .i64 (taN s p z), .int .i64 (taE s p z)]) ∧ Ext w w' := by
  have hcs := Lib.hid (fun v w h h2 => c_spCheck s v1 v2 v3 v4 v5 v6 [p] v w h h2)
  have hct := Lib.hid (fun m w h h2 h3 => c_target s v1 v2 v3 v4 v5 v6 p u1 u2 m w h h2 h3)
  have hst := Lib.hid h
  have hpm := Lib.hid hp
  obtain ⟨A1, c1, rfl⟩ := h.sz.slice
  obtain ⟨A2, c2, rfl⟩ := h.mu.slice
  obtain ⟨A3, c3, rfl⟩ := h.pc.slice
  obtain ⟨A4, c4, rfl⟩ := h.us.slice
  obtain ⟨A5, c5, rfl⟩ := h.sm.slice
  obtain ⟨A6, c6, rfl, hops⟩ := h.op
  obtain ⟨A7, c7, rfl⟩ := hp.pc.slice
  obtain ⟨A8, c8, rfl⟩ := hp.ed.slice
  have hl1 := h.sz.le
  have hl2 := h.mu.le
  unfold maxLen at hl1 hl2 hops
  have hmu := Lib.hid h.mu
  clear h hp
  obtain ⟨W, hW⟩ : ∃ W, W = (w.alloc (.cells (stC s (.slice A1 s.sizes.length c1) (.slice A2 s.mults.length c2) (.slice A3 s.pieces.length c3) (.slice A4 s.uses.length c4) (.slice A5 s.seams.length c5) (.slice A6 s.nops c6)).toArray 29)).alloc (.cells (pmC p (.slice A7 p.pieces.length c7) (.slice A8 p.edges.length c8)).toArray 37) := ⟨_, rfl⟩
  have hX := Lib.hid (show Ext w W from hW ▸ ((Ext.refl w).alloc _).alloc _)
  have hPs := Lib.hid (show Blk W w.heap.size 29 (stC s (.slice A1 s.sizes.length c1) (.slice A2 s.mults.length c2) (.slice A3 s.pieces.length c3) (.slice A4 s.uses.length c4) (.slice A5 s.seams.length c5) (.slice A6 s.nops c6)).toArray from hW ▸ (Blk.new _ _ _).alloc _)
  have hPp := Lib.hid (show Blk W (w.heap.size + 1) 37 (pmC p (.slice A7 p.pieces.length c7) (.slice A8 p.edges.length c8)).toArray from hW ▸ Blk.at (by rw [size_alloc]))
  have hWs := Lib.hid (show W.heap.size = w.heap.size + 2 by rw [hW, size_alloc, size_alloc])
  unfold stC at hcs
  unfold stC pmC at hW hct
  unfold stC pmC
  go_enter Tryz.func10, Tryz.ntmps10
  go_wp2_with fail
  rw [← hW]
  clear hW
  have hX0 := Lib.hid (show Ext w (W.alloc (.cells (pmC p (.slice A7 p.pieces.length c7) (.slice A8 p.edges.length c8)).toArray 37)) from hX.out.alloc _)
  have hB := Lib.hid (show Blk (W.alloc (.cells (pmC p (.slice A7 p.pieces.length c7) (.slice A8 p.edges.length c8)).toArray 37)) (w.heap.size + 1 + 1) 37 (pmC p (.slice A7 p.pieces.length c7) (.slice A8 p.edges.length c8)).toArray from Blk.at (by rw [hWs.out]))
  have hPs1 := Lib.hid (show Blk (W.alloc (.cells (pmC p (.slice A7 p.pieces.length c7) (.slice A8 p.edges.length c8)).toArray 37)) w.heap.size 29 _ from hPs.out.alloc _)
  have hPp1 := Lib.hid (show Blk (W.alloc (.cells (pmC p (.slice A7 p.pieces.length c7) (.slice A8 p.edges.length c8)).toArray 37)) (w.heap.size + 1) 37 _ from hPp.out.alloc _)
  refine (hcs.out _ _ (hst.out.ext hX0.out) (rdPm_one hB.out (hpm.out.ext hX0.out))).mono ?_
  rintro e w1 ⟨rfl, hx⟩
  have hX1 := Lib.hid (hX0.out.trans hx)
  have hPs2 := Lib.hid (hPs1.out.ext hx)
  have hPp2 := Lib.hid (hPp1.out.ext hx)
  clear hx hcs
  by_cases hsp : specE s [p] = 0
  rotate_left
  · have hn0 : (specE s [p] != 0) = true := bne_iff_ne.2 hsp
    have h1 := Lib.hid (ta_bad (z := z) hsp).1
    have h2 := Lib.hid (ta_bad (z := z) hsp).2
    replace hsp := Lib.hid hsp
    go_wp2
    go_ret2
    exact ⟨by rw [h1.out, h2.out]; rfl, hX1.out⟩
  have hso := stOk_of (specE_style hsp)
  have hpo := Lib.hid (show PmOk s p from specE_at hsp (i := 0) (by simp))
  have hml := Lib.hid hso.mults
  clear hso
  have hOut := Lib.hid (fun h2 => ta_out (z := z) hsp h2)
  have hRun := Lib.hid (fun h2 => ta_run (z := z) hsp h2)
  rw [hsp]
  replace hsp := Lib.hid hsp
  obtain ⟨q0, q1, q2, q3, q4, q5, q6⟩ := hPs2.out.parts7
  have lP := hPs2.out.lt
  by_cases t1 : z < 0
  · have h1 := Lib.hid (hOut.out (by omega)).1
    have h2 := Lib.hid (hOut.out (by omega)).2
    go_wp2
    go_ret2
    exact ⟨by rw [h1.out, h2.out]; rfl, hX1.out⟩
  by_cases t2 : (s.sizes.length : Int) ≤ z
  · have h1 := Lib.hid (hOut.out (by omega)).1
    have h2 := Lib.hid (hOut.out (by omega)).2
    go_wp2
    go_ret2
    exact ⟨by rw [h1.out, h2.out]; rfl, hX1.out⟩
  obtain ⟨k, rfl⟩ : ∃ k : Nat, z = (k : Int) := ⟨z.toNat, by omega⟩
  have hkm : k < s.mults.length := by have := hml.out; omega
  have h1 := Lib.hid (hRun.out ⟨by omega, by omega⟩).1
  have h2 := Lib.hid (hRun.out ⟨by omega, by omega⟩).2
  replace h1 := Lib.hid (h1.out.trans (by rw [Int.toNat_natCast, nth_eq s.mults hkm]))
  replace h2 := Lib.hid (h2.out.trans (by rw [Int.toNat_natCast, nth_eq s.mults hkm]))
  obtain ⟨bm, om, rfl, m0⟩ := hmu.out.int k hkm
  obtain ⟨m, hm⟩ : ∃ m, m = s.mults[k] := ⟨_, rfl⟩
  rw [← hm] at m0 h1 h2
  clear hm
  replace m0 := hX1.out.cell m0
  have lm := World.block_lt_of_cell? _ _ m0
  have hki : (k : Int) < s.mults.length := by omega
  have hki2 : (k : Int) < s.sizes.length := by omega
  have hk0 : (0 : Int) ≤ k := by omega
  obtain ⟨r0, r1, r2, r3, r4⟩ := hPp2.out.parts5
  have lR := hPp2.out.lt
  have hN : w1.heap.size ≤ w1.heap.size := Nat.le_refl _
  have hNw := Lib.hid hX1.out.size
  go_wp2_with fail
  go_region_held3 (fun w' => (∀ b o, b < w1.heap.size → w'.cell? ⟨b, o, none⟩ = w1.cell? ⟨b, o, none⟩) ∧ Kp w1.heap.size w1 w')
    (first
      | exact (Kp.start hN).drew.both
      | (go_split_ands; exact ((by assumption : Kp _ _ _).call he).both)
      | assumption)
    (first
      | (go_at_call 25; go_split_ands; with_reducible refine (hct.out _ _ (hst.out.ext ((by assumption : Kp _ _ _).ext hX1.out hNw.out)) (hpm.out.ext ((by assumption : Kp _ _ _).ext hX1.out hNw.out)) hpo.out).mono ?_; rintro e w6 ⟨rfl, he⟩))
  go_split_ands
  have hE6 := Lib.hid ((by assumption : Kp _ _ w6).ext (Ext.refl w1) (Nat.le_refl _))
  clear r0 r1 r2 r3 r4 lR q0 q1 q2 q3 q4 q5 q6 lP he hN m0 lm
  go_wp2
  go_ret2
  exact ⟨by rw [h1.out, h2.out]; rfl, hX1.out.trans hE6.out⟩

end Go.Proofs.YtiahfiopigjolaaGreat
