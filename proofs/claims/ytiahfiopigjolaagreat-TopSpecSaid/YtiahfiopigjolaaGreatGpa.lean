/- Contracts of polygon.folded, parted, meet. -/
import Derived.Test.YtiahfiopigjolaaGreatGon
import Derived.Deep.RegionHeld3
import Derived.Deep.DrawnRows
namespace Go.Proofs.YtiahfiopigjolaaGreat
open Go Go.RowKit
attribute [local go_sem ↓] Go.wp_at_zero Go.wp_at_succ

set_option maxHeartbeats 2000000 in
theorem c_folded (a b c : Sp) (w : World) (ha : InS a) (hb : InS b) (hc : InS c) : Calls Tryz.prog 59 #[spV a, spV b, spV c] w fun e w' => e = .returned (.bool (foldB a b c)) ∧ Ext w w' := by
  have hcr := Lib.hid (fun w => c_cross a b c w ha hb hc)
  unfold spV at hcr
  have hd := Lib.hid (show foldB a b c = (decide (cross a b c = 0) && decide (0 < (a.x - b.x) * (c.x - b.x) + (a.y - b.y) * (c.y - b.y))) from rfl)
  obtain ⟨a0, a1, a2, a3⟩ := ha
  obtain ⟨b0, b1, b2, b3⟩ := hb
  obtain ⟨c0, c1, c2, c3⟩ := hc
  have m1 := mul_in (a := a.x - b.x) (b := c.x - b.x) (by omega) (by omega) (by omega) (by omega)
  have m2 := mul_in (a := a.y - b.y) (b := c.y - b.y) (by omega) (by omega) (by omega) (by omega)
  unfold spV
  go_enter Tryz.func59, Tryz.ntmps59
  obtain ⟨W, hW⟩ : ∃ W, W = (((w.alloc (.cells (spC a).toArray 66)).alloc (.cells (spC b).toArray 66)).alloc (.cells (spC c).toArray 66)) := ⟨_, rfl⟩
  have hB0 := Lib.hid (show Blk W (w.heap.size) 66 (spC a).toArray from hW ▸ ((Blk.at (by simp)).alloc _).alloc _)
  have hB1 := Lib.hid (show Blk W (w.heap.size + 1) 66 (spC b).toArray from hW ▸ (Blk.at (by simp)).alloc _)
  have hB2 := Lib.hid (show Blk W (w.heap.size + 2) 66 (spC c).toArray from hW ▸ Blk.at (by simp))
  have hX := Lib.hid (show Ext w W from hW ▸ (((Ext.refl w).alloc _).alloc _).alloc _)
  have hE := Lib.hid (Ext.refl W)
  unfold spC at hW
  go_wp2_with fail
  rw [← hW]
  clear hW
  refine (hcr.out _).mono ?_
  rintro e w1 ⟨rfl, hx⟩
  replace hE := Lib.hid hx
  clear hx
  have hF := Lib.hid (hX.out.trans hE.out)
  obtain ⟨p0, p1, l0⟩ := sp_cells (hB0.out.ext hE.out)
  obtain ⟨p2, p3, l1⟩ := sp_cells (hB1.out.ext hE.out)
  obtain ⟨p4, p5, l2⟩ := sp_cells (hB2.out.ext hE.out)
  clear hcr
  obtain ⟨z, hz⟩ : ∃ z, z = cross a b c := ⟨_, rfl⟩
  rw [← hz] at hd ⊢
  clear hz
  go_wp2
  all_goals
    go_ret
    exact ⟨ret_bool (by rw [hd.out, Bool.eq_iff_iff]; simp only [Bool.and_eq_true, decide_eq_true_eq, Bool.false_eq_true, false_iff]; omega), hF.out⟩

theorem sgn_in (n : Int) : -1 ≤ sgn n ∧ sgn n ≤ 1 := by unfold sgn; omega
theorem sgn_mul (m n : Int) : -1 ≤ sgn m * sgn n ∧ sgn m * sgn n ≤ 1 := by
  obtain ⟨h1, h2⟩ := sgn_in m
  obtain ⟨h3, h4⟩ := sgn_in n
  have e : sgn m = -1 ∨ sgn m = 0 ∨ sgn m = 1 := by omega
  rcases e with e | e | e <;> rw [e] <;> omega

set_option maxHeartbeats 4000000 in
theorem c_parted (a b c d : Sp) (w : World) (ha : InS a) (hb : InS b) (hc : InS c) (hd : InS d) : Calls Tryz.prog 76 #[spV a, spV b, spV c, spV d] w fun e w' => e = .returned (.bool (partB a b c d)) ∧ Ext w w' := by
  have hc1 := Lib.hid (fun w => c_cross a b c w ha hb hc)
  have hc2 := Lib.hid (fun w => c_cross a b d w ha hb hd)
  unfold spV at hc1 hc2
  have hp := Lib.hid (show partB a b c d = decide (sgn (cross a b c) * sgn (cross a b d) < 0) from rfl)
  have hm := sgn_mul (cross a b c) (cross a b d)
  unfold spV
  go_enter Tryz.func76, Tryz.ntmps76
  obtain ⟨W, hW⟩ : ∃ W, W = ((((w.alloc (.cells (spC a).toArray 66)).alloc (.cells (spC b).toArray 66)).alloc (.cells (spC c).toArray 66)).alloc (.cells (spC d).toArray 66)) := ⟨_, rfl⟩
  have hB0 := Lib.hid (show Blk W (w.heap.size) 66 (spC a).toArray from hW ▸ (((Blk.at (by simp)).alloc _).alloc _).alloc _)
  have hB1 := Lib.hid (show Blk W (w.heap.size + 1) 66 (spC b).toArray from hW ▸ ((Blk.at (by simp)).alloc _).alloc _)
  have hB2 := Lib.hid (show Blk W (w.heap.size + 2) 66 (spC c).toArray from hW ▸ (Blk.at (by simp)).alloc _)
  have hB3 := Lib.hid (show Blk W (w.heap.size + 3) 66 (spC d).toArray from hW ▸ Blk.at (by simp))
  have hX := Lib.hid (show Ext w W from hW ▸ ((((Ext.refl w).alloc _).alloc _).alloc _).alloc _)
  have hE := Lib.hid (Ext.refl W)
  unfold spC at hW
  go_wp2_with fail
  rw [← hW]
  clear hW
  obtain ⟨p0, p1, l0⟩ := sp_cells hB0.out
  obtain ⟨p2, p3, l1⟩ := sp_cells hB1.out
  obtain ⟨p4, p5, l2⟩ := sp_cells hB2.out
  obtain ⟨p6, p7, l3⟩ := sp_cells hB3.out
  obtain ⟨z1, hz1⟩ : ∃ z, z = cross a b c := ⟨_, rfl⟩
  obtain ⟨z2, hz2⟩ : ∃ z, z = cross a b d := ⟨_, rfl⟩
  rw [← hz1] at hp hm hc1
  rw [← hz2] at hp hm hc2
  clear hz1 hz2
  have hwr : IntKind.i64.wrap (sgn z1 * sgn z2) = sgn z1 * sgn z2 := IntWalk.i64_in _ (by omega)
  have hN : W.heap.size ≤ W.heap.size := Nat.le_refl _
  go_region_held3 (fun w' => (∀ b o, b < W.heap.size → w'.cell? ⟨b, o, none⟩ = W.cell? ⟨b, o, none⟩) ∧ Kp W.heap.size W w')
    (first
      | exact (Kp.start hN).drew.both
      | (go_split_ands; exact ((by assumption : Kp _ _ _).call he).both)
      | assumption)
    (first
      | (go_at_call 74; with_reducible refine (hc1.out _).mono ?_; rintro e w1 ⟨rfl, he⟩)
      | (go_at_call 74; with_reducible refine (hc2.out _).mono ?_; rintro e w1 ⟨rfl, he⟩)
      | (go_at_call 87; with_reducible refine (c_compare0 _ _).mono ?_; rintro e w1 ⟨rfl, rfl⟩))
  all_goals
    go_split_ands
    have hk := Lib.hid ((by assumption : Kp _ _ _).ext hX.out (hX.out.size))
    go_wp2
    all_goals
      go_ret
      exact ⟨ret_bool hp.out.symm, hk.out⟩

end Go.Proofs.YtiahfiopigjolaaGreat
