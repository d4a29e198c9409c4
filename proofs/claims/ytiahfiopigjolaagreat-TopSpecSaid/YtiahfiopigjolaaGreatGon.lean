/- Contract of polygon.on. -/
import Derived.Test.YtiahfiopigjolaaGreatGeo
namespace Go.Proofs.YtiahfiopigjolaaGreat
open Go Go.RowKit

theorem sp_cells {w : World} {g : Nat} {t : TypeId} {s : Sp} (h : Blk w g t (spC s).toArray) : w.cell? ⟨g, 0, none⟩ = some (.int .i64 s.x) ∧ w.cell? ⟨g, 1, none⟩ = some (.int .i64 s.y) ∧ g < w.heap.size := ⟨h.cell 0, h.cell 1, h.lt⟩

set_option maxHeartbeats 1000000 in
theorem c_compare0 (n : Int) (w : World) : Calls Tryz.prog 87 #[.int .i64 n, .int .i64 0] w fun e w' => e = .returned (.int .i64 (sgn n)) ∧ w' = w := by
  have hd := Lib.hid (show sgn n = if n < 0 then -1 else if 0 < n then 1 else 0 from rfl)
  have e1 : (n == n) = true := by simp
  have e2 : (n != n) = false := by simp
  have e3 : ((0 : Int) != 0) = false := by simp
  by_cases h1 : n < 0
  · go_enter Tryz.func87, Tryz.ntmps87
    go_wp2
    go_ret
    exact ⟨ret_int (by rw [hd.out, if_pos h1]), rfl⟩
  · by_cases h2 : 0 < n
    · go_enter Tryz.func87, Tryz.ntmps87
      go_wp2
      go_ret
      exact ⟨ret_int (by rw [hd.out, if_neg (by omega), if_pos h2]), rfl⟩
    · go_enter Tryz.func87, Tryz.ntmps87
      go_wp2
      go_ret
      exact ⟨ret_int (by rw [hd.out, if_neg (by omega), if_neg (by omega)]), rfl⟩

set_option maxHeartbeats 2000000 in
theorem c_on (a b p : Sp) (w : World) (ha : InS a) (hb : InS b) (hp : InS p) : Calls Tryz.prog 75 #[spV a, spV b, spV p] w fun e w' => e = .returned (.bool (onB a b p)) ∧ Ext w w' := by
  have hcr := Lib.hid (fun w => c_cross a b p w ha hb hp)
  unfold spV at hcr
  have hd := Lib.hid (show onB a b p = (decide (cross a b p = 0) && (decide (min a.x b.x ≤ p.x) && (decide (p.x ≤ max a.x b.x) && (decide (min a.y b.y ≤ p.y) && decide (p.y ≤ max a.y b.y))))) from rfl)
  unfold spV
  go_enter Tryz.func75, Tryz.ntmps75
  obtain ⟨W, hW⟩ : ∃ W, W = (((w.alloc (.cells (spC a).toArray 66)).alloc (.cells (spC b).toArray 66)).alloc (.cells (spC p).toArray 66)) := ⟨_, rfl⟩
  have hB0 := Lib.hid (show Blk W (w.heap.size) 66 (spC a).toArray from hW ▸ ((Blk.at (by simp)).alloc _).alloc _)
  have hB1 := Lib.hid (show Blk W (w.heap.size + 1) 66 (spC b).toArray from hW ▸ (Blk.at (by simp)).alloc _)
  have hB2 := Lib.hid (show Blk W (w.heap.size + 2) 66 (spC p).toArray from hW ▸ Blk.at (by simp))
  have hX := Lib.hid (show Ext w W from hW ▸ (((Ext.refl w).alloc _).alloc _).alloc _)
  have hE := Lib.hid (Ext.refl W)
  unfold spC at hW
  go_wp2_with fail
  rw [← hW]
  clear hW
  refine (hcr.out _).mono ?_
  rintro e w1 ⟨rfl, hx⟩
  have hE := Lib.hid hx
  clear hx
  have hF := Lib.hid (hX.out.trans hE.out)
  obtain ⟨p0, p1, l0⟩ := sp_cells (hB0.out.ext hE.out)
  obtain ⟨p2, p3, l1⟩ := sp_cells (hB1.out.ext hE.out)
  obtain ⟨p4, p5, l2⟩ := sp_cells (hB2.out.ext hE.out)
  clear hcr
  obtain ⟨z, hz⟩ : ∃ z, z = cross a b p := ⟨_, rfl⟩
  rw [← hz] at hd ⊢
  clear hz
  go_wp2
  all_goals
    go_ret
    exact ⟨ret_bool (by rw [hd.out, Bool.eq_iff_iff]; simp only [Bool.and_eq_true, decide_eq_true_eq, Bool.false_eq_true, false_iff]; omega), hF.out⟩

end Go.Proofs.YtiahfiopigjolaaGreat
