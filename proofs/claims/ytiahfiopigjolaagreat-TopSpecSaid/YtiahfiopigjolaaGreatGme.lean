/- Contract of polygon.meet. -/
import Derived.Test.YtiahfiopigjolaaGreatGpa
namespace Go.Proofs.YtiahfiopigjolaaGreat
open Go Go.RowKit

set_option maxHeartbeats 4000000 in
theorem c_meet (a b c d : Sp) (w : World) (ha : InS a) (hb : InS b) (hc : InS c) (hd : InS d) : Calls Tryz.prog 60 #[spV a, spV b, spV c, spV d] w fun e w' => e = .returned (.bool (meetB a b c d)) ∧ Ext w w' := by
  have hc1 := Lib.hid (fun w => c_on a b c w ha hb hc)
  have hc2 := Lib.hid (fun w => c_on a b d w ha hb hd)
  have hc3 := Lib.hid (fun w => c_on c d a w hc hd ha)
  have hc4 := Lib.hid (fun w => c_on c d b w hc hd hb)
  have hc5 := Lib.hid (fun w => c_parted a b c d w ha hb hc hd)
  have hc6 := Lib.hid (fun w => c_parted c d a b w hc hd ha hb)
  unfold spV at hc1 hc2 hc3 hc4 hc5 hc6
  have hm := Lib.hid (show meetB a b c d = (onB a b c || (onB a b d || (onB c d a || (onB c d b || (partB a b c d && partB c d a b))))) from rfl)
  unfold spV
  go_enter Tryz.func60, Tryz.ntmps60
  obtain ⟨W, hW⟩ : ∃ W, W = ((((w.alloc (.cells (spC a).toArray 66)).alloc (.cells (spC b).toArray 66)).alloc (.cells (spC c).toArray 66)).alloc (.cells (spC d).toArray 66)) := ⟨_, rfl⟩
  have hB0 := Lib.hid (show Blk W (w.heap.size) 66 (spC a).toArray from hW ▸ (((Blk.at (by simp)).alloc _).alloc _).alloc _)
  have hB1 := Lib.hid (show Blk W (w.heap.size + 1) 66 (spC b).toArray from hW ▸ ((Blk.at (by simp)).alloc _).alloc _)
  have hB2 := Lib.hid (show Blk W (w.heap.size + 2) 66 (spC c).toArray from hW ▸ (Blk.at (by simp)).alloc _)
  have hB3 := Lib.hid (show Blk W (w.heap.size + 3) 66 (spC d).toArray from hW ▸ Blk.at (by simp))
  have hX := Lib.hid (show Ext w W from hW ▸ ((((Ext.refl w).alloc _).alloc _).alloc _).alloc _)
  have hE := Lib.hid (Ext.refl W)
  unfold spC at hW
  go_wp2_with fail
  rw [← hW]
  clear hW
  refine (hc1.out _).mono ?_
  rintro e w1 ⟨rfl, hx⟩
  replace hE := Lib.hid (hE.out.trans hx)
  clear hx
  obtain ⟨p0, p1, l0⟩ := sp_cells (hB0.out.ext hE.out)
  obtain ⟨p2, p3, l1⟩ := sp_cells (hB1.out.ext hE.out)
  obtain ⟨p4, p5, l2⟩ := sp_cells (hB2.out.ext hE.out)
  obtain ⟨p6, p7, l3⟩ := sp_cells (hB3.out.ext hE.out)
  rcases h1 : onB a b c with _ | _
  rotate_left
  · go_wp2
    go_ret
    exact ⟨ret_bool (by rw [hm.out]; simp [h1]), hX.out.trans hE.out⟩
  go_wp2_with fail
  refine (hc2.out _).mono ?_
  rintro e w2 ⟨rfl, hx⟩
  replace hE := Lib.hid (hE.out.trans hx)
  clear hx
  clear p0 p1 p2 p3 p4 p5 p6 p7 l0 l1 l2 l3
  obtain ⟨p0, p1, l0⟩ := sp_cells (hB0.out.ext hE.out)
  obtain ⟨p2, p3, l1⟩ := sp_cells (hB1.out.ext hE.out)
  obtain ⟨p4, p5, l2⟩ := sp_cells (hB2.out.ext hE.out)
  obtain ⟨p6, p7, l3⟩ := sp_cells (hB3.out.ext hE.out)
  rcases h2 : onB a b d with _ | _
  rotate_left
  · go_wp2
    go_ret
    exact ⟨ret_bool (by rw [hm.out]; simp [h1, h2]), hX.out.trans hE.out⟩
  go_wp2_with fail
  refine (hc3.out _).mono ?_
  rintro e w3 ⟨rfl, hx⟩
  replace hE := Lib.hid (hE.out.trans hx)
  clear hx
  clear p0 p1 p2 p3 p4 p5 p6 p7 l0 l1 l2 l3
  obtain ⟨p0, p1, l0⟩ := sp_cells (hB0.out.ext hE.out)
  obtain ⟨p2, p3, l1⟩ := sp_cells (hB1.out.ext hE.out)
  obtain ⟨p4, p5, l2⟩ := sp_cells (hB2.out.ext hE.out)
  obtain ⟨p6, p7, l3⟩ := sp_cells (hB3.out.ext hE.out)
  rcases h3 : onB c d a with _ | _
  rotate_left
  · go_wp2
    go_ret
    exact ⟨ret_bool (by rw [hm.out]; simp [h1, h2, h3]), hX.out.trans hE.out⟩
  go_wp2_with fail
  refine (hc4.out _).mono ?_
  rintro e w4 ⟨rfl, hx⟩
  replace hE := Lib.hid (hE.out.trans hx)
  clear hx
  clear p0 p1 p2 p3 p4 p5 p6 p7 l0 l1 l2 l3
  obtain ⟨p0, p1, l0⟩ := sp_cells (hB0.out.ext hE.out)
  obtain ⟨p2, p3, l1⟩ := sp_cells (hB1.out.ext hE.out)
  obtain ⟨p4, p5, l2⟩ := sp_cells (hB2.out.ext hE.out)
  obtain ⟨p6, p7, l3⟩ := sp_cells (hB3.out.ext hE.out)
  rcases h4 : onB c d b with _ | _
  rotate_left
  · go_wp2
    go_ret
    exact ⟨ret_bool (by rw [hm.out]; simp [h1, h2, h3, h4]), hX.out.trans hE.out⟩
  go_wp2_with fail
  refine (hc5.out _).mono ?_
  rintro e w5 ⟨rfl, hx⟩
  replace hE := Lib.hid (hE.out.trans hx)
  clear hx
  clear p0 p1 p2 p3 p4 p5 p6 p7 l0 l1 l2 l3
  obtain ⟨p0, p1, l0⟩ := sp_cells (hB0.out.ext hE.out)
  obtain ⟨p2, p3, l1⟩ := sp_cells (hB1.out.ext hE.out)
  obtain ⟨p4, p5, l2⟩ := sp_cells (hB2.out.ext hE.out)
  obtain ⟨p6, p7, l3⟩ := sp_cells (hB3.out.ext hE.out)
  rcases h5 : partB a b c d with _ | _
  · go_wp2
    go_ret
    exact ⟨ret_bool (by rw [hm.out]; simp [h1, h2, h3, h4, h5]), hX.out.trans hE.out⟩
  go_wp2_with fail
  refine (hc6.out _).mono ?_
  rintro e w6 ⟨rfl, hx⟩
  replace hE := Lib.hid (hE.out.trans hx)
  clear hx
  clear p0 p1 p2 p3 p4 p5 p6 p7 l0 l1 l2 l3
  rcases h6 : partB c d a b with _ | _
  · go_wp2
    go_ret
    exact ⟨ret_bool (by rw [hm.out]; simp [h1, h2, h3, h4, h5, h6]), hX.out.trans hE.out⟩
  · go_wp2
    go_ret
    exact ⟨ret_bool (by rw [hm.out]; simp [h1, h2, h3, h4, h5, h6]), hX.out.trans hE.out⟩

end Go.Proofs.YtiahfiopigjolaaGreat
