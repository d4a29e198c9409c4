/- Contract of sides: the outline of the example. -/
import Derived.Test.YtiahfiopigjolaaGreatEx
import Derived.Deep.Cut
namespace Go.Proofs.YtiahfiopigjolaaGreat
open Go Go.RowKit

theorem ex_line {w : World} {g : Nat} {a b c d : Int} (h : Blk w g 66 #[.int .i64 a, .int .i64 b, .int .i64 c, .int .i64 d]) : RdL 2 spP w (.slice (some ⟨g, 0, none⟩) 2 2) [⟨a, b⟩, ⟨c, d⟩] := by
  refine ⟨_, 2, rfl, by simp, by simp [maxLen], fun j hj => ⟨g, 0, spC ([(⟨a, b⟩ : Sp), ⟨c, d⟩][j]), rfl, rfl, rfl, fun i hi => ?_⟩⟩
  have hj : j < 2 := hj
  rw [h.cell]
  match j, hj, i, hi with
  | 0, _, 0, _ => rfl
  | 0, _, 1, _ => rfl
  | 1, _, 0, _ => rfl
  | 1, _, 1, _ => rfl
theorem ex_row {w : World} {g : Nat} {x0 x1 x2 x3 : Value} {l0 l1 l2 l3 : List Sp} (h0 : RdL 2 spP w x0 l0) (h1 : RdL 2 spP w x1 l1) (h2 : RdL 2 spP w x2 l2) (h3 : RdL 2 spP w x3 l3) (h : Blk w g 48 #[.string bLow, x0, .string bRight, x1, .string bHigh, x2, .string bLeft, x3]) : RdL 2 edP w (.slice (some ⟨g, 0, none⟩) 4 4) [⟨bLow, l0⟩, ⟨bRight, l1⟩, ⟨bHigh, l2⟩, ⟨bLeft, l3⟩] := by
  refine ⟨_, 4, rfl, by simp, by simp [maxLen], fun j hj => ?_⟩
  have hj : j < 4 := hj
  match j, hj with
  | 0, _ => exact ⟨g, 0, edC ⟨bLow, l0⟩ x0, rfl, ⟨x0, rfl, h0, by show bLow.size ≤ maxLen; decide⟩, rfl, fun i hi => by rw [h.cell]; match i, hi with
    | 0, _ => rfl
    | 1, _ => rfl⟩
  | 1, _ => exact ⟨g, 0, edC ⟨bRight, l1⟩ x1, rfl, ⟨x1, rfl, h1, by show bRight.size ≤ maxLen; decide⟩, rfl, fun i hi => by rw [h.cell]; match i, hi with
    | 0, _ => rfl
    | 1, _ => rfl⟩
  | 2, _ => exact ⟨g, 0, edC ⟨bHigh, l2⟩ x2, rfl, ⟨x2, rfl, h2, by show bHigh.size ≤ maxLen; decide⟩, rfl, fun i hi => by rw [h.cell]; match i, hi with
    | 0, _ => rfl
    | 1, _ => rfl⟩
  | 3, _ => exact ⟨g, 0, edC ⟨bLeft, l3⟩ x3, rfl, ⟨x3, rfl, h3, by show bLeft.size ≤ maxLen; decide⟩, rfl, fun i hi => by rw [h.cell]; match i, hi with
    | 0, _ => rfl
    | 1, _ => rfl⟩

set_option maxRecDepth 100000 in
set_option maxHeartbeats 60000000 in
theorem c_sides (w : World) : Calls Tryz.prog 32 #[.int .i64 10, .int .i64 8] w fun e w' => ∃ v, e = .returned v ∧ RdL 2 edP w' v exEdges ∧ Ext w w' := by
  go_enter Tryz.func32, Tryz.ntmps32
  go_wp2_with fail
  obtain ⟨W, hW⟩ : ∃ W, W = w.alloc (.cells #[.int .i64 0, .int .i64 0, .int .i64 10, .int .i64 0, .int .i64 10, .int .i64 8, .int .i64 0, .int .i64 8] 66) := ⟨_, rfl⟩
  have hX := Lib.hid (show Ext w W from hW ▸ (Ext.refl w).alloc _)
  have hB := Lib.hid (show Blk W w.heap.size 66 _ from hW ▸ Blk.new _ _ _)
  rw [← hW]
  clear hW
  have c0 : W.cell? ⟨w.heap.size, 0, none⟩ = some (.int .i64 0) := hB.out.cell 0
  have c1 : W.cell? ⟨w.heap.size, 1, none⟩ = some (.int .i64 0) := hB.out.cell 1
  have c2 : W.cell? ⟨w.heap.size, 2, none⟩ = some (.int .i64 10) := hB.out.cell 2
  have c3 : W.cell? ⟨w.heap.size, 3, none⟩ = some (.int .i64 0) := hB.out.cell 3
  have c4 : W.cell? ⟨w.heap.size, 4, none⟩ = some (.int .i64 10) := hB.out.cell 4
  have c5 : W.cell? ⟨w.heap.size, 5, none⟩ = some (.int .i64 8) := hB.out.cell 5
  have c6 : W.cell? ⟨w.heap.size, 6, none⟩ = some (.int .i64 0) := hB.out.cell 6
  have c7 : W.cell? ⟨w.heap.size, 7, none⟩ = some (.int .i64 8) := hB.out.cell 7
  have lB := hB.out.lt
  go_cut [4] from 15 (fun s4 wc => RdL 2 edP wc s4 exEdges ∧ Ext W wc)
  case first =>
    refine wp_region_held_drew (S := fun w' => (∀ b o, b < W.heap.size → w'.cell? ⟨b, o, none⟩ = W.cell? ⟨b, o, none⟩) ∧ Ext W w') (by kernel_rfl) ⟨fun b o hb => rfl, (Ext.refl W).drew⟩ (fun hHeld => ?_)
    refine wpAnyH_take (i := 0) (oi := ⟨some 15, _, _, _, _, _⟩) (v := ?_) rfl (by kernel_rfl) (by kernel_rfl) (by kernel_rfl) (fun _ _ _ h => h) (Or.inl ⟨by rfl, ?_⟩) hHeld ?_
    rotate_left
    · intro w hSw; go_simp; try with_reducible rfl
    try simp only [Act.put, List.setIfInBounds_toArray, List.set_cons_zero, List.set_cons_succ]
    refine wpAnyH_take (i := 1) (oi := ⟨some 16, _, _, _, _, _⟩) (v := ?_) rfl (by kernel_rfl) (by kernel_rfl) (by kernel_rfl) (fun _ _ _ h => h) (Or.inl ⟨by rfl, ?_⟩) hHeld ?_
    rotate_left
    · intro w hSw; go_simp; try with_reducible rfl
    try simp only [Act.put, List.setIfInBounds_toArray, List.set_cons_zero, List.set_cons_succ]
    refine wpAnyH_take (i := 2) (oi := ⟨some 17, _, _, _, _, _⟩) (v := ?_) rfl (by kernel_rfl) (by kernel_rfl) (by kernel_rfl) (fun _ _ _ h => h) (Or.inl ⟨by rfl, ?_⟩) hHeld ?_
    rotate_left
    · intro w hSw; go_simp; try with_reducible rfl
    try simp only [Act.put, List.setIfInBounds_toArray, List.set_cons_zero, List.set_cons_succ]
    refine wpAnyH_take (i := 3) (oi := ⟨some 18, _, _, _, _, _⟩) (v := ?_) rfl (by kernel_rfl) (by kernel_rfl) (by kernel_rfl) (fun _ _ _ h => h) (Or.inl ⟨by rfl, ?_⟩) hHeld ?_
    rotate_left
    · intro w hSw; go_simp; try with_reducible rfl
    try simp only [Act.put, List.setIfInBounds_toArray, List.set_cons_zero, List.set_cons_succ]
    refine wpAnyH_take (i := 4) (oi := ⟨some 19, _, _, _, _, _⟩) (v := ?_) rfl (by kernel_rfl) (by kernel_rfl) (by kernel_rfl) (fun _ _ _ h => h) (Or.inl ⟨by rfl, ?_⟩) hHeld ?_
    rotate_left
    · intro w hSw; go_simp; try with_reducible rfl
    try simp only [Act.put, List.setIfInBounds_toArray, List.set_cons_zero, List.set_cons_succ]
    refine wpAnyH_take (i := 5) (oi := ⟨some 20, _, _, _, _, _⟩) (v := ?_) rfl (by kernel_rfl) (by kernel_rfl) (by kernel_rfl) (fun _ _ _ h => h) (Or.inl ⟨by rfl, ?_⟩) hHeld ?_
    rotate_left
    · intro w hSw; go_simp; try with_reducible rfl
    try simp only [Act.put, List.setIfInBounds_toArray, List.set_cons_zero, List.set_cons_succ]
    refine wpAnyH_take (i := 8) (oi := ⟨some 23, _, _, _, _, _⟩) (v := ?_) rfl (by kernel_rfl) (by kernel_rfl) (by kernel_rfl) (fun _ _ _ h => h) (Or.inl ⟨by rfl, ?_⟩) hHeld ?_
    rotate_left
    · intro w hSw; go_simp; try with_reducible rfl
    try simp only [Act.put, List.setIfInBounds_toArray, List.set_cons_zero, List.set_cons_succ]
    refine wpAnyH_take (i := 9) (oi := ⟨some 24, _, _, _, _, _⟩) (v := ?_) rfl (by kernel_rfl) (by kernel_rfl) (by kernel_rfl) (fun _ _ _ h => h) (Or.inl ⟨by rfl, ?_⟩) hHeld ?_
    rotate_left
    · intro w hSw; go_simp; try with_reducible rfl
    try simp only [Act.put, List.setIfInBounds_toArray, List.set_cons_zero, List.set_cons_succ]
    refine wpAnyH_take (i := 10) (oi := ⟨some 25, _, _, _, _, _⟩) (v := ?_) rfl (by kernel_rfl) (by kernel_rfl) (by kernel_rfl) (fun _ _ _ h => h) (Or.inl ⟨by rfl, ?_⟩) hHeld ?_
    rotate_left
    · intro w hSw; go_simp; try with_reducible rfl
    try simp only [Act.put, List.setIfInBounds_toArray, List.set_cons_zero, List.set_cons_succ]
    refine wpAnyH_take (i := 11) (oi := ⟨some 26, _, _, _, _, _⟩) (v := ?_) rfl (by kernel_rfl) (by kernel_rfl) (by kernel_rfl) (fun _ _ _ h => h) (Or.inl ⟨by rfl, ?_⟩) hHeld ?_
    rotate_left
    · intro w hSw; go_simp; try with_reducible rfl
    try simp only [Act.put, List.setIfInBounds_toArray, List.set_cons_zero, List.set_cons_succ]
    refine wpAnyH_take (i := 12) (oi := ⟨some 27, _, _, _, _, _⟩) (v := ?_) rfl (by kernel_rfl) (by kernel_rfl) (by kernel_rfl) (fun _ _ _ h => h) (Or.inl ⟨by rfl, ?_⟩) hHeld ?_
    rotate_left
    · intro w hSw; go_simp; try with_reducible rfl
    try simp only [Act.put, List.setIfInBounds_toArray, List.set_cons_zero, List.set_cons_succ]
    refine wpAnyH_take (i := 13) (oi := ⟨some 28, _, _, _, _, _⟩) (v := ?_) rfl (by kernel_rfl) (by kernel_rfl) (by kernel_rfl) (fun _ _ _ h => h) (Or.inl ⟨by rfl, ?_⟩) hHeld ?_
    rotate_left
    · intro w hSw; go_simp; try with_reducible rfl
    try simp only [Act.put, List.setIfInBounds_toArray, List.set_cons_zero, List.set_cons_succ]
    refine wpAnyH_take (i := 16) (oi := ⟨some 31, _, _, _, _, _⟩) (v := ?_) rfl (by kernel_rfl) (by kernel_rfl) (by kernel_rfl) (fun _ _ _ h => h) (Or.inl ⟨by rfl, ?_⟩) hHeld ?_
    rotate_left
    · intro w hSw; go_simp; try with_reducible rfl
    try simp only [Act.put, List.setIfInBounds_toArray, List.set_cons_zero, List.set_cons_succ]
    refine wpAnyH_take (i := 17) (oi := ⟨some 32, _, _, _, _, _⟩) (v := ?_) rfl (by kernel_rfl) (by kernel_rfl) (by kernel_rfl) (fun _ _ _ h => h) (Or.inl ⟨by rfl, ?_⟩) hHeld ?_
    rotate_left
    · intro w hSw; go_simp; try with_reducible rfl
    try simp only [Act.put, List.setIfInBounds_toArray, List.set_cons_zero, List.set_cons_succ]
    refine wpAnyH_take (i := 18) (oi := ⟨some 33, _, _, _, _, _⟩) (v := ?_) rfl (by kernel_rfl) (by kernel_rfl) (by kernel_rfl) (fun _ _ _ h => h) (Or.inl ⟨by rfl, ?_⟩) hHeld ?_
    rotate_left
    · intro w hSw; go_simp; try with_reducible rfl
    try simp only [Act.put, List.setIfInBounds_toArray, List.set_cons_zero, List.set_cons_succ]
    refine wpAnyH_take (i := 19) (oi := ⟨some 34, _, _, _, _, _⟩) (v := ?_) rfl (by kernel_rfl) (by kernel_rfl) (by kernel_rfl) (fun _ _ _ h => h) (Or.inl ⟨by rfl, ?_⟩) hHeld ?_
    rotate_left
    · intro w hSw; go_simp; try with_reducible rfl
    try simp only [Act.put, List.setIfInBounds_toArray, List.set_cons_zero, List.set_cons_succ]
    refine wpAnyH_take (i := 20) (oi := ⟨some 35, _, _, _, _, _⟩) (v := ?_) rfl (by kernel_rfl) (by kernel_rfl) (by kernel_rfl) (fun _ _ _ h => h) (Or.inl ⟨by rfl, ?_⟩) hHeld ?_
    rotate_left
    · intro w hSw; go_simp; try with_reducible rfl
    try simp only [Act.put, List.setIfInBounds_toArray, List.set_cons_zero, List.set_cons_succ]
    refine wpAnyH_take (i := 21) (oi := ⟨some 36, _, _, _, _, _⟩) (v := ?_) rfl (by kernel_rfl) (by kernel_rfl) (by kernel_rfl) (fun _ _ _ h => h) (Or.inl ⟨by rfl, ?_⟩) hHeld ?_
    rotate_left
    · intro w hSw; go_simp; try with_reducible rfl
    try simp only [Act.put, List.setIfInBounds_toArray, List.set_cons_zero, List.set_cons_succ]
    refine wpAnyH_take (i := 24) (oi := ⟨some 39, _, _, _, _, _⟩) (v := ?_) rfl (by kernel_rfl) (by kernel_rfl) (by kernel_rfl) (fun _ _ _ h => h) (Or.inl ⟨by rfl, ?_⟩) hHeld ?_
    rotate_left
    · intro w hSw; go_simp; try with_reducible rfl
    try simp only [Act.put, List.setIfInBounds_toArray, List.set_cons_zero, List.set_cons_succ]
    refine wpAnyH_take (i := 25) (oi := ⟨some 40, _, _, _, _, _⟩) (v := ?_) rfl (by kernel_rfl) (by kernel_rfl) (by kernel_rfl) (fun _ _ _ h => h) (Or.inl ⟨by rfl, ?_⟩) hHeld ?_
    rotate_left
    · intro w hSw; go_simp; try with_reducible rfl
    try simp only [Act.put, List.setIfInBounds_toArray, List.set_cons_zero, List.set_cons_succ]
    refine wpAnyH_take (i := 26) (oi := ⟨some 41, _, _, _, _, _⟩) (v := ?_) rfl (by kernel_rfl) (by kernel_rfl) (by kernel_rfl) (fun _ _ _ h => h) (Or.inl ⟨by rfl, ?_⟩) hHeld ?_
    rotate_left
    · intro w hSw; go_simp; try with_reducible rfl
    try simp only [Act.put, List.setIfInBounds_toArray, List.set_cons_zero, List.set_cons_succ]
    refine wpAnyH_take (i := 27) (oi := ⟨some 42, _, _, _, _, _⟩) (v := ?_) rfl (by kernel_rfl) (by kernel_rfl) (by kernel_rfl) (fun _ _ _ h => h) (Or.inl ⟨by rfl, ?_⟩) hHeld ?_
    rotate_left
    · intro w hSw; go_simp; try with_reducible rfl
    try simp only [Act.put, List.setIfInBounds_toArray, List.set_cons_zero, List.set_cons_succ]
    refine wpAnyH_take (i := 28) (oi := ⟨some 43, _, _, _, _, _⟩) (v := ?_) rfl (by kernel_rfl) (by kernel_rfl) (by kernel_rfl) (fun _ _ _ h => h) (Or.inl ⟨by rfl, ?_⟩) hHeld ?_
    rotate_left
    · intro w hSw; go_simp; try with_reducible rfl
    try simp only [Act.put, List.setIfInBounds_toArray, List.set_cons_zero, List.set_cons_succ]
    refine wpAnyH_take (i := 29) (oi := ⟨some 44, _, _, _, _, _⟩) (v := ?_) rfl (by kernel_rfl) (by kernel_rfl) (by kernel_rfl) (fun _ _ _ h => h) (Or.inl ⟨by rfl, ?_⟩) hHeld ?_
    rotate_left
    · intro w hSw; go_simp; try with_reducible rfl
    try simp only [Act.put, List.setIfInBounds_toArray, List.set_cons_zero, List.set_cons_succ]
    have hE0 := Lib.hid hHeld.2
    clear c0 c1 c2 c3 c4 c5 c6 c7 lB hB
    generalize W.drew = w0 at hHeld hE0 ⊢
    refine wpAnyH_ready (rs := [6, 14, 22, 30]) (by kernel_rfl) (by simp) ?_
    refine AllReadyH.cons (o := ⟨some 21, _, _, _, _, _⟩) rfl (fun K hK => ?_) ?_
    · go_simp
      have hx : Ext w0 (w0.alloc (.cells #[.int .i64 0, .int .i64 0, .int .i64 10, .int .i64 0] 66)) := (Ext.refl _).alloc _
      have hE1 := Lib.hid (hE0.out.trans hx)
      have r0 := Lib.hid (ex_line (Blk.new w0 66 #[.int .i64 0, .int .i64 0, .int .i64 10, .int .i64 0]))
      refine hK.out _ _ ⟨fun b o hb => hE1.out.below.cell (p := ⟨b, o, none⟩) hb, hE1.out⟩ (fun hHeld => ?_)
      clear hK K hx
      generalize World.alloc w0 (.cells #[.int .i64 0, .int .i64 0, .int .i64 10, .int .i64 0] 66) = w1 at *
      generalize w0.heap.size = g0 at *
      try simp only [Act.put, List.setIfInBounds_toArray, List.set_cons_zero, List.set_cons_succ]
      refine wpAnyH_take (i := 7) (oi := ⟨some 22, _, _, _, _, _⟩) (v := ?_) rfl (by kernel_rfl) (by kernel_rfl) (by kernel_rfl) (fun _ _ _ h => h) (Or.inl ⟨by rfl, ?_⟩) hHeld ?_
      rotate_left
      · intro w hSw; go_simp; try with_reducible rfl
      try simp only [Act.put, List.setIfInBounds_toArray, List.set_cons_zero, List.set_cons_succ]
      refine wpAnyH_ready (rs := [14, 22, 30]) (by kernel_rfl) (by simp) ?_
      refine AllReadyH.cons (o := ⟨some 29, _, _, _, _, _⟩) rfl (fun K hK => ?_) ?_
      · go_simp
        have hx : Ext w1 (w1.alloc (.cells #[.int .i64 10, .int .i64 0, .int .i64 10, .int .i64 8] 66)) := (Ext.refl _).alloc _
        have hE2 := Lib.hid (hE1.out.trans hx)
        have r1 := Lib.hid (ex_line (Blk.new w1 66 #[.int .i64 10, .int .i64 0, .int .i64 10, .int .i64 8]))
        replace r0 := Lib.hid (r0.out.ext spP.stays hx)
        refine hK.out _ _ ⟨fun b o hb => hE2.out.below.cell (p := ⟨b, o, none⟩) hb, hE2.out⟩ (fun hHeld => ?_)
        clear hK K hx
        generalize World.alloc w1 (.cells #[.int .i64 10, .int .i64 0, .int .i64 10, .int .i64 8] 66) = w2 at *
        generalize w1.heap.size = g1 at *
        try simp only [Act.put, List.setIfInBounds_toArray, List.set_cons_zero, List.set_cons_succ]
        refine wpAnyH_take (i := 15) (oi := ⟨some 30, _, _, _, _, _⟩) (v := ?_) rfl (by kernel_rfl) (by kernel_rfl) (by kernel_rfl) (fun _ _ _ h => h) (Or.inl ⟨by rfl, ?_⟩) hHeld ?_
        rotate_left
        · intro w hSw; go_simp; try with_reducible rfl
        try simp only [Act.put, List.setIfInBounds_toArray, List.set_cons_zero, List.set_cons_succ]
        refine wpAnyH_ready (rs := [22, 30]) (by kernel_rfl) (by simp) ?_
        refine AllReadyH.cons (o := ⟨some 37, _, _, _, _, _⟩) rfl (fun K hK => ?_) ?_
        · go_simp
          have hx : Ext w2 (w2.alloc (.cells #[.int .i64 10, .int .i64 8, .int .i64 0, .int .i64 8] 66)) := (Ext.refl _).alloc _
          have hE3 := Lib.hid (hE2.out.trans hx)
          have r2 := Lib.hid (ex_line (Blk.new w2 66 #[.int .i64 10, .int .i64 8, .int .i64 0, .int .i64 8]))
          replace r0 := Lib.hid (r0.out.ext spP.stays hx)
          replace r1 := Lib.hid (r1.out.ext spP.stays hx)
          refine hK.out _ _ ⟨fun b o hb => hE3.out.below.cell (p := ⟨b, o, none⟩) hb, hE3.out⟩ (fun hHeld => ?_)
          clear hK K hx
          generalize World.alloc w2 (.cells #[.int .i64 10, .int .i64 8, .int .i64 0, .int .i64 8] 66) = w3 at *
          generalize w2.heap.size = g2 at *
          try simp only [Act.put, List.setIfInBounds_toArray, List.set_cons_zero, List.set_cons_succ]
          refine wpAnyH_take (i := 23) (oi := ⟨some 38, _, _, _, _, _⟩) (v := ?_) rfl (by kernel_rfl) (by kernel_rfl) (by kernel_rfl) (fun _ _ _ h => h) (Or.inl ⟨by rfl, ?_⟩) hHeld ?_
          rotate_left
          · intro w hSw; go_simp; try with_reducible rfl
          try simp only [Act.put, List.setIfInBounds_toArray, List.set_cons_zero, List.set_cons_succ]
          refine wpAnyH_ready (rs := [30]) (by kernel_rfl) (by simp) ?_
          refine AllReadyH.cons (o := ⟨some 45, _, _, _, _, _⟩) rfl (fun K hK => ?_) ?_
          · go_simp
            have hx : Ext w3 (w3.alloc (.cells #[.int .i64 0, .int .i64 8, .int .i64 0, .int .i64 0] 66)) := (Ext.refl _).alloc _
            have hE4 := Lib.hid (hE3.out.trans hx)
            have r3 := Lib.hid (ex_line (Blk.new w3 66 #[.int .i64 0, .int .i64 8, .int .i64 0, .int .i64 0]))
            replace r0 := Lib.hid (r0.out.ext spP.stays hx)
            replace r1 := Lib.hid (r1.out.ext spP.stays hx)
            replace r2 := Lib.hid (r2.out.ext spP.stays hx)
            refine hK.out _ _ ⟨fun b o hb => hE4.out.below.cell (p := ⟨b, o, none⟩) hb, hE4.out⟩ (fun hHeld => ?_)
            clear hK K hx
            generalize World.alloc w3 (.cells #[.int .i64 0, .int .i64 8, .int .i64 0, .int .i64 0] 66) = w4 at *
            generalize w3.heap.size = g3 at *
            try simp only [Act.put, List.setIfInBounds_toArray, List.set_cons_zero, List.set_cons_succ]
            refine wpAnyH_take (i := 31) (oi := ⟨some 46, _, _, _, _, _⟩) (v := ?_) rfl (by kernel_rfl) (by kernel_rfl) (by kernel_rfl) (fun _ _ _ h => h) (Or.inl ⟨by rfl, ?_⟩) hHeld ?_
            rotate_left
            · intro w hSw; go_simp; try with_reducible rfl
            try simp only [Act.put, List.setIfInBounds_toArray, List.set_cons_zero, List.set_cons_succ]
            refine wpAnyH_ready (rs := [32]) (by kernel_rfl) (by simp) (AllReadyH.cons (o := ⟨some 47, _, _, _, _, _⟩) rfl (fun K hK => ?_) AllReadyH.nil)
            go_simp
            refine hK.out _ _ ⟨fun b o hb => ((hE4.out.alloc _).below.cell (p := ⟨b, o, none⟩) hb), hE4.out.alloc _⟩ (fun hHeld => ?_)
            clear hK K
            try simp only [Act.put, List.setIfInBounds_toArray, List.set_cons_zero, List.set_cons_succ]
            refine wpAnyH_take (i := 33) (oi := ⟨some 4, _, _, _, _, _⟩) (v := ?_) rfl (by kernel_rfl) (by kernel_rfl) (by kernel_rfl) (fun _ _ _ h => h) (Or.inl ⟨by rfl, ?_⟩) hHeld ?_
            rotate_left
            · intro w hSw; go_simp; try with_reducible rfl
            try simp only [Act.put, List.setIfInBounds_toArray, List.set_cons_zero, List.set_cons_succ]
            refine wpAnyH_done (by kernel_rfl) ?_ _
            go_wp2_with fail
            go_meet
            exact ⟨ex_row (r0.out.ext spP.stays ((Ext.refl _).alloc _)) (r1.out.ext spP.stays ((Ext.refl _).alloc _)) (r2.out.ext spP.stays ((Ext.refl _).alloc _)) (r3.out.ext spP.stays ((Ext.refl _).alloc _)) (Blk.new _ _ _), hE4.out.alloc _⟩
          exact AllReadyH.nil
        refine AllReadyH.cons (o := ⟨some 45, _, _, _, _, _⟩) rfl (fun K hK => ?_) ?_
        · go_simp
          have hx : Ext w2 (w2.alloc (.cells #[.int .i64 0, .int .i64 8, .int .i64 0, .int .i64 0] 66)) := (Ext.refl _).alloc _
          have hE5 := Lib.hid (hE2.out.trans hx)
          have r3 := Lib.hid (ex_line (Blk.new w2 66 #[.int .i64 0, .int .i64 8, .int .i64 0, .int .i64 0]))
          replace r0 := Lib.hid (r0.out.ext spP.stays hx)
          replace r1 := Lib.hid (r1.out.ext spP.stays hx)
          refine hK.out _ _ ⟨fun b o hb => hE5.out.below.cell (p := ⟨b, o, none⟩) hb, hE5.out⟩ (fun hHeld => ?_)
          clear hK K hx
          generalize World.alloc w2 (.cells #[.int .i64 0, .int .i64 8, .int .i64 0, .int .i64 0] 66) = w5 at *
          generalize w2.heap.size = g3 at *
          try simp only [Act.put, List.setIfInBounds_toArray, List.set_cons_zero, List.set_cons_succ]
          refine wpAnyH_take (i := 31) (oi := ⟨some 46, _, _, _, _, _⟩) (v := ?_) rfl (by kernel_rfl) (by kernel_rfl) (by kernel_rfl) (fun _ _ _ h => h) (Or.inl ⟨by rfl, ?_⟩) hHeld ?_
          rotate_left
          · intro w hSw; go_simp; try with_reducible rfl
          try simp only [Act.put, List.setIfInBounds_toArray, List.set_cons_zero, List.set_cons_succ]
          refine wpAnyH_ready (rs := [22]) (by kernel_rfl) (by simp) ?_
          refine AllReadyH.cons (o := ⟨some 37, _, _, _, _, _⟩) rfl (fun K hK => ?_) ?_
          · go_simp
            have hx : Ext w5 (w5.alloc (.cells #[.int .i64 10, .int .i64 8, .int .i64 0, .int .i64 8] 66)) := (Ext.refl _).alloc _
            have hE6 := Lib.hid (hE5.out.trans hx)
            have r2 := Lib.hid (ex_line (Blk.new w5 66 #[.int .i64 10, .int .i64 8, .int .i64 0, .int .i64 8]))
            replace r0 := Lib.hid (r0.out.ext spP.stays hx)
            replace r1 := Lib.hid (r1.out.ext spP.stays hx)
            replace r3 := Lib.hid (r3.out.ext spP.stays hx)
            refine hK.out _ _ ⟨fun b o hb => hE6.out.below.cell (p := ⟨b, o, none⟩) hb, hE6.out⟩ (fun hHeld => ?_)
            clear hK K hx
            generalize World.alloc w5 (.cells #[.int .i64 10, .int .i64 8, .int .i64 0, .int .i64 8] 66) = w6 at *
            generalize w5.heap.size = g2 at *
            try simp only [Act.put, List.setIfInBounds_toArray, List.set_cons_zero, List.set_cons_succ]
            refine wpAnyH_take (i := 23) (oi := ⟨some 38, _, _, _, _, _⟩) (v := ?_) rfl (by kernel_rfl) (by kernel_rfl) (by kernel_rfl) (fun _ _ _ h => h) (Or.inl ⟨by rfl, ?_⟩) hHeld ?_
            rotate_left
            · intro w hSw; go_simp; try with_reducible rfl
            try simp only [Act.put, List.setIfInBounds_toArray, List.set_cons_zero, List.set_cons_succ]
            refine wpAnyH_ready (rs := [32]) (by kernel_rfl) (by simp) (AllReadyH.cons (o := ⟨some 47, _, _, _, _, _⟩) rfl (fun K hK => ?_) AllReadyH.nil)
            go_simp
            refine hK.out _ _ ⟨fun b o hb => ((hE6.out.alloc _).below.cell (p := ⟨b, o, none⟩) hb), hE6.out.alloc _⟩ (fun hHeld => ?_)
            clear hK K
            try simp only [Act.put, List.setIfInBounds_toArray, List.set_cons_zero, List.set_cons_succ]
            refine wpAnyH_take (i := 33) (oi := ⟨some 4, _, _, _, _, _⟩) (v := ?_) rfl (by kernel_rfl) (by kernel_rfl) (by kernel_rfl) (fun _ _ _ h => h) (Or.inl ⟨by rfl, ?_⟩) hHeld ?_
            rotate_left
            · intro w hSw; go_simp; try with_reducible rfl
            try simp only [Act.put, List.setIfInBounds_toArray, List.set_cons_zero, List.set_cons_succ]
            refine wpAnyH_done (by kernel_rfl) ?_ _
            go_wp2_with fail
            go_meet
            exact ⟨ex_row (r0.out.ext spP.stays ((Ext.refl _).alloc _)) (r1.out.ext spP.stays ((Ext.refl _).alloc _)) (r2.out.ext spP.stays ((Ext.refl _).alloc _)) (r3.out.ext spP.stays ((Ext.refl _).alloc _)) (Blk.new _ _ _), hE6.out.alloc _⟩
          exact AllReadyH.nil
        exact AllReadyH.nil
      refine AllReadyH.cons (o := ⟨some 37, _, _, _, _, _⟩) rfl (fun K hK => ?_) ?_
      · go_simp
        have hx : Ext w1 (w1.alloc (.cells #[.int .i64 10, .int .i64 8, .int .i64 0, .int .i64 8] 66)) := (Ext.refl _).alloc _
        have hE7 := Lib.hid (hE1.out.trans hx)
        have r2 := Lib.hid (ex_line (Blk.new w1 66 #[.int .i64 10, .int .i64 8, .int .i64 0, .int .i64 8]))
        replace r0 := Lib.hid (r0.out.ext spP.stays hx)
        refine hK.out _ _ ⟨fun b o hb => hE7.out.below.cell (p := ⟨b, o, none⟩) hb, hE7.out⟩ (fun hHeld => ?_)
        clear hK K hx
        generalize World.alloc w1 (.cells #[.int .i64 10, .int .i64 8, .int .i64 0, .int .i64 8] 66) = w7 at *
        generalize w1.heap.size = g2 at *
        try simp only [Act.put, List.setIfInBounds_toArray, List.set_cons_zero, List.set_cons_succ]
        refine wpAnyH_take (i := 23) (oi := ⟨some 38, _, _, _, _, _⟩) (v := ?_) rfl (by kernel_rfl) (by kernel_rfl) (by kernel_rfl) (fun _ _ _ h => h) (Or.inl ⟨by rfl, ?_⟩) hHeld ?_
        rotate_left
        · intro w hSw; go_simp; try with_reducible rfl
        try simp only [Act.put, List.setIfInBounds_toArray, List.set_cons_zero, List.set_cons_succ]
        refine wpAnyH_ready (rs := [14, 30]) (by kernel_rfl) (by simp) ?_
        refine AllReadyH.cons (o := ⟨some 29, _, _, _, _, _⟩) rfl (fun K hK => ?_) ?_
        · go_simp
          have hx : Ext w7 (w7.alloc (.cells #[.int .i64 10, .int .i64 0, .int .i64 10, .int .i64 8] 66)) := (Ext.refl _).alloc _
          have hE8 := Lib.hid (hE7.out.trans hx)
          have r1 := Lib.hid (ex_line (Blk.new w7 66 #[.int .i64 10, .int .i64 0, .int .i64 10, .int .i64 8]))
          replace r0 := Lib.hid (r0.out.ext spP.stays hx)
          replace r2 := Lib.hid (r2.out.ext spP.stays hx)
          refine hK.out _ _ ⟨fun b o hb => hE8.out.below.cell (p := ⟨b, o, none⟩) hb, hE8.out⟩ (fun hHeld => ?_)
          clear hK K hx
          generalize World.alloc w7 (.cells #[.int .i64 10, .int .i64 0, .int .i64 10, .int .i64 8] 66) = w8 at *
          generalize w7.heap.size = g1 at *
          try simp only [Act.put, List.setIfInBounds_toArray, List.set_cons_zero, List.set_cons_succ]
          refine wpAnyH_take (i := 15) (oi := ⟨some 30, _, _, _, _, _⟩) (v := ?_) rfl (by kernel_rfl) (by kernel_rfl) (by kernel_rfl) (fun _ _ _ h => h) (Or.inl ⟨by rfl, ?_⟩) hHeld ?_
          rotate_left
          · intro w hSw; go_simp; try with_reducible rfl
          try simp only [Act.put, List.setIfInBounds_toArray, List.set_cons_zero, List.set_cons_succ]
          refine wpAnyH_ready (rs := [30]) (by kernel_rfl) (by simp) ?_
          refine AllReadyH.cons (o := ⟨some 45, _, _, _, _, _⟩) rfl (fun K hK => ?_) ?_
          · go_simp
            have hx : Ext w8 (w8.alloc (.cells #[.int .i64 0, .int .i64 8, .int .i64 0, .int .i64 0] 66)) := (Ext.refl _).alloc _
            have hE9 := Lib.hid (hE8.out.trans hx)
            have r3 := Lib.hid (ex_line (Blk.new w8 66 #[.int .i64 0, .int .i64 8, .int .i64 0, .int .i64 0]))
            replace r0 := Lib.hid (r0.out.ext spP.stays hx)
            replace r2 := Lib.hid (r2.out.ext spP.stays hx)
            replace r1 := Lib.hid (r1.out.ext spP.stays hx)
            refine hK.out _ _ ⟨fun b o hb => hE9.out.below.cell (p := ⟨b, o, none⟩) hb, hE9.out⟩ (fun hHeld => ?_)
            clear hK K hx
            generalize World.alloc w8 (.cells #[.int .i64 0, .int .i64 8, .int .i64 0, .int .i64 0] 66) = w9 at *
            generalize w8.heap.size = g3 at *
            try simp only [Act.put, List.setIfInBounds_toArray, List.set_cons_zero, List.set_cons_succ]
            refine wpAnyH_take (i := 31) (oi := ⟨some 46, _, _, _, _, _⟩) (v := ?_) rfl (by kernel_rfl) (by kernel_rfl) (by kernel_rfl) (fun _ _ _ h => h) (Or.inl ⟨by rfl, ?_⟩) hHeld ?_
            rotate_left
            · intro w hSw; go_simp; try with_reducible rfl
            try simp only [Act.put, List.setIfInBounds_toArray, List.set_cons_zero, List.set_cons_succ]
            refine wpAnyH_ready (rs := [32]) (by kernel_rfl) (by simp) (AllReadyH.cons (o := ⟨some 47, _, _, _, _, _⟩) rfl (fun K hK => ?_) AllReadyH.nil)
            go_simp
            refine hK.out _ _ ⟨fun b o hb => ((hE9.out.alloc _).below.cell (p := ⟨b, o, none⟩) hb), hE9.out.alloc _⟩ (fun hHeld => ?_)
            clear hK K
            try simp only [Act.put, List.setIfInBounds_toArray, List.set_cons_zero, List.set_cons_succ]
            refine wpAnyH_take (i := 33) (oi := ⟨some 4, _, _, _, _, _⟩) (v := ?_) rfl (by kernel_rfl) (by kernel_rfl) (by kernel_rfl) (fun _ _ _ h => h) (Or.inl ⟨by rfl, ?_⟩) hHeld ?_
            rotate_left
            · intro w hSw; go_simp; try with_reducible rfl
            try simp only [Act.put, List.setIfInBounds_toArray, List.set_cons_zero, List.set_cons_succ]
            refine wpAnyH_done (by kernel_rfl) ?_ _
            go_wp2_with fail
            go_meet
            exact ⟨ex_row (r0.out.ext spP.stays ((Ext.refl _).alloc _)) (r1.out.ext spP.stays ((Ext.refl _).alloc _)) (r2.out.ext spP.stays ((Ext.refl _).alloc _)) (r3.out.ext spP.stays ((Ext.refl _).alloc _)) (Blk.new _ _ _), hE9.out.alloc _⟩
          exact AllReadyH.nil
        refine AllReadyH.cons (o := ⟨some 45, _, _, _, _, _⟩) rfl (fun K hK => ?_) ?_
        · go_simp
          have hx : Ext w7 (w7.alloc (.cells #[.int .i64 0, .int .i64 8, .int .i64 0, .int .i64 0] 66)) := (Ext.refl _).alloc _
          have hE10 := Lib.hid (hE7.out.trans hx)
          have r3 := Lib.hid (ex_line (Blk.new w7 66 #[.int .i64 0, .int .i64 8, .int .i64 0, .int .i64 0]))
          replace r0 := Lib.hid (r0.out.ext spP.stays hx)
          replace r2 := Lib.hid (r2.out.ext spP.stays hx)
          refine hK.out _ _ ⟨fun b o hb => hE10.out.below.cell (p := ⟨b, o, none⟩) hb, hE10.out⟩ (fun hHeld => ?_)
          clear hK K hx
          generalize World.alloc w7 (.cells #[.int .i64 0, .int .i64 8, .int .i64 0, .int .i64 0] 66) = w10 at *
          generalize w7.heap.size = g3 at *
          try simp only [Act.put, List.setIfInBounds_toArray, List.set_cons_zero, List.set_cons_succ]
          refine wpAnyH_take (i := 31) (oi := ⟨some 46, _, _, _, _, _⟩) (v := ?_) rfl (by kernel_rfl) (by kernel_rfl) (by kernel_rfl) (fun _ _ _ h => h) (Or.inl ⟨by rfl, ?_⟩) hHeld ?_
          rotate_left
          · intro w hSw; go_simp; try with_reducible rfl
          try simp only [Act.put, List.setIfInBounds_toArray, List.set_cons_zero, List.set_cons_succ]
          refine wpAnyH_ready (rs := [14]) (by kernel_rfl) (by simp) ?_
          refine AllReadyH.cons (o := ⟨some 29, _, _, _, _, _⟩) rfl (fun K hK => ?_) ?_
          · go_simp
            have hx : Ext w10 (w10.alloc (.cells #[.int .i64 10, .int .i64 0, .int .i64 10, .int .i64 8] 66)) := (Ext.refl _).alloc _
            have hE11 := Lib.hid (hE10.out.trans hx)
            have r1 := Lib.hid (ex_line (Blk.new w10 66 #[.int .i64 10, .int .i64 0, .int .i64 10, .int .i64 8]))
            replace r0 := Lib.hid (r0.out.ext spP.stays hx)
            replace r2 := Lib.hid (r2.out.ext spP.stays hx)
            replace r3 := Lib.hid (r3.out.ext spP.stays hx)
            refine hK.out _ _ ⟨fun b o hb => hE11.out.below.cell (p := ⟨b, o, none⟩) hb, hE11.out⟩ (fun hHeld => ?_)
            clear hK K hx
            generalize World.alloc w10 (.cells #[.int .i64 10, .int .i64 0, .int .i64 10, .int .i64 8] 66) = w11 at *
            generalize w10.heap.size = g1 at *
            try simp only [Act.put, List.setIfInBounds_toArray, List.set_cons_zero, List.set_cons_succ]
            refine wpAnyH_take (i := 15) (oi := ⟨some 30, _, _, _, _, _⟩) (v := ?_) rfl (by kernel_rfl) (by kernel_rfl) (by kernel_rfl) (fun _ _ _ h => h) (Or.inl ⟨by rfl, ?_⟩) hHeld ?_
            rotate_left
            · intro w hSw; go_simp; try with_reducible rfl
            try simp only [Act.put, List.setIfInBounds_toArray, List.set_cons_zero, List.set_cons_succ]
            refine wpAnyH_ready (rs := [32]) (by kernel_rfl) (by simp) (AllReadyH.cons (o := ⟨some 47, _, _, _, _, _⟩) rfl (fun K hK => ?_) AllReadyH.nil)
            go_simp
            refine hK.out _ _ ⟨fun b o hb => ((hE11.out.alloc _).below.cell (p := ⟨b, o, none⟩) hb), hE11.out.alloc _⟩ (fun hHeld => ?_)
            clear hK K
            try simp only [Act.put, List.setIfInBounds_toArray, List.set_cons_zero, List.set_cons_succ]
            refine wpAnyH_take (i := 33) (oi := ⟨some 4, _, _, _, _, _⟩) (v := ?_) rfl (by kernel_rfl) (by kernel_rfl) (by kernel_rfl) (fun _ _ _ h => h) (Or.inl ⟨by rfl, ?_⟩) hHeld ?_
            rotate_left
            · intro w hSw; go_simp; try with_reducible rfl
            try simp only [Act.put, List.setIfInBounds_toArray, List.set_cons_zero, List.set_cons_succ]
            refine wpAnyH_done (by kernel_rfl) ?_ _
            go_wp2_with fail
            go_meet
            exact ⟨ex_row (r0.out.ext spP.stays ((Ext.refl _).alloc _)) (r1.out.ext spP.stays ((Ext.refl _).alloc _)) (r2.out.ext spP.stays ((Ext.refl _).alloc _)) (r3.out.ext spP.stays ((Ext.refl _).alloc _)) (Blk.new _ _ _), hE11.out.alloc _⟩
          exact AllReadyH.nil
        exact AllReadyH.nil
      refine AllReadyH.cons (o := ⟨some 45, _, _, _, _, _⟩) rfl (fun K hK => ?_) ?_
      · go_simp
        have hx : Ext w1 (w1.alloc (.cells #[.int .i64 0, .int .i64 8, .int .i64 0, .int .i64 0] 66)) := (Ext.refl _).alloc _
        have hE12 := Lib.hid (hE1.out.trans hx)
        have r3 := Lib.hid (ex_line (Blk.new w1 66 #[.int .i64 0, .int .i64 8, .int .i64 0, .int .i64 0]))
        replace r0 := Lib.hid (r0.out.ext spP.stays hx)
        refine hK.out _ _ ⟨fun b o hb => hE12.out.below.cell (p := ⟨b, o, none⟩) hb, hE12.out⟩ (fun hHeld => ?_)
        clear hK K hx
        generalize World.alloc w1 (.cells #[.int .i64 0, .int .i64 8, .int .i64 0, .int .i64 0] 66) = w12 at *
        generalize w1.heap.size = g3 at *
        try simp only [Act.put, List.setIfInBounds_toArray, List.set_cons_zero, List.set_cons_succ]
        refine wpAnyH_take (i := 31) (oi := ⟨some 46, _, _, _, _, _⟩) (v := ?_) rfl (by kernel_rfl) (by kernel_rfl) (by kernel_rfl) (fun _ _ _ h => h) (Or.inl ⟨by rfl, ?_⟩) hHeld ?_
        rotate_left
        · intro w hSw; go_simp; try with_reducible rfl
        try simp only [Act.put, List.setIfInBounds_toArray, List.set_cons_zero, List.set_cons_succ]
        refine wpAnyH_ready (rs := [14, 22]) (by kernel_rfl) (by simp) ?_
        refine AllReadyH.cons (o := ⟨some 29, _, _, _, _, _⟩) rfl (fun K hK => ?_) ?_
        · go_simp
          have hx : Ext w12 (w12.alloc (.cells #[.int .i64 10, .int .i64 0, .int .i64 10, .int .i64 8] 66)) := (Ext.refl _).alloc _
          have hE13 := Lib.hid (hE12.out.trans hx)
          have r1 := Lib.hid (ex_line (Blk.new w12 66 #[.int .i64 10, .int .i64 0, .int .i64 10, .int .i64 8]))
          replace r0 := Lib.hid (r0.out.ext spP.stays hx)
          replace r3 := Lib.hid (r3.out.ext spP.stays hx)
          refine hK.out _ _ ⟨fun b o hb => hE13.out.below.cell (p := ⟨b, o, none⟩) hb, hE13.out⟩ (fun hHeld => ?_)
          clear hK K hx
          generalize World.alloc w12 (.cells #[.int .i64 10, .int .i64 0, .int .i64 10, .int .i64 8] 66) = w13 at *
          generalize w12.heap.size = g1 at *
          try simp only [Act.put, List.setIfInBounds_toArray, List.set_cons_zero, List.set_cons_succ]
          refine wpAnyH_take (i := 15) (oi := ⟨some 30, _, _, _, _, _⟩) (v := ?_) rfl (by kernel_rfl) (by kernel_rfl) (by kernel_rfl) (fun _ _ _ h => h) (Or.inl ⟨by rfl, ?_⟩) hHeld ?_
          rotate_left
          · intro w hSw; go_simp; try with_reducible rfl
          try simp only [Act.put, List.setIfInBounds_toArray, List.set_cons_zero, List.set_cons_succ]
          refine wpAnyH_ready (rs := [22]) (by kernel_rfl) (by simp) ?_
          refine AllReadyH.cons (o := ⟨some 37, _, _, _, _, _⟩) rfl (fun K hK => ?_) ?_
          · go_simp
            have hx : Ext w13 (w13.alloc (.cells #[.int .i64 10, .int .i64 8, .int .i64 0, .int .i64 8] 66)) := (Ext.refl _).alloc _
            have hE14 := Lib.hid (hE13.out.trans hx)
            have r2 := Lib.hid (ex_line (Blk.new w13 66 #[.int .i64 10, .int .i64 8, .int .i64 0, .int .i64 8]))
            replace r0 := Lib.hid (r0.out.ext spP.stays hx)
            replace r3 := Lib.hid (r3.out.ext spP.stays hx)
            replace r1 := Lib.hid (r1.out.ext spP.stays hx)
            refine hK.out _ _ ⟨fun b o hb => hE14.out.below.cell (p := ⟨b, o, none⟩) hb, hE14.out⟩ (fun hHeld => ?_)
            clear hK K hx
            generalize World.alloc w13 (.cells #[.int .i64 10, .int .i64 8, .int .i64 0, .int .i64 8] 66) = w14 at *
            generalize w13.heap.size = g2 at *
            try simp only [Act.put, List.setIfInBounds_toArray, List.set_cons_zero, List.set_cons_succ]
            refine wpAnyH_take (i := 23) (oi := ⟨some 38, _, _, _, _, _⟩) (v := ?_) rfl (by kernel_rfl) (by kernel_rfl) (by kernel_rfl) (fun _ _ _ h => h) (Or.inl ⟨by rfl, ?_⟩) hHeld ?_
            rotate_left
            · intro w hSw; go_simp; try with_reducible rfl
            try simp only [Act.put, List.setIfInBounds_toArray, List.set_cons_zero, List.set_cons_succ]
            refine wpAnyH_ready (rs := [32]) (by kernel_rfl) (by simp) (AllReadyH.cons (o := ⟨some 47, _, _, _, _, _⟩) rfl (fun K hK => ?_) AllReadyH.nil)
            go_simp
            refine hK.out _ _ ⟨fun b o hb => ((hE14.out.alloc _).below.cell (p := ⟨b, o, none⟩) hb), hE14.out.alloc _⟩ (fun hHeld => ?_)
            clear hK K
            try simp only [Act.put, List.setIfInBounds_toArray, List.set_cons_zero, List.set_cons_succ]
            refine wpAnyH_take (i := 33) (oi := ⟨some 4, _, _, _, _, _⟩) (v := ?_) rfl (by kernel_rfl) (by kernel_rfl) (by kernel_rfl) (fun _ _ _ h => h) (Or.inl ⟨by rfl, ?_⟩) hHeld ?_
            rotate_left
            · intro w hSw; go_simp; try with_reducible rfl
            try simp only [Act.put, List.setIfInBounds_toArray, List.set_cons_zero, List.set_cons_succ]
            refine wpAnyH_done (by kernel_rfl) ?_ _
            go_wp2_with fail
            go_meet
            exact ⟨ex_row (r0.out.ext spP.stays ((Ext.refl _).alloc _)) (r1.out.ext spP.stays ((Ext.refl _).alloc _)) (r2.out.ext spP.stays ((Ext.refl _).alloc _)) (r3.out.ext spP.stays ((Ext.refl _).alloc _)) (Blk.new _ _ _), hE14.out.alloc _⟩
          exact AllReadyH.nil
        refine AllReadyH.cons (o := ⟨some 37, _, _, _, _, _⟩) rfl (fun K hK => ?_) ?_
        · go_simp
          have hx : Ext w12 (w12.alloc (.cells #[.int .i64 10, .int .i64 8, .int .i64 0, .int .i64 8] 66)) := (Ext.refl _).alloc _
          have hE15 := Lib.hid (hE12.out.trans hx)
          have r2 := Lib.hid (ex_line (Blk.new w12 66 #[.int .i64 10, .int .i64 8, .int .i64 0, .int .i64 8]))
          replace r0 := Lib.hid (r0.out.ext spP.stays hx)
          replace r3 := Lib.hid (r3.out.ext spP.stays hx)
          refine hK.out _ _ ⟨fun b o hb => hE15.out.below.cell (p := ⟨b, o, none⟩) hb, hE15.out⟩ (fun hHeld => ?_)
          clear hK K hx
          generalize World.alloc w12 (.cells #[.int .i64 10, .int .i64 8, .int .i64 0, .int .i64 8] 66) = w15 at *
          generalize w12.heap.size = g2 at *
          try simp only [Act.put, List.setIfInBounds_toArray, List.set_cons_zero, List.set_cons_succ]
          refine wpAnyH_take (i := 23) (oi := ⟨some 38, _, _, _, _, _⟩) (v := ?_) rfl (by kernel_rfl) (by kernel_rfl) (by kernel_rfl) (fun _ _ _ h => h) (Or.inl ⟨by rfl, ?_⟩) hHeld ?_
          rotate_left
          · intro w hSw; go_simp; try with_reducible rfl
          try simp only [Act.put, List.setIfInBounds_toArray, List.set_cons_zero, List.set_cons_succ]
          refine wpAnyH_ready (rs := [14]) (by kernel_rfl) (by simp) ?_
          refine AllReadyH.cons (o := ⟨some 29, _, _, _, _, _⟩) rfl (fun K hK => ?_) ?_
          · go_simp
            have hx : Ext w15 (w15.alloc (.cells #[.int .i64 10, .int .i64 0, .int .i64 10, .int .i64 8] 66)) := (Ext.refl _).alloc _
            have hE16 := Lib.hid (hE15.out.trans hx)
            have r1 := Lib.hid (ex_line (Blk.new w15 66 #[.int .i64 10, .int .i64 0, .int .i64 10, .int .i64 8]))
            replace r0 := Lib.hid (r0.out.ext spP.stays hx)
            replace r3 := Lib.hid (r3.out.ext spP.stays hx)
            replace r2 := Lib.hid (r2.out.ext spP.stays hx)
            refine hK.out _ _ ⟨fun b o hb => hE16.out.below.cell (p := ⟨b, o, none⟩) hb, hE16.out⟩ (fun hHeld => ?_)
            clear hK K hx
            generalize World.alloc w15 (.cells #[.int .i64 10, .int .i64 0, .int .i64 10, .int .i64 8] 66) = w16 at *
            generalize w15.heap.size = g1 at *
            try simp only [Act.put, List.setIfInBounds_toArray, List.set_cons_zero, List.set_cons_succ]
            refine wpAnyH_take (i := 15) (oi := ⟨some 30, _, _, _, _, _⟩) (v := ?_) rfl (by kernel_rfl) (by kernel_rfl) (by kernel_rfl) (fun _ _ _ h => h) (Or.inl ⟨by rfl, ?_⟩) hHeld ?_
            rotate_left
            · intro w hSw; go_simp; try with_reducible rfl
            try simp only [Act.put, List.setIfInBounds_toArray, List.set_cons_zero, List.set_cons_succ]
            refine wpAnyH_ready (rs := [32]) (by kernel_rfl) (by simp) (AllReadyH.cons (o := ⟨some 47, _, _, _, _, _⟩) rfl (fun K hK => ?_) AllReadyH.nil)
            go_simp
            refine hK.out _ _ ⟨fun b o hb => ((hE16.out.alloc _).below.cell (p := ⟨b, o, none⟩) hb), hE16.out.alloc _⟩ (fun hHeld => ?_)
            clear hK K
            try simp only [Act.put, List.setIfInBounds_toArray, List.set_cons_zero, List.set_cons_succ]
            refine wpAnyH_take (i := 33) (oi := ⟨some 4, _, _, _, _, _⟩) (v := ?_) rfl (by kernel_rfl) (by kernel_rfl) (by kernel_rfl) (fun _ _ _ h => h) (Or.inl ⟨by rfl, ?_⟩) hHeld ?_
            rotate_left
            · intro w hSw; go_simp; try with_reducible rfl
            try simp only [Act.put, List.setIfInBounds_toArray, List.set_cons_zero, List.set_cons_succ]
            refine wpAnyH_done (by kernel_rfl) ?_ _
            go_wp2_with fail
            go_meet
            exact ⟨ex_row (r0.out.ext spP.stays ((Ext.refl _).alloc _)) (r1.out.ext spP.stays ((Ext.refl _).alloc _)) (r2.out.ext spP.stays ((Ext.refl _).alloc _)) (r3.out.ext spP.stays ((Ext.refl _).alloc _)) (Blk.new _ _ _), hE16.out.alloc _⟩
          exact AllReadyH.nil
        exact AllReadyH.nil
      exact AllReadyH.nil
    refine AllReadyH.cons (o := ⟨some 29, _, _, _, _, _⟩) rfl (fun K hK => ?_) ?_
    · go_simp
      have hx : Ext w0 (w0.alloc (.cells #[.int .i64 10, .int .i64 0, .int .i64 10, .int .i64 8] 66)) := (Ext.refl _).alloc _
      have hE17 := Lib.hid (hE0.out.trans hx)
      have r1 := Lib.hid (ex_line (Blk.new w0 66 #[.int .i64 10, .int .i64 0, .int .i64 10, .int .i64 8]))
      refine hK.out _ _ ⟨fun b o hb => hE17.out.below.cell (p := ⟨b, o, none⟩) hb, hE17.out⟩ (fun hHeld => ?_)
      clear hK K hx
      generalize World.alloc w0 (.cells #[.int .i64 10, .int .i64 0, .int .i64 10, .int .i64 8] 66) = w17 at *
      generalize w0.heap.size = g1 at *
      try simp only [Act.put, List.setIfInBounds_toArray, List.set_cons_zero, List.set_cons_succ]
      refine wpAnyH_take (i := 15) (oi := ⟨some 30, _, _, _, _, _⟩) (v := ?_) rfl (by kernel_rfl) (by kernel_rfl) (by kernel_rfl) (fun _ _ _ h => h) (Or.inl ⟨by rfl, ?_⟩) hHeld ?_
      rotate_left
      · intro w hSw; go_simp; try with_reducible rfl
      try simp only [Act.put, List.setIfInBounds_toArray, List.set_cons_zero, List.set_cons_succ]
      refine wpAnyH_ready (rs := [6, 22, 30]) (by kernel_rfl) (by simp) ?_
      refine AllReadyH.cons (o := ⟨some 21, _, _, _, _, _⟩) rfl (fun K hK => ?_) ?_
      · go_simp
        have hx : Ext w17 (w17.alloc (.cells #[.int .i64 0, .int .i64 0, .int .i64 10, .int .i64 0] 66)) := (Ext.refl _).alloc _
        have hE18 := Lib.hid (hE17.out.trans hx)
        have r0 := Lib.hid (ex_line (Blk.new w17 66 #[.int .i64 0, .int .i64 0, .int .i64 10, .int .i64 0]))
        replace r1 := Lib.hid (r1.out.ext spP.stays hx)
        refine hK.out _ _ ⟨fun b o hb => hE18.out.below.cell (p := ⟨b, o, none⟩) hb, hE18.out⟩ (fun hHeld => ?_)
        clear hK K hx
        generalize World.alloc w17 (.cells #[.int .i64 0, .int .i64 0, .int .i64 10, .int .i64 0] 66) = w18 at *
        generalize w17.heap.size = g0 at *
        try simp only [Act.put, List.setIfInBounds_toArray, List.set_cons_zero, List.set_cons_succ]
        refine wpAnyH_take (i := 7) (oi := ⟨some 22, _, _, _, _, _⟩) (v := ?_) rfl (by kernel_rfl) (by kernel_rfl) (by kernel_rfl) (fun _ _ _ h => h) (Or.inl ⟨by rfl, ?_⟩) hHeld ?_
        rotate_left
        · intro w hSw; go_simp; try with_reducible rfl
        try simp only [Act.put, List.setIfInBounds_toArray, List.set_cons_zero, List.set_cons_succ]
        refine wpAnyH_ready (rs := [22, 30]) (by kernel_rfl) (by simp) ?_
        refine AllReadyH.cons (o := ⟨some 37, _, _, _, _, _⟩) rfl (fun K hK => ?_) ?_
        · go_simp
          have hx : Ext w18 (w18.alloc (.cells #[.int .i64 10, .int .i64 8, .int .i64 0, .int .i64 8] 66)) := (Ext.refl _).alloc _
          have hE19 := Lib.hid (hE18.out.trans hx)
          have r2 := Lib.hid (ex_line (Blk.new w18 66 #[.int .i64 10, .int .i64 8, .int .i64 0, .int .i64 8]))
          replace r1 := Lib.hid (r1.out.ext spP.stays hx)
          replace r0 := Lib.hid (r0.out.ext spP.stays hx)
          refine hK.out _ _ ⟨fun b o hb => hE19.out.below.cell (p := ⟨b, o, none⟩) hb, hE19.out⟩ (fun hHeld => ?_)
          clear hK K hx
          generalize World.alloc w18 (.cells #[.int .i64 10, .int .i64 8, .int .i64 0, .int .i64 8] 66) = w19 at *
          generalize w18.heap.size = g2 at *
          try simp only [Act.put, List.setIfInBounds_toArray, List.set_cons_zero, List.set_cons_succ]
          refine wpAnyH_take (i := 23) (oi := ⟨some 38, _, _, _, _, _⟩) (v := ?_) rfl (by kernel_rfl) (by kernel_rfl) (by kernel_rfl) (fun _ _ _ h => h) (Or.inl ⟨by rfl, ?_⟩) hHeld ?_
          rotate_left
          · intro w hSw; go_simp; try with_reducible rfl
          try simp only [Act.put, List.setIfInBounds_toArray, List.set_cons_zero, List.set_cons_succ]
          refine wpAnyH_ready (rs := [30]) (by kernel_rfl) (by simp) ?_
          refine AllReadyH.cons (o := ⟨some 45, _, _, _, _, _⟩) rfl (fun K hK => ?_) ?_
          · go_simp
            have hx : Ext w19 (w19.alloc (.cells #[.int .i64 0, .int .i64 8, .int .i64 0, .int .i64 0] 66)) := (Ext.refl _).alloc _
            have hE20 := Lib.hid (hE19.out.trans hx)
            have r3 := Lib.hid (ex_line (Blk.new w19 66 #[.int .i64 0, .int .i64 8, .int .i64 0, .int .i64 0]))
            replace r1 := Lib.hid (r1.out.ext spP.stays hx)
            replace r0 := Lib.hid (r0.out.ext spP.stays hx)
            replace r2 := Lib.hid (r2.out.ext spP.stays hx)
            refine hK.out _ _ ⟨fun b o hb => hE20.out.below.cell (p := ⟨b, o, none⟩) hb, hE20.out⟩ (fun hHeld => ?_)
            clear hK K hx
            generalize World.alloc w19 (.cells #[.int .i64 0, .int .i64 8, .int .i64 0, .int .i64 0] 66) = w20 at *
            generalize w19.heap.size = g3 at *
            try simp only [Act.put, List.setIfInBounds_toArray, List.set_cons_zero, List.set_cons_succ]
            refine wpAnyH_take (i := 31) (oi := ⟨some 46, _, _, _, _, _⟩) (v := ?_) rfl (by kernel_rfl) (by kernel_rfl) (by kernel_rfl) (fun _ _ _ h => h) (Or.inl ⟨by rfl, ?_⟩) hHeld ?_
            rotate_left
            · intro w hSw; go_simp; try with_reducible rfl
            try simp only [Act.put, List.setIfInBounds_toArray, List.set_cons_zero, List.set_cons_succ]
            refine wpAnyH_ready (rs := [32]) (by kernel_rfl) (by simp) (AllReadyH.cons (o := ⟨some 47, _, _, _, _, _⟩) rfl (fun K hK => ?_) AllReadyH.nil)
            go_simp
            refine hK.out _ _ ⟨fun b o hb => ((hE20.out.alloc _).below.cell (p := ⟨b, o, none⟩) hb), hE20.out.alloc _⟩ (fun hHeld => ?_)
            clear hK K
            try simp only [Act.put, List.setIfInBounds_toArray, List.set_cons_zero, List.set_cons_succ]
            refine wpAnyH_take (i := 33) (oi := ⟨some 4, _, _, _, _, _⟩) (v := ?_) rfl (by kernel_rfl) (by kernel_rfl) (by kernel_rfl) (fun _ _ _ h => h) (Or.inl ⟨by rfl, ?_⟩) hHeld ?_
            rotate_left
            · intro w hSw; go_simp; try with_reducible rfl
            try simp only [Act.put, List.setIfInBounds_toArray, List.set_cons_zero, List.set_cons_succ]
            refine wpAnyH_done (by kernel_rfl) ?_ _
            go_wp2_with fail
            go_meet
            exact ⟨ex_row (r0.out.ext spP.stays ((Ext.refl _).alloc _)) (r1.out.ext spP.stays ((Ext.refl _).alloc _)) (r2.out.ext spP.stays ((Ext.refl _).alloc _)) (r3.out.ext spP.stays ((Ext.refl _).alloc _)) (Blk.new _ _ _), hE20.out.alloc _⟩
          exact AllReadyH.nil
        refine AllReadyH.cons (o := ⟨some 45, _, _, _, _, _⟩) rfl (fun K hK => ?_) ?_
        · go_simp
          have hx : Ext w18 (w18.alloc (.cells #[.int .i64 0, .int .i64 8, .int .i64 0, .int .i64 0] 66)) := (Ext.refl _).alloc _
          have hE21 := Lib.hid (hE18.out.trans hx)
          have r3 := Lib.hid (ex_line (Blk.new w18 66 #[.int .i64 0, .int .i64 8, .int .i64 0, .int .i64 0]))
          replace r1 := Lib.hid (r1.out.ext spP.stays hx)
          replace r0 := Lib.hid (r0.out.ext spP.stays hx)
          refine hK.out _ _ ⟨fun b o hb => hE21.out.below.cell (p := ⟨b, o, none⟩) hb, hE21.out⟩ (fun hHeld => ?_)
          clear hK K hx
          generalize World.alloc w18 (.cells #[.int .i64 0, .int .i64 8, .int .i64 0, .int .i64 0] 66) = w21 at *
          generalize w18.heap.size = g3 at *
          try simp only [Act.put, List.setIfInBounds_toArray, List.set_cons_zero, List.set_cons_succ]
          refine wpAnyH_take (i := 31) (oi := ⟨some 46, _, _, _, _, _⟩) (v := ?_) rfl (by kernel_rfl) (by kernel_rfl) (by kernel_rfl) (fun _ _ _ h => h) (Or.inl ⟨by rfl, ?_⟩) hHeld ?_
          rotate_left
          · intro w hSw; go_simp; try with_reducible rfl
          try simp only [Act.put, List.setIfInBounds_toArray, List.set_cons_zero, List.set_cons_succ]
          refine wpAnyH_ready (rs := [22]) (by kernel_rfl) (by simp) ?_
          refine AllReadyH.cons (o := ⟨some 37, _, _, _, _, _⟩) rfl (fun K hK => ?_) ?_
          · go_simp
            have hx : Ext w21 (w21.alloc (.cells #[.int .i64 10, .int .i64 8, .int .i64 0, .int .i64 8] 66)) := (Ext.refl _).alloc _
            have hE22 := Lib.hid (hE21.out.trans hx)
            have r2 := Lib.hid (ex_line (Blk.new w21 66 #[.int .i64 10, .int .i64 8, .int .i64 0, .int .i64 8]))
            replace r1 := Lib.hid (r1.out.ext spP.stays hx)
            replace r0 := Lib.hid (r0.out.ext spP.stays hx)
            replace r3 := Lib.hid (r3.out.ext spP.stays hx)
            refine hK.out _ _ ⟨fun b o hb => hE22.out.below.cell (p := ⟨b, o, none⟩) hb, hE22.out⟩ (fun hHeld => ?_)
            clear hK K hx
            generalize World.alloc w21 (.cells #[.int .i64 10, .int .i64 8, .int .i64 0, .int .i64 8] 66) = w22 at *
            generalize w21.heap.size = g2 at *
            try simp only [Act.put, List.setIfInBounds_toArray, List.set_cons_zero, List.set_cons_succ]
            refine wpAnyH_take (i := 23) (oi := ⟨some 38, _, _, _, _, _⟩) (v := ?_) rfl (by kernel_rfl) (by kernel_rfl) (by kernel_rfl) (fun _ _ _ h => h) (Or.inl ⟨by rfl, ?_⟩) hHeld ?_
            rotate_left
            · intro w hSw; go_simp; try with_reducible rfl
            try simp only [Act.put, List.setIfInBounds_toArray, List.set_cons_zero, List.set_cons_succ]
            refine wpAnyH_ready (rs := [32]) (by kernel_rfl) (by simp) (AllReadyH.cons (o := ⟨some 47, _, _, _, _, _⟩) rfl (fun K hK => ?_) AllReadyH.nil)
            go_simp
            refine hK.out _ _ ⟨fun b o hb => ((hE22.out.alloc _).below.cell (p := ⟨b, o, none⟩) hb), hE22.out.alloc _⟩ (fun hHeld => ?_)
            clear hK K
            try simp only [Act.put, List.setIfInBounds_toArray, List.set_cons_zero, List.set_cons_succ]
            refine wpAnyH_take (i := 33) (oi := ⟨some 4, _, _, _, _, _⟩) (v := ?_) rfl (by kernel_rfl) (by kernel_rfl) (by kernel_rfl) (fun _ _ _ h => h) (Or.inl ⟨by rfl, ?_⟩) hHeld ?_
            rotate_left
            · intro w hSw; go_simp; try with_reducible rfl
            try simp only [Act.put, List.setIfInBounds_toArray, List.set_cons_zero, List.set_cons_succ]
            refine wpAnyH_done (by kernel_rfl) ?_ _
            go_wp2_with fail
            go_meet
            exact ⟨ex_row (r0.out.ext spP.stays ((Ext.refl _).alloc _)) (r1.out.ext spP.stays ((Ext.refl _).alloc _)) (r2.out.ext spP.stays ((Ext.refl _).alloc _)) (r3.out.ext spP.stays ((Ext.refl _).alloc _)) (Blk.new _ _ _), hE22.out.alloc _⟩
          exact AllReadyH.nil
        exact AllReadyH.nil
      refine AllReadyH.cons (o := ⟨some 37, _, _, _, _, _⟩) rfl (fun K hK => ?_) ?_
      · go_simp
        have hx : Ext w17 (w17.alloc (.cells #[.int .i64 10, .int .i64 8, .int .i64 0, .int .i64 8] 66)) := (Ext.refl _).alloc _
        have hE23 := Lib.hid (hE17.out.trans hx)
        have r2 := Lib.hid (ex_line (Blk.new w17 66 #[.int .i64 10, .int .i64 8, .int .i64 0, .int .i64 8]))
        replace r1 := Lib.hid (r1.out.ext spP.stays hx)
        refine hK.out _ _ ⟨fun b o hb => hE23.out.below.cell (p := ⟨b, o, none⟩) hb, hE23.out⟩ (fun hHeld => ?_)
        clear hK K hx
        generalize World.alloc w17 (.cells #[.int .i64 10, .int .i64 8, .int .i64 0, .int .i64 8] 66) = w23 at *
        generalize w17.heap.size = g2 at *
        try simp only [Act.put, List.setIfInBounds_toArray, List.set_cons_zero, List.set_cons_succ]
        refine wpAnyH_take (i := 23) (oi := ⟨some 38, _, _, _, _, _⟩) (v := ?_) rfl (by kernel_rfl) (by kernel_rfl) (by kernel_rfl) (fun _ _ _ h => h) (Or.inl ⟨by rfl, ?_⟩) hHeld ?_
        rotate_left
        · intro w hSw; go_simp; try with_reducible rfl
        try simp only [Act.put, List.setIfInBounds_toArray, List.set_cons_zero, List.set_cons_succ]
        refine wpAnyH_ready (rs := [6, 30]) (by kernel_rfl) (by simp) ?_
        refine AllReadyH.cons (o := ⟨some 21, _, _, _, _, _⟩) rfl (fun K hK => ?_) ?_
        · go_simp
          have hx : Ext w23 (w23.alloc (.cells #[.int .i64 0, .int .i64 0, .int .i64 10, .int .i64 0] 66)) := (Ext.refl _).alloc _
          have hE24 := Lib.hid (hE23.out.trans hx)
          have r0 := Lib.hid (ex_line (Blk.new w23 66 #[.int .i64 0, .int .i64 0, .int .i64 10, .int .i64 0]))
          replace r1 := Lib.hid (r1.out.ext spP.stays hx)
          replace r2 := Lib.hid (r2.out.ext spP.stays hx)
          refine hK.out _ _ ⟨fun b o hb => hE24.out.below.cell (p := ⟨b, o, none⟩) hb, hE24.out⟩ (fun hHeld => ?_)
          clear hK K hx
          generalize World.alloc w23 (.cells #[.int .i64 0, .int .i64 0, .int .i64 10, .int .i64 0] 66) = w24 at *
          generalize w23.heap.size = g0 at *
          try simp only [Act.put, List.setIfInBounds_toArray, List.set_cons_zero, List.set_cons_succ]
          refine wpAnyH_take (i := 7) (oi := ⟨some 22, _, _, _, _, _⟩) (v := ?_) rfl (by kernel_rfl) (by kernel_rfl) (by kernel_rfl) (fun _ _ _ h => h) (Or.inl ⟨by rfl, ?_⟩) hHeld ?_
          rotate_left
          · intro w hSw; go_simp; try with_reducible rfl
          try simp only [Act.put, List.setIfInBounds_toArray, List.set_cons_zero, List.set_cons_succ]
          refine wpAnyH_ready (rs := [30]) (by kernel_rfl) (by simp) ?_
          refine AllReadyH.cons (o := ⟨some 45, _, _, _, _, _⟩) rfl (fun K hK => ?_) ?_
          · go_simp
            have hx : Ext w24 (w24.alloc (.cells #[.int .i64 0, .int .i64 8, .int .i64 0, .int .i64 0] 66)) := (Ext.refl _).alloc _
            have hE25 := Lib.hid (hE24.out.trans hx)
            have r3 := Lib.hid (ex_line (Blk.new w24 66 #[.int .i64 0, .int .i64 8, .int .i64 0, .int .i64 0]))
            replace r1 := Lib.hid (r1.out.ext spP.stays hx)
            replace r2 := Lib.hid (r2.out.ext spP.stays hx)
            replace r0 := Lib.hid (r0.out.ext spP.stays hx)
            refine hK.out _ _ ⟨fun b o hb => hE25.out.below.cell (p := ⟨b, o, none⟩) hb, hE25.out⟩ (fun hHeld => ?_)
            clear hK K hx
            generalize World.alloc w24 (.cells #[.int .i64 0, .int .i64 8, .int .i64 0, .int .i64 0] 66) = w25 at *
            generalize w24.heap.size = g3 at *
            try simp only [Act.put, List.setIfInBounds_toArray, List.set_cons_zero, List.set_cons_succ]
            refine wpAnyH_take (i := 31) (oi := ⟨some 46, _, _, _, _, _⟩) (v := ?_) rfl (by kernel_rfl) (by kernel_rfl) (by kernel_rfl) (fun _ _ _ h => h) (Or.inl ⟨by rfl, ?_⟩) hHeld ?_
            rotate_left
            · intro w hSw; go_simp; try with_reducible rfl
            try simp only [Act.put, List.setIfInBounds_toArray, List.set_cons_zero, List.set_cons_succ]
            refine wpAnyH_ready (rs := [32]) (by kernel_rfl) (by simp) (AllReadyH.cons (o := ⟨some 47, _, _, _, _, _⟩) rfl (fun K hK => ?_) AllReadyH.nil)
            go_simp
            refine hK.out _ _ ⟨fun b o hb => ((hE25.out.alloc _).below.cell (p := ⟨b, o, none⟩) hb), hE25.out.alloc _⟩ (fun hHeld => ?_)
            clear hK K
            try simp only [Act.put, List.setIfInBounds_toArray, List.set_cons_zero, List.set_cons_succ]
            refine wpAnyH_take (i := 33) (oi := ⟨some 4, _, _, _, _, _⟩) (v := ?_) rfl (by kernel_rfl) (by kernel_rfl) (by kernel_rfl) (fun _ _ _ h => h) (Or.inl ⟨by rfl, ?_⟩) hHeld ?_
            rotate_left
            · intro w hSw; go_simp; try with_reducible rfl
            try simp only [Act.put, List.setIfInBounds_toArray, List.set_cons_zero, List.set_cons_succ]
            refine wpAnyH_done (by kernel_rfl) ?_ _
            go_wp2_with fail
            go_meet
            exact ⟨ex_row (r0.out.ext spP.stays ((Ext.refl _).alloc _)) (r1.out.ext spP.stays ((Ext.refl _).alloc _)) (r2.out.ext spP.stays ((Ext.refl _).alloc _)) (r3.out.ext spP.stays ((Ext.refl _).alloc _)) (Blk.new _ _ _), hE25.out.alloc _⟩
          exact AllReadyH.nil
        refine AllReadyH.cons (o := ⟨some 45, _, _, _, _, _⟩) rfl (fun K hK => ?_) ?_
        · go_simp
          have hx : Ext w23 (w23.alloc (.cells #[.int .i64 0, .int .i64 8, .int .i64 0, .int .i64 0] 66)) := (Ext.refl _).alloc _
          have hE26 := Lib.hid (hE23.out.trans hx)
          have r3 := Lib.hid (ex_line (Blk.new w23 66 #[.int .i64 0, .int .i64 8, .int .i64 0, .int .i64 0]))
          replace r1 := Lib.hid (r1.out.ext spP.stays hx)
          replace r2 := Lib.hid (r2.out.ext spP.stays hx)
          refine hK.out _ _ ⟨fun b o hb => hE26.out.below.cell (p := ⟨b, o, none⟩) hb, hE26.out⟩ (fun hHeld => ?_)
          clear hK K hx
          generalize World.alloc w23 (.cells #[.int .i64 0, .int .i64 8, .int .i64 0, .int .i64 0] 66) = w26 at *
          generalize w23.heap.size = g3 at *
          try simp only [Act.put, List.setIfInBounds_toArray, List.set_cons_zero, List.set_cons_succ]
          refine wpAnyH_take (i := 31) (oi := ⟨some 46, _, _, _, _, _⟩) (v := ?_) rfl (by kernel_rfl) (by kernel_rfl) (by kernel_rfl) (fun _ _ _ h => h) (Or.inl ⟨by rfl, ?_⟩) hHeld ?_
          rotate_left
          · intro w hSw; go_simp; try with_reducible rfl
          try simp only [Act.put, List.setIfInBounds_toArray, List.set_cons_zero, List.set_cons_succ]
          refine wpAnyH_ready (rs := [6]) (by kernel_rfl) (by simp) ?_
          refine AllReadyH.cons (o := ⟨some 21, _, _, _, _, _⟩) rfl (fun K hK => ?_) ?_
          · go_simp
            have hx : Ext w26 (w26.alloc (.cells #[.int .i64 0, .int .i64 0, .int .i64 10, .int .i64 0] 66)) := (Ext.refl _).alloc _
            have hE27 := Lib.hid (hE26.out.trans hx)
            have r0 := Lib.hid (ex_line (Blk.new w26 66 #[.int .i64 0, .int .i64 0, .int .i64 10, .int .i64 0]))
            replace r1 := Lib.hid (r1.out.ext spP.stays hx)
            replace r2 := Lib.hid (r2.out.ext spP.stays hx)
            replace r3 := Lib.hid (r3.out.ext spP.stays hx)
            refine hK.out _ _ ⟨fun b o hb => hE27.out.below.cell (p := ⟨b, o, none⟩) hb, hE27.out⟩ (fun hHeld => ?_)
            clear hK K hx
            generalize World.alloc w26 (.cells #[.int .i64 0, .int .i64 0, .int .i64 10, .int .i64 0] 66) = w27 at *
            generalize w26.heap.size = g0 at *
            try simp only [Act.put, List.setIfInBounds_toArray, List.set_cons_zero, List.set_cons_succ]
            refine wpAnyH_take (i := 7) (oi := ⟨some 22, _, _, _, _, _⟩) (v := ?_) rfl (by kernel_rfl) (by kernel_rfl) (by kernel_rfl) (fun _ _ _ h => h) (Or.inl ⟨by rfl, ?_⟩) hHeld ?_
            rotate_left
            · intro w hSw; go_simp; try with_reducible rfl
            try simp only [Act.put, List.setIfInBounds_toArray, List.set_cons_zero, List.set_cons_succ]
            refine wpAnyH_ready (rs := [32]) (by kernel_rfl) (by simp) (AllReadyH.cons (o := ⟨some 47, _, _, _, _, _⟩) rfl (fun K hK => ?_) AllReadyH.nil)
            go_simp
            refine hK.out _ _ ⟨fun b o hb => ((hE27.out.alloc _).below.cell (p := ⟨b, o, none⟩) hb), hE27.out.alloc _⟩ (fun hHeld => ?_)
            clear hK K
            try simp only [Act.put, List.setIfInBounds_toArray, List.set_cons_zero, List.set_cons_succ]
            refine wpAnyH_take (i := 33) (oi := ⟨some 4, _, _, _, _, _⟩) (v := ?_) rfl (by kernel_rfl) (by kernel_rfl) (by kernel_rfl) (fun _ _ _ h => h) (Or.inl ⟨by rfl, ?_⟩) hHeld ?_
            rotate_left
            · intro w hSw; go_simp; try with_reducible rfl
            try simp only [Act.put, List.setIfInBounds_toArray, List.set_cons_zero, List.set_cons_succ]
            refine wpAnyH_done (by kernel_rfl) ?_ _
            go_wp2_with fail
            go_meet
            exact ⟨ex_row (r0.out.ext spP.stays ((Ext.refl _).alloc _)) (r1.out.ext spP.stays ((Ext.refl _).alloc _)) (r2.out.ext spP.stays ((Ext.refl _).alloc _)) (r3.out.ext spP.stays ((Ext.refl _).alloc _)) (Blk.new _ _ _), hE27.out.alloc _⟩
          exact AllReadyH.nil
        exact AllReadyH.nil
      refine AllReadyH.cons (o := ⟨some 45, _, _, _, _, _⟩) rfl (fun K hK => ?_) ?_
      · go_simp
        have hx : Ext w17 (w17.alloc (.cells #[.int .i64 0, .int .i64 8, .int .i64 0, .int .i64 0] 66)) := (Ext.refl _).alloc _
        have hE28 := Lib.hid (hE17.out.trans hx)
        have r3 := Lib.hid (ex_line (Blk.new w17 66 #[.int .i64 0, .int .i64 8, .int .i64 0, .int .i64 0]))
        replace r1 := Lib.hid (r1.out.ext spP.stays hx)
        refine hK.out _ _ ⟨fun b o hb => hE28.out.below.cell (p := ⟨b, o, none⟩) hb, hE28.out⟩ (fun hHeld => ?_)
        clear hK K hx
        generalize World.alloc w17 (.cells #[.int .i64 0, .int .i64 8, .int .i64 0, .int .i64 0] 66) = w28 at *
        generalize w17.heap.size = g3 at *
        try simp only [Act.put, List.setIfInBounds_toArray, List.set_cons_zero, List.set_cons_succ]
        refine wpAnyH_take (i := 31) (oi := ⟨some 46, _, _, _, _, _⟩) (v := ?_) rfl (by kernel_rfl) (by kernel_rfl) (by kernel_rfl) (fun _ _ _ h => h) (Or.inl ⟨by rfl, ?_⟩) hHeld ?_
        rotate_left
        · intro w hSw; go_simp; try with_reducible rfl
        try simp only [Act.put, List.setIfInBounds_toArray, List.set_cons_zero, List.set_cons_succ]
        refine wpAnyH_ready (rs := [6, 22]) (by kernel_rfl) (by simp) ?_
        refine AllReadyH.cons (o := ⟨some 21, _, _, _, _, _⟩) rfl (fun K hK => ?_) ?_
        · go_simp
          have hx : Ext w28 (w28.alloc (.cells #[.int .i64 0, .int .i64 0, .int .i64 10, .int .i64 0] 66)) := (Ext.refl _).alloc _
          have hE29 := Lib.hid (hE28.out.trans hx)
          have r0 := Lib.hid (ex_line (Blk.new w28 66 #[.int .i64 0, .int .i64 0, .int .i64 10, .int .i64 0]))
          replace r1 := Lib.hid (r1.out.ext spP.stays hx)
          replace r3 := Lib.hid (r3.out.ext spP.stays hx)
          refine hK.out _ _ ⟨fun b o hb => hE29.out.below.cell (p := ⟨b, o, none⟩) hb, hE29.out⟩ (fun hHeld => ?_)
          clear hK K hx
          generalize World.alloc w28 (.cells #[.int .i64 0, .int .i64 0, .int .i64 10, .int .i64 0] 66) = w29 at *
          generalize w28.heap.size = g0 at *
          try simp only [Act.put, List.setIfInBounds_toArray, List.set_cons_zero, List.set_cons_succ]
          refine wpAnyH_take (i := 7) (oi := ⟨some 22, _, _, _, _, _⟩) (v := ?_) rfl (by kernel_rfl) (by kernel_rfl) (by kernel_rfl) (fun _ _ _ h => h) (Or.inl ⟨by rfl, ?_⟩) hHeld ?_
          rotate_left
          · intro w hSw; go_simp; try with_reducible rfl
          try simp only [Act.put, List.setIfInBounds_toArray, List.set_cons_zero, List.set_cons_succ]
          refine wpAnyH_ready (rs := [22]) (by kernel_rfl) (by simp) ?_
          refine AllReadyH.cons (o := ⟨some 37, _, _, _, _, _⟩) rfl (fun K hK => ?_) ?_
          · go_simp
            have hx : Ext w29 (w29.alloc (.cells #[.int .i64 10, .int .i64 8, .int .i64 0, .int .i64 8] 66)) := (Ext.refl _).alloc _
            have hE30 := Lib.hid (hE29.out.trans hx)
            have r2 := Lib.hid (ex_line (Blk.new w29 66 #[.int .i64 10, .int .i64 8, .int .i64 0, .int .i64 8]))
            replace r1 := Lib.hid (r1.out.ext spP.stays hx)
            replace r3 := Lib.hid (r3.out.ext spP.stays hx)
            replace r0 := Lib.hid (r0.out.ext spP.stays hx)
            refine hK.out _ _ ⟨fun b o hb => hE30.out.below.cell (p := ⟨b, o, none⟩) hb, hE30.out⟩ (fun hHeld => ?_)
            clear hK K hx
            generalize World.alloc w29 (.cells #[.int .i64 10, .int .i64 8, .int .i64 0, .int .i64 8] 66) = w30 at *
            generalize w29.heap.size = g2 at *
            try simp only [Act.put, List.setIfInBounds_toArray, List.set_cons_zero, List.set_cons_succ]
            refine wpAnyH_take (i := 23) (oi := ⟨some 38, _, _, _, _, _⟩) (v := ?_) rfl (by kernel_rfl) (by kernel_rfl) (by kernel_rfl) (fun _ _ _ h => h) (Or.inl ⟨by rfl, ?_⟩) hHeld ?_
            rotate_left
            · intro w hSw; go_simp; try with_reducible rfl
            try simp only [Act.put, List.setIfInBounds_toArray, List.set_cons_zero, List.set_cons_succ]
            refine wpAnyH_ready (rs := [32]) (by kernel_rfl) (by simp) (AllReadyH.cons (o := ⟨some 47, _, _, _, _, _⟩) rfl (fun K hK => ?_) AllReadyH.nil)
            go_simp
            refine hK.out _ _ ⟨fun b o hb => ((hE30.out.alloc _).below.cell (p := ⟨b, o, none⟩) hb), hE30.out.alloc _⟩ (fun hHeld => ?_)
            clear hK K
            try simp only [Act.put, List.setIfInBounds_toArray, List.set_cons_zero, List.set_cons_succ]
            refine wpAnyH_take (i := 33) (oi := ⟨some 4, _, _, _, _, _⟩) (v := ?_) rfl (by kernel_rfl) (by kernel_rfl) (by kernel_rfl) (fun _ _ _ h => h) (Or.inl ⟨by rfl, ?_⟩) hHeld ?_
            rotate_left
            · intro w hSw; go_simp; try with_reducible rfl
            try simp only [Act.put, List.setIfInBounds_toArray, List.set_cons_zero, List.set_cons_succ]
            refine wpAnyH_done (by kernel_rfl) ?_ _
            go_wp2_with fail
            go_meet
            exact ⟨ex_row (r0.out.ext spP.stays ((Ext.refl _).alloc _)) (r1.out.ext spP.stays ((Ext.refl _).alloc _)) (r2.out.ext spP.stays ((Ext.refl _).alloc _)) (r3.out.ext spP.stays ((Ext.refl _).alloc _)) (Blk.new _ _ _), hE30.out.alloc _⟩
          exact AllReadyH.nil
        refine AllReadyH.cons (o := ⟨some 37, _, _, _, _, _⟩) rfl (fun K hK => ?_) ?_
        · go_simp
          have hx : Ext w28 (w28.alloc (.cells #[.int .i64 10, .int .i64 8, .int .i64 0, .int .i64 8] 66)) := (Ext.refl _).alloc _
          have hE31 := Lib.hid (hE28.out.trans hx)
          have r2 := Lib.hid (ex_line (Blk.new w28 66 #[.int .i64 10, .int .i64 8, .int .i64 0, .int .i64 8]))
          replace r1 := Lib.hid (r1.out.ext spP.stays hx)
          replace r3 := Lib.hid (r3.out.ext spP.stays hx)
          refine hK.out _ _ ⟨fun b o hb => hE31.out.below.cell (p := ⟨b, o, none⟩) hb, hE31.out⟩ (fun hHeld => ?_)
          clear hK K hx
          generalize World.alloc w28 (.cells #[.int .i64 10, .int .i64 8, .int .i64 0, .int .i64 8] 66) = w31 at *
          generalize w28.heap.size = g2 at *
          try simp only [Act.put, List.setIfInBounds_toArray, List.set_cons_zero, List.set_cons_succ]
          refine wpAnyH_take (i := 23) (oi := ⟨some 38, _, _, _, _, _⟩) (v := ?_) rfl (by kernel_rfl) (by kernel_rfl) (by kernel_rfl) (fun _ _ _ h => h) (Or.inl ⟨by rfl, ?_⟩) hHeld ?_
          rotate_left
          · intro w hSw; go_simp; try with_reducible rfl
          try simp only [Act.put, List.setIfInBounds_toArray, List.set_cons_zero, List.set_cons_succ]
          refine wpAnyH_ready (rs := [6]) (by kernel_rfl) (by simp) ?_
          refine AllReadyH.cons (o := ⟨some 21, _, _, _, _, _⟩) rfl (fun K hK => ?_) ?_
          · go_simp
            have hx : Ext w31 (w31.alloc (.cells #[.int .i64 0, .int .i64 0, .int .i64 10, .int .i64 0] 66)) := (Ext.refl _).alloc _
            have hE32 := Lib.hid (hE31.out.trans hx)
            have r0 := Lib.hid (ex_line (Blk.new w31 66 #[.int .i64 0, .int .i64 0, .int .i64 10, .int .i64 0]))
            replace r1 := Lib.hid (r1.out.ext spP.stays hx)
            replace r3 := Lib.hid (r3.out.ext spP.stays hx)
            replace r2 := Lib.hid (r2.out.ext spP.stays hx)
            refine hK.out _ _ ⟨fun b o hb => hE32.out.below.cell (p := ⟨b, o, none⟩) hb, hE32.out⟩ (fun hHeld => ?_)
            clear hK K hx
            generalize World.alloc w31 (.cells #[.int .i64 0, .int .i64 0, .int .i64 10, .int .i64 0] 66) = w32 at *
            generalize w31.heap.size = g0 at *
            try simp only [Act.put, List.setIfInBounds_toArray, List.set_cons_zero, List.set_cons_succ]
            refine wpAnyH_take (i := 7) (oi := ⟨some 22, _, _, _, _, _⟩) (v := ?_) rfl (by kernel_rfl) (by kernel_rfl) (by kernel_rfl) (fun _ _ _ h => h) (Or.inl ⟨by rfl, ?_⟩) hHeld ?_
            rotate_left
            · intro w hSw; go_simp; try with_reducible rfl
            try simp only [Act.put, List.setIfInBounds_toArray, List.set_cons_zero, List.set_cons_succ]
            refine wpAnyH_ready (rs := [32]) (by kernel_rfl) (by simp) (AllReadyH.cons (o := ⟨some 47, _, _, _, _, _⟩) rfl (fun K hK => ?_) AllReadyH.nil)
            go_simp
            refine hK.out _ _ ⟨fun b o hb => ((hE32.out.alloc _).below.cell (p := ⟨b, o, none⟩) hb), hE32.out.alloc _⟩ (fun hHeld => ?_)
            clear hK K
            try simp only [Act.put, List.setIfInBounds_toArray, List.set_cons_zero, List.set_cons_succ]
            refine wpAnyH_take (i := 33) (oi := ⟨some 4, _, _, _, _, _⟩) (v := ?_) rfl (by kernel_rfl) (by kernel_rfl) (by kernel_rfl) (fun _ _ _ h => h) (Or.inl ⟨by rfl, ?_⟩) hHeld ?_
            rotate_left
            · intro w hSw; go_simp; try with_reducible rfl
            try simp only [Act.put, List.setIfInBounds_toArray, List.set_cons_zero, List.set_cons_succ]
            refine wpAnyH_done (by kernel_rfl) ?_ _
            go_wp2_with fail
            go_meet
            exact ⟨ex_row (r0.out.ext spP.stays ((Ext.refl _).alloc _)) (r1.out.ext spP.stays ((Ext.refl _).alloc _)) (r2.out.ext spP.stays ((Ext.refl _).alloc _)) (r3.out.ext spP.stays ((Ext.refl _).alloc _)) (Blk.new _ _ _), hE32.out.alloc _⟩
          exact AllReadyH.nil
        exact AllReadyH.nil
      exact AllReadyH.nil
    refine AllReadyH.cons (o := ⟨some 37, _, _, _, _, _⟩) rfl (fun K hK => ?_) ?_
    · go_simp
      have hx : Ext w0 (w0.alloc (.cells #[.int .i64 10, .int .i64 8, .int .i64 0, .int .i64 8] 66)) := (Ext.refl _).alloc _
      have hE33 := Lib.hid (hE0.out.trans hx)
      have r2 := Lib.hid (ex_line (Blk.new w0 66 #[.int .i64 10, .int .i64 8, .int .i64 0, .int .i64 8]))
      refine hK.out _ _ ⟨fun b o hb => hE33.out.below.cell (p := ⟨b, o, none⟩) hb, hE33.out⟩ (fun hHeld => ?_)
      clear hK K hx
      generalize World.alloc w0 (.cells #[.int .i64 10, .int .i64 8, .int .i64 0, .int .i64 8] 66) = w33 at *
      generalize w0.heap.size = g2 at *
      try simp only [Act.put, List.setIfInBounds_toArray, List.set_cons_zero, List.set_cons_succ]
      refine wpAnyH_take (i := 23) (oi := ⟨some 38, _, _, _, _, _⟩) (v := ?_) rfl (by kernel_rfl) (by kernel_rfl) (by kernel_rfl) (fun _ _ _ h => h) (Or.inl ⟨by rfl, ?_⟩) hHeld ?_
      rotate_left
      · intro w hSw; go_simp; try with_reducible rfl
      try simp only [Act.put, List.setIfInBounds_toArray, List.set_cons_zero, List.set_cons_succ]
      refine wpAnyH_ready (rs := [6, 14, 30]) (by kernel_rfl) (by simp) ?_
      refine AllReadyH.cons (o := ⟨some 21, _, _, _, _, _⟩) rfl (fun K hK => ?_) ?_
      · go_simp
        have hx : Ext w33 (w33.alloc (.cells #[.int .i64 0, .int .i64 0, .int .i64 10, .int .i64 0] 66)) := (Ext.refl _).alloc _
        have hE34 := Lib.hid (hE33.out.trans hx)
        have r0 := Lib.hid (ex_line (Blk.new w33 66 #[.int .i64 0, .int .i64 0, .int .i64 10, .int .i64 0]))
        replace r2 := Lib.hid (r2.out.ext spP.stays hx)
        refine hK.out _ _ ⟨fun b o hb => hE34.out.below.cell (p := ⟨b, o, none⟩) hb, hE34.out⟩ (fun hHeld => ?_)
        clear hK K hx
        generalize World.alloc w33 (.cells #[.int .i64 0, .int .i64 0, .int .i64 10, .int .i64 0] 66) = w34 at *
        generalize w33.heap.size = g0 at *
        try simp only [Act.put, List.setIfInBounds_toArray, List.set_cons_zero, List.set_cons_succ]
        refine wpAnyH_take (i := 7) (oi := ⟨some 22, _, _, _, _, _⟩) (v := ?_) rfl (by kernel_rfl) (by kernel_rfl) (by kernel_rfl) (fun _ _ _ h => h) (Or.inl ⟨by rfl, ?_⟩) hHeld ?_
        rotate_left
        · intro w hSw; go_simp; try with_reducible rfl
        try simp only [Act.put, List.setIfInBounds_toArray, List.set_cons_zero, List.set_cons_succ]
        refine wpAnyH_ready (rs := [14, 30]) (by kernel_rfl) (by simp) ?_
        refine AllReadyH.cons (o := ⟨some 29, _, _, _, _, _⟩) rfl (fun K hK => ?_) ?_
        · go_simp
          have hx : Ext w34 (w34.alloc (.cells #[.int .i64 10, .int .i64 0, .int .i64 10, .int .i64 8] 66)) := (Ext.refl _).alloc _
          have hE35 := Lib.hid (hE34.out.trans hx)
          have r1 := Lib.hid (ex_line (Blk.new w34 66 #[.int .i64 10, .int .i64 0, .int .i64 10, .int .i64 8]))
          replace r2 := Lib.hid (r2.out.ext spP.stays hx)
          replace r0 := Lib.hid (r0.out.ext spP.stays hx)
          refine hK.out _ _ ⟨fun b o hb => hE35.out.below.cell (p := ⟨b, o, none⟩) hb, hE35.out⟩ (fun hHeld => ?_)
          clear hK K hx
          generalize World.alloc w34 (.cells #[.int .i64 10, .int .i64 0, .int .i64 10, .int .i64 8] 66) = w35 at *
          generalize w34.heap.size = g1 at *
          try simp only [Act.put, List.setIfInBounds_toArray, List.set_cons_zero, List.set_cons_succ]
          refine wpAnyH_take (i := 15) (oi := ⟨some 30, _, _, _, _, _⟩) (v := ?_) rfl (by kernel_rfl) (by kernel_rfl) (by kernel_rfl) (fun _ _ _ h => h) (Or.inl ⟨by rfl, ?_⟩) hHeld ?_
          rotate_left
          · intro w hSw; go_simp; try with_reducible rfl
          try simp only [Act.put, List.setIfInBounds_toArray, List.set_cons_zero, List.set_cons_succ]
          refine wpAnyH_ready (rs := [30]) (by kernel_rfl) (by simp) ?_
          refine AllReadyH.cons (o := ⟨some 45, _, _, _, _, _⟩) rfl (fun K hK => ?_) ?_
          · go_simp
            have hx : Ext w35 (w35.alloc (.cells #[.int .i64 0, .int .i64 8, .int .i64 0, .int .i64 0] 66)) := (Ext.refl _).alloc _
            have hE36 := Lib.hid (hE35.out.trans hx)
            have r3 := Lib.hid (ex_line (Blk.new w35 66 #[.int .i64 0, .int .i64 8, .int .i64 0, .int .i64 0]))
            replace r2 := Lib.hid (r2.out.ext spP.stays hx)
            replace r0 := Lib.hid (r0.out.ext spP.stays hx)
            replace r1 := Lib.hid (r1.out.ext spP.stays hx)
            refine hK.out _ _ ⟨fun b o hb => hE36.out.below.cell (p := ⟨b, o, none⟩) hb, hE36.out⟩ (fun hHeld => ?_)
            clear hK K hx
            generalize World.alloc w35 (.cells #[.int .i64 0, .int .i64 8, .int .i64 0, .int .i64 0] 66) = w36 at *
            generalize w35.heap.size = g3 at *
            try simp only [Act.put, List.setIfInBounds_toArray, List.set_cons_zero, List.set_cons_succ]
            refine wpAnyH_take (i := 31) (oi := ⟨some 46, _, _, _, _, _⟩) (v := ?_) rfl (by kernel_rfl) (by kernel_rfl) (by kernel_rfl) (fun _ _ _ h => h) (Or.inl ⟨by rfl, ?_⟩) hHeld ?_
            rotate_left
            · intro w hSw; go_simp; try with_reducible rfl
            try simp only [Act.put, List.setIfInBounds_toArray, List.set_cons_zero, List.set_cons_succ]
            refine wpAnyH_ready (rs := [32]) (by kernel_rfl) (by simp) (AllReadyH.cons (o := ⟨some 47, _, _, _, _, _⟩) rfl (fun K hK => ?_) AllReadyH.nil)
            go_simp
            refine hK.out _ _ ⟨fun b o hb => ((hE36.out.alloc _).below.cell (p := ⟨b, o, none⟩) hb), hE36.out.alloc _⟩ (fun hHeld => ?_)
            clear hK K
            try simp only [Act.put, List.setIfInBounds_toArray, List.set_cons_zero, List.set_cons_succ]
            refine wpAnyH_take (i := 33) (oi := ⟨some 4, _, _, _, _, _⟩) (v := ?_) rfl (by kernel_rfl) (by kernel_rfl) (by kernel_rfl) (fun _ _ _ h => h) (Or.inl ⟨by rfl, ?_⟩) hHeld ?_
            rotate_left
            · intro w hSw; go_simp; try with_reducible rfl
            try simp only [Act.put, List.setIfInBounds_toArray, List.set_cons_zero, List.set_cons_succ]
            refine wpAnyH_done (by kernel_rfl) ?_ _
            go_wp2_with fail
            go_meet
            exact ⟨ex_row (r0.out.ext spP.stays ((Ext.refl _).alloc _)) (r1.out.ext spP.stays ((Ext.refl _).alloc _)) (r2.out.ext spP.stays ((Ext.refl _).alloc _)) (r3.out.ext spP.stays ((Ext.refl _).alloc _)) (Blk.new _ _ _), hE36.out.alloc _⟩
          exact AllReadyH.nil
        refine AllReadyH.cons (o := ⟨some 45, _, _, _, _, _⟩) rfl (fun K hK => ?_) ?_
        · go_simp
          have hx : Ext w34 (w34.alloc (.cells #[.int .i64 0, .int .i64 8, .int .i64 0, .int .i64 0] 66)) := (Ext.refl _).alloc _
          have hE37 := Lib.hid (hE34.out.trans hx)
          have r3 := Lib.hid (ex_line (Blk.new w34 66 #[.int .i64 0, .int .i64 8, .int .i64 0, .int .i64 0]))
          replace r2 := Lib.hid (r2.out.ext spP.stays hx)
          replace r0 := Lib.hid (r0.out.ext spP.stays hx)
          refine hK.out _ _ ⟨fun b o hb => hE37.out.below.cell (p := ⟨b, o, none⟩) hb, hE37.out⟩ (fun hHeld => ?_)
          clear hK K hx
          generalize World.alloc w34 (.cells #[.int .i64 0, .int .i64 8, .int .i64 0, .int .i64 0] 66) = w37 at *
          generalize w34.heap.size = g3 at *
          try simp only [Act.put, List.setIfInBounds_toArray, List.set_cons_zero, List.set_cons_succ]
          refine wpAnyH_take (i := 31) (oi := ⟨some 46, _, _, _, _, _⟩) (v := ?_) rfl (by kernel_rfl) (by kernel_rfl) (by kernel_rfl) (fun _ _ _ h => h) (Or.inl ⟨by rfl, ?_⟩) hHeld ?_
          rotate_left
          · intro w hSw; go_simp; try with_reducible rfl
          try simp only [Act.put, List.setIfInBounds_toArray, List.set_cons_zero, List.set_cons_succ]
          refine wpAnyH_ready (rs := [14]) (by kernel_rfl) (by simp) ?_
          refine AllReadyH.cons (o := ⟨some 29, _, _, _, _, _⟩) rfl (fun K hK => ?_) ?_
          · go_simp
            have hx : Ext w37 (w37.alloc (.cells #[.int .i64 10, .int .i64 0, .int .i64 10, .int .i64 8] 66)) := (Ext.refl _).alloc _
            have hE38 := Lib.hid (hE37.out.trans hx)
            have r1 := Lib.hid (ex_line (Blk.new w37 66 #[.int .i64 10, .int .i64 0, .int .i64 10, .int .i64 8]))
            replace r2 := Lib.hid (r2.out.ext spP.stays hx)
            replace r0 := Lib.hid (r0.out.ext spP.stays hx)
            replace r3 := Lib.hid (r3.out.ext spP.stays hx)
            refine hK.out _ _ ⟨fun b o hb => hE38.out.below.cell (p := ⟨b, o, none⟩) hb, hE38.out⟩ (fun hHeld => ?_)
            clear hK K hx
            generalize World.alloc w37 (.cells #[.int .i64 10, .int .i64 0, .int .i64 10, .int .i64 8] 66) = w38 at *
            generalize w37.heap.size = g1 at *
            try simp only [Act.put, List.setIfInBounds_toArray, List.set_cons_zero, List.set_cons_succ]
            refine wpAnyH_take (i := 15) (oi := ⟨some 30, _, _, _, _, _⟩) (v := ?_) rfl (by kernel_rfl) (by kernel_rfl) (by kernel_rfl) (fun _ _ _ h => h) (Or.inl ⟨by rfl, ?_⟩) hHeld ?_
            rotate_left
            · intro w hSw; go_simp; try with_reducible rfl
            try simp only [Act.put, List.setIfInBounds_toArray, List.set_cons_zero, List.set_cons_succ]
            refine wpAnyH_ready (rs := [32]) (by kernel_rfl) (by simp) (AllReadyH.cons (o := ⟨some 47, _, _, _, _, _⟩) rfl (fun K hK => ?_) AllReadyH.nil)
            go_simp
            refine hK.out _ _ ⟨fun b o hb => ((hE38.out.alloc _).below.cell (p := ⟨b, o, none⟩) hb), hE38.out.alloc _⟩ (fun hHeld => ?_)
            clear hK K
            try simp only [Act.put, List.setIfInBounds_toArray, List.set_cons_zero, List.set_cons_succ]
            refine wpAnyH_take (i := 33) (oi := ⟨some 4, _, _, _, _, _⟩) (v := ?_) rfl (by kernel_rfl) (by kernel_rfl) (by kernel_rfl) (fun _ _ _ h => h) (Or.inl ⟨by rfl, ?_⟩) hHeld ?_
            rotate_left
            · intro w hSw; go_simp; try with_reducible rfl
            try simp only [Act.put, List.setIfInBounds_toArray, List.set_cons_zero, List.set_cons_succ]
            refine wpAnyH_done (by kernel_rfl) ?_ _
            go_wp2_with fail
            go_meet
            exact ⟨ex_row (r0.out.ext spP.stays ((Ext.refl _).alloc _)) (r1.out.ext spP.stays ((Ext.refl _).alloc _)) (r2.out.ext spP.stays ((Ext.refl _).alloc _)) (r3.out.ext spP.stays ((Ext.refl _).alloc _)) (Blk.new _ _ _), hE38.out.alloc _⟩
          exact AllReadyH.nil
        exact AllReadyH.nil
      refine AllReadyH.cons (o := ⟨some 29, _, _, _, _, _⟩) rfl (fun K hK => ?_) ?_
      · go_simp
        have hx : Ext w33 (w33.alloc (.cells #[.int .i64 10, .int .i64 0, .int .i64 10, .int .i64 8] 66)) := (Ext.refl _).alloc _
        have hE39 := Lib.hid (hE33.out.trans hx)
        have r1 := Lib.hid (ex_line (Blk.new w33 66 #[.int .i64 10, .int .i64 0, .int .i64 10, .int .i64 8]))
        replace r2 := Lib.hid (r2.out.ext spP.stays hx)
        refine hK.out _ _ ⟨fun b o hb => hE39.out.below.cell (p := ⟨b, o, none⟩) hb, hE39.out⟩ (fun hHeld => ?_)
        clear hK K hx
        generalize World.alloc w33 (.cells #[.int .i64 10, .int .i64 0, .int .i64 10, .int .i64 8] 66) = w39 at *
        generalize w33.heap.size = g1 at *
        try simp only [Act.put, List.setIfInBounds_toArray, List.set_cons_zero, List.set_cons_succ]
        refine wpAnyH_take (i := 15) (oi := ⟨some 30, _, _, _, _, _⟩) (v := ?_) rfl (by kernel_rfl) (by kernel_rfl) (by kernel_rfl) (fun _ _ _ h => h) (Or.inl ⟨by rfl, ?_⟩) hHeld ?_
        rotate_left
        · intro w hSw; go_simp; try with_reducible rfl
        try simp only [Act.put, List.setIfInBounds_toArray, List.set_cons_zero, List.set_cons_succ]
        refine wpAnyH_ready (rs := [6, 30]) (by kernel_rfl) (by simp) ?_
        refine AllReadyH.cons (o := ⟨some 21, _, _, _, _, _⟩) rfl (fun K hK => ?_) ?_
        · go_simp
          have hx : Ext w39 (w39.alloc (.cells #[.int .i64 0, .int .i64 0, .int .i64 10, .int .i64 0] 66)) := (Ext.refl _).alloc _
          have hE40 := Lib.hid (hE39.out.trans hx)
          have r0 := Lib.hid (ex_line (Blk.new w39 66 #[.int .i64 0, .int .i64 0, .int .i64 10, .int .i64 0]))
          replace r2 := Lib.hid (r2.out.ext spP.stays hx)
          replace r1 := Lib.hid (r1.out.ext spP.stays hx)
          refine hK.out _ _ ⟨fun b o hb => hE40.out.below.cell (p := ⟨b, o, none⟩) hb, hE40.out⟩ (fun hHeld => ?_)
          clear hK K hx
          generalize World.alloc w39 (.cells #[.int .i64 0, .int .i64 0, .int .i64 10, .int .i64 0] 66) = w40 at *
          generalize w39.heap.size = g0 at *
          try simp only [Act.put, List.setIfInBounds_toArray, List.set_cons_zero, List.set_cons_succ]
          refine wpAnyH_take (i := 7) (oi := ⟨some 22, _, _, _, _, _⟩) (v := ?_) rfl (by kernel_rfl) (by kernel_rfl) (by kernel_rfl) (fun _ _ _ h => h) (Or.inl ⟨by rfl, ?_⟩) hHeld ?_
          rotate_left
          · intro w hSw; go_simp; try with_reducible rfl
          try simp only [Act.put, List.setIfInBounds_toArray, List.set_cons_zero, List.set_cons_succ]
          refine wpAnyH_ready (rs := [30]) (by kernel_rfl) (by simp) ?_
          refine AllReadyH.cons (o := ⟨some 45, _, _, _, _, _⟩) rfl (fun K hK => ?_) ?_
          · go_simp
            have hx : Ext w40 (w40.alloc (.cells #[.int .i64 0, .int .i64 8, .int .i64 0, .int .i64 0] 66)) := (Ext.refl _).alloc _
            have hE41 := Lib.hid (hE40.out.trans hx)
            have r3 := Lib.hid (ex_line (Blk.new w40 66 #[.int .i64 0, .int .i64 8, .int .i64 0, .int .i64 0]))
            replace r2 := Lib.hid (r2.out.ext spP.stays hx)
            replace r1 := Lib.hid (r1.out.ext spP.stays hx)
            replace r0 := Lib.hid (r0.out.ext spP.stays hx)
            refine hK.out _ _ ⟨fun b o hb => hE41.out.below.cell (p := ⟨b, o, none⟩) hb, hE41.out⟩ (fun hHeld => ?_)
            clear hK K hx
            generalize World.alloc w40 (.cells #[.int .i64 0, .int .i64 8, .int .i64 0, .int .i64 0] 66) = w41 at *
            generalize w40.heap.size = g3 at *
            try simp only [Act.put, List.setIfInBounds_toArray, List.set_cons_zero, List.set_cons_succ]
            refine wpAnyH_take (i := 31) (oi := ⟨some 46, _, _, _, _, _⟩) (v := ?_) rfl (by kernel_rfl) (by kernel_rfl) (by kernel_rfl) (fun _ _ _ h => h) (Or.inl ⟨by rfl, ?_⟩) hHeld ?_
            rotate_left
            · intro w hSw; go_simp; try with_reducible rfl
            try simp only [Act.put, List.setIfInBounds_toArray, List.set_cons_zero, List.set_cons_succ]
            refine wpAnyH_ready (rs := [32]) (by kernel_rfl) (by simp) (AllReadyH.cons (o := ⟨some 47, _, _, _, _, _⟩) rfl (fun K hK => ?_) AllReadyH.nil)
            go_simp
            refine hK.out _ _ ⟨fun b o hb => ((hE41.out.alloc _).below.cell (p := ⟨b, o, none⟩) hb), hE41.out.alloc _⟩ (fun hHeld => ?_)
            clear hK K
            try simp only [Act.put, List.setIfInBounds_toArray, List.set_cons_zero, List.set_cons_succ]
            refine wpAnyH_take (i := 33) (oi := ⟨some 4, _, _, _, _, _⟩) (v := ?_) rfl (by kernel_rfl) (by kernel_rfl) (by kernel_rfl) (fun _ _ _ h => h) (Or.inl ⟨by rfl, ?_⟩) hHeld ?_
            rotate_left
            · intro w hSw; go_simp; try with_reducible rfl
            try simp only [Act.put, List.setIfInBounds_toArray, List.set_cons_zero, List.set_cons_succ]
            refine wpAnyH_done (by kernel_rfl) ?_ _
            go_wp2_with fail
            go_meet
            exact ⟨ex_row (r0.out.ext spP.stays ((Ext.refl _).alloc _)) (r1.out.ext spP.stays ((Ext.refl _).alloc _)) (r2.out.ext spP.stays ((Ext.refl _).alloc _)) (r3.out.ext spP.stays ((Ext.refl _).alloc _)) (Blk.new _ _ _), hE41.out.alloc _⟩
          exact AllReadyH.nil
        refine AllReadyH.cons (o := ⟨some 45, _, _, _, _, _⟩) rfl (fun K hK => ?_) ?_
        · go_simp
          have hx : Ext w39 (w39.alloc (.cells #[.int .i64 0, .int .i64 8, .int .i64 0, .int .i64 0] 66)) := (Ext.refl _).alloc _
          have hE42 := Lib.hid (hE39.out.trans hx)
          have r3 := Lib.hid (ex_line (Blk.new w39 66 #[.int .i64 0, .int .i64 8, .int .i64 0, .int .i64 0]))
          replace r2 := Lib.hid (r2.out.ext spP.stays hx)
          replace r1 := Lib.hid (r1.out.ext spP.stays hx)
          refine hK.out _ _ ⟨fun b o hb => hE42.out.below.cell (p := ⟨b, o, none⟩) hb, hE42.out⟩ (fun hHeld => ?_)
          clear hK K hx
          generalize World.alloc w39 (.cells #[.int .i64 0, .int .i64 8, .int .i64 0, .int .i64 0] 66) = w42 at *
          generalize w39.heap.size = g3 at *
          try simp only [Act.put, List.setIfInBounds_toArray, List.set_cons_zero, List.set_cons_succ]
          refine wpAnyH_take (i := 31) (oi := ⟨some 46, _, _, _, _, _⟩) (v := ?_) rfl (by kernel_rfl) (by kernel_rfl) (by kernel_rfl) (fun _ _ _ h => h) (Or.inl ⟨by rfl, ?_⟩) hHeld ?_
          rotate_left
          · intro w hSw; go_simp; try with_reducible rfl
          try simp only [Act.put, List.setIfInBounds_toArray, List.set_cons_zero, List.set_cons_succ]
          refine wpAnyH_ready (rs := [6]) (by kernel_rfl) (by simp) ?_
          refine AllReadyH.cons (o := ⟨some 21, _, _, _, _, _⟩) rfl (fun K hK => ?_) ?_
          · go_simp
            have hx : Ext w42 (w42.alloc (.cells #[.int .i64 0, .int .i64 0, .int .i64 10, .int .i64 0] 66)) := (Ext.refl _).alloc _
            have hE43 := Lib.hid (hE42.out.trans hx)
            have r0 := Lib.hid (ex_line (Blk.new w42 66 #[.int .i64 0, .int .i64 0, .int .i64 10, .int .i64 0]))
            replace r2 := Lib.hid (r2.out.ext spP.stays hx)
            replace r1 := Lib.hid (r1.out.ext spP.stays hx)
            replace r3 := Lib.hid (r3.out.ext spP.stays hx)
            refine hK.out _ _ ⟨fun b o hb => hE43.out.below.cell (p := ⟨b, o, none⟩) hb, hE43.out⟩ (fun hHeld => ?_)
            clear hK K hx
            generalize World.alloc w42 (.cells #[.int .i64 0, .int .i64 0, .int .i64 10, .int .i64 0] 66) = w43 at *
            generalize w42.heap.size = g0 at *
            try simp only [Act.put, List.setIfInBounds_toArray, List.set_cons_zero, List.set_cons_succ]
            refine wpAnyH_take (i := 7) (oi := ⟨some 22, _, _, _, _, _⟩) (v := ?_) rfl (by kernel_rfl) (by kernel_rfl) (by kernel_rfl) (fun _ _ _ h => h) (Or.inl ⟨by rfl, ?_⟩) hHeld ?_
            rotate_left
            · intro w hSw; go_simp; try with_reducible rfl
            try simp only [Act.put, List.setIfInBounds_toArray, List.set_cons_zero, List.set_cons_succ]
            refine wpAnyH_ready (rs := [32]) (by kernel_rfl) (by simp) (AllReadyH.cons (o := ⟨some 47, _, _, _, _, _⟩) rfl (fun K hK => ?_) AllReadyH.nil)
            go_simp
            refine hK.out _ _ ⟨fun b o hb => ((hE43.out.alloc _).below.cell (p := ⟨b, o, none⟩) hb), hE43.out.alloc _⟩ (fun hHeld => ?_)
            clear hK K
            try simp only [Act.put, List.setIfInBounds_toArray, List.set_cons_zero, List.set_cons_succ]
            refine wpAnyH_take (i := 33) (oi := ⟨some 4, _, _, _, _, _⟩) (v := ?_) rfl (by kernel_rfl) (by kernel_rfl) (by kernel_rfl) (fun _ _ _ h => h) (Or.inl ⟨by rfl, ?_⟩) hHeld ?_
            rotate_left
            · intro w hSw; go_simp; try with_reducible rfl
            try simp only [Act.put, List.setIfInBounds_toArray, List.set_cons_zero, List.set_cons_succ]
            refine wpAnyH_done (by kernel_rfl) ?_ _
            go_wp2_with fail
            go_meet
            exact ⟨ex_row (r0.out.ext spP.stays ((Ext.refl _).alloc _)) (r1.out.ext spP.stays ((Ext.refl _).alloc _)) (r2.out.ext spP.stays ((Ext.refl _).alloc _)) (r3.out.ext spP.stays ((Ext.refl _).alloc _)) (Blk.new _ _ _), hE43.out.alloc _⟩
          exact AllReadyH.nil
        exact AllReadyH.nil
      refine AllReadyH.cons (o := ⟨some 45, _, _, _, _, _⟩) rfl (fun K hK => ?_) ?_
      · go_simp
        have hx : Ext w33 (w33.alloc (.cells #[.int .i64 0, .int .i64 8, .int .i64 0, .int .i64 0] 66)) := (Ext.refl _).alloc _
        have hE44 := Lib.hid (hE33.out.trans hx)
        have r3 := Lib.hid (ex_line (Blk.new w33 66 #[.int .i64 0, .int .i64 8, .int .i64 0, .int .i64 0]))
        replace r2 := Lib.hid (r2.out.ext spP.stays hx)
        refine hK.out _ _ ⟨fun b o hb => hE44.out.below.cell (p := ⟨b, o, none⟩) hb, hE44.out⟩ (fun hHeld => ?_)
        clear hK K hx
        generalize World.alloc w33 (.cells #[.int .i64 0, .int .i64 8, .int .i64 0, .int .i64 0] 66) = w44 at *
        generalize w33.heap.size = g3 at *
        try simp only [Act.put, List.setIfInBounds_toArray, List.set_cons_zero, List.set_cons_succ]
        refine wpAnyH_take (i := 31) (oi := ⟨some 46, _, _, _, _, _⟩) (v := ?_) rfl (by kernel_rfl) (by kernel_rfl) (by kernel_rfl) (fun _ _ _ h => h) (Or.inl ⟨by rfl, ?_⟩) hHeld ?_
        rotate_left
        · intro w hSw; go_simp; try with_reducible rfl
        try simp only [Act.put, List.setIfInBounds_toArray, List.set_cons_zero, List.set_cons_succ]
        refine wpAnyH_ready (rs := [6, 14]) (by kernel_rfl) (by simp) ?_
        refine AllReadyH.cons (o := ⟨some 21, _, _, _, _, _⟩) rfl (fun K hK => ?_) ?_
        · go_simp
          have hx : Ext w44 (w44.alloc (.cells #[.int .i64 0, .int .i64 0, .int .i64 10, .int .i64 0] 66)) := (Ext.refl _).alloc _
          have hE45 := Lib.hid (hE44.out.trans hx)
          have r0 := Lib.hid (ex_line (Blk.new w44 66 #[.int .i64 0, .int .i64 0, .int .i64 10, .int .i64 0]))
          replace r2 := Lib.hid (r2.out.ext spP.stays hx)
          replace r3 := Lib.hid (r3.out.ext spP.stays hx)
          refine hK.out _ _ ⟨fun b o hb => hE45.out.below.cell (p := ⟨b, o, none⟩) hb, hE45.out⟩ (fun hHeld => ?_)
          clear hK K hx
          generalize World.alloc w44 (.cells #[.int .i64 0, .int .i64 0, .int .i64 10, .int .i64 0] 66) = w45 at *
          generalize w44.heap.size = g0 at *
          try simp only [Act.put, List.setIfInBounds_toArray, List.set_cons_zero, List.set_cons_succ]
          refine wpAnyH_take (i := 7) (oi := ⟨some 22, _, _, _, _, _⟩) (v := ?_) rfl (by kernel_rfl) (by kernel_rfl) (by kernel_rfl) (fun _ _ _ h => h) (Or.inl ⟨by rfl, ?_⟩) hHeld ?_
          rotate_left
          · intro w hSw; go_simp; try with_reducible rfl
          try simp only [Act.put, List.setIfInBounds_toArray, List.set_cons_zero, List.set_cons_succ]
          refine wpAnyH_ready (rs := [14]) (by kernel_rfl) (by simp) ?_
          refine AllReadyH.cons (o := ⟨some 29, _, _, _, _, _⟩) rfl (fun K hK => ?_) ?_
          · go_simp
            have hx : Ext w45 (w45.alloc (.cells #[.int .i64 10, .int .i64 0, .int .i64 10, .int .i64 8] 66)) := (Ext.refl _).alloc _
            have hE46 := Lib.hid (hE45.out.trans hx)
            have r1 := Lib.hid (ex_line (Blk.new w45 66 #[.int .i64 10, .int .i64 0, .int .i64 10, .int .i64 8]))
            replace r2 := Lib.hid (r2.out.ext spP.stays hx)
            replace r3 := Lib.hid (r3.out.ext spP.stays hx)
            replace r0 := Lib.hid (r0.out.ext spP.stays hx)
            refine hK.out _ _ ⟨fun b o hb => hE46.out.below.cell (p := ⟨b, o, none⟩) hb, hE46.out⟩ (fun hHeld => ?_)
            clear hK K hx
            generalize World.alloc w45 (.cells #[.int .i64 10, .int .i64 0, .int .i64 10, .int .i64 8] 66) = w46 at *
            generalize w45.heap.size = g1 at *
            try simp only [Act.put, List.setIfInBounds_toArray, List.set_cons_zero, List.set_cons_succ]
            refine wpAnyH_take (i := 15) (oi := ⟨some 30, _, _, _, _, _⟩) (v := ?_) rfl (by kernel_rfl) (by kernel_rfl) (by kernel_rfl) (fun _ _ _ h => h) (Or.inl ⟨by rfl, ?_⟩) hHeld ?_
            rotate_left
            · intro w hSw; go_simp; try with_reducible rfl
            try simp only [Act.put, List.setIfInBounds_toArray, List.set_cons_zero, List.set_cons_succ]
            refine wpAnyH_ready (rs := [32]) (by kernel_rfl) (by simp) (AllReadyH.cons (o := ⟨some 47, _, _, _, _, _⟩) rfl (fun K hK => ?_) AllReadyH.nil)
            go_simp
            refine hK.out _ _ ⟨fun b o hb => ((hE46.out.alloc _).below.cell (p := ⟨b, o, none⟩) hb), hE46.out.alloc _⟩ (fun hHeld => ?_)
            clear hK K
            try simp only [Act.put, List.setIfInBounds_toArray, List.set_cons_zero, List.set_cons_succ]
            refine wpAnyH_take (i := 33) (oi := ⟨some 4, _, _, _, _, _⟩) (v := ?_) rfl (by kernel_rfl) (by kernel_rfl) (by kernel_rfl) (fun _ _ _ h => h) (Or.inl ⟨by rfl, ?_⟩) hHeld ?_
            rotate_left
            · intro w hSw; go_simp; try with_reducible rfl
            try simp only [Act.put, List.setIfInBounds_toArray, List.set_cons_zero, List.set_cons_succ]
            refine wpAnyH_done (by kernel_rfl) ?_ _
            go_wp2_with fail
            go_meet
            exact ⟨ex_row (r0.out.ext spP.stays ((Ext.refl _).alloc _)) (r1.out.ext spP.stays ((Ext.refl _).alloc _)) (r2.out.ext spP.stays ((Ext.refl _).alloc _)) (r3.out.ext spP.stays ((Ext.refl _).alloc _)) (Blk.new _ _ _), hE46.out.alloc _⟩
          exact AllReadyH.nil
        refine AllReadyH.cons (o := ⟨some 29, _, _, _, _, _⟩) rfl (fun K hK => ?_) ?_
        · go_simp
          have hx : Ext w44 (w44.alloc (.cells #[.int .i64 10, .int .i64 0, .int .i64 10, .int .i64 8] 66)) := (Ext.refl _).alloc _
          have hE47 := Lib.hid (hE44.out.trans hx)
          have r1 := Lib.hid (ex_line (Blk.new w44 66 #[.int .i64 10, .int .i64 0, .int .i64 10, .int .i64 8]))
          replace r2 := Lib.hid (r2.out.ext spP.stays hx)
          replace r3 := Lib.hid (r3.out.ext spP.stays hx)
          refine hK.out _ _ ⟨fun b o hb => hE47.out.below.cell (p := ⟨b, o, none⟩) hb, hE47.out⟩ (fun hHeld => ?_)
          clear hK K hx
          generalize World.alloc w44 (.cells #[.int .i64 10, .int .i64 0, .int .i64 10, .int .i64 8] 66) = w47 at *
          generalize w44.heap.size = g1 at *
          try simp only [Act.put, List.setIfInBounds_toArray, List.set_cons_zero, List.set_cons_succ]
          refine wpAnyH_take (i := 15) (oi := ⟨some 30, _, _, _, _, _⟩) (v := ?_) rfl (by kernel_rfl) (by kernel_rfl) (by kernel_rfl) (fun _ _ _ h => h) (Or.inl ⟨by rfl, ?_⟩) hHeld ?_
          rotate_left
          · intro w hSw; go_simp; try with_reducible rfl
          try simp only [Act.put, List.setIfInBounds_toArray, List.set_cons_zero, List.set_cons_succ]
          refine wpAnyH_ready (rs := [6]) (by kernel_rfl) (by simp) ?_
          refine AllReadyH.cons (o := ⟨some 21, _, _, _, _, _⟩) rfl (fun K hK => ?_) ?_
          · go_simp
            have hx : Ext w47 (w47.alloc (.cells #[.int .i64 0, .int .i64 0, .int .i64 10, .int .i64 0] 66)) := (Ext.refl _).alloc _
            have hE48 := Lib.hid (hE47.out.trans hx)
            have r0 := Lib.hid (ex_line (Blk.new w47 66 #[.int .i64 0, .int .i64 0, .int .i64 10, .int .i64 0]))
            replace r2 := Lib.hid (r2.out.ext spP.stays hx)
            replace r3 := Lib.hid (r3.out.ext spP.stays hx)
            replace r1 := Lib.hid (r1.out.ext spP.stays hx)
            refine hK.out _ _ ⟨fun b o hb => hE48.out.below.cell (p := ⟨b, o, none⟩) hb, hE48.out⟩ (fun hHeld => ?_)
            clear hK K hx
            generalize World.alloc w47 (.cells #[.int .i64 0, .int .i64 0, .int .i64 10, .int .i64 0] 66) = w48 at *
            generalize w47.heap.size = g0 at *
            try simp only [Act.put, List.setIfInBounds_toArray, List.set_cons_zero, List.set_cons_succ]
            refine wpAnyH_take (i := 7) (oi := ⟨some 22, _, _, _, _, _⟩) (v := ?_) rfl (by kernel_rfl) (by kernel_rfl) (by kernel_rfl) (fun _ _ _ h => h) (Or.inl ⟨by rfl, ?_⟩) hHeld ?_
            rotate_left
            · intro w hSw; go_simp; try with_reducible rfl
            try simp only [Act.put, List.setIfInBounds_toArray, List.set_cons_zero, List.set_cons_succ]
            refine wpAnyH_ready (rs := [32]) (by kernel_rfl) (by simp) (AllReadyH.cons (o := ⟨some 47, _, _, _, _, _⟩) rfl (fun K hK => ?_) AllReadyH.nil)
            go_simp
            refine hK.out _ _ ⟨fun b o hb => ((hE48.out.alloc _).below.cell (p := ⟨b, o, none⟩) hb), hE48.out.alloc _⟩ (fun hHeld => ?_)
            clear hK K
            try simp only [Act.put, List.setIfInBounds_toArray, List.set_cons_zero, List.set_cons_succ]
            refine wpAnyH_take (i := 33) (oi := ⟨some 4, _, _, _, _, _⟩) (v := ?_) rfl (by kernel_rfl) (by kernel_rfl) (by kernel_rfl) (fun _ _ _ h => h) (Or.inl ⟨by rfl, ?_⟩) hHeld ?_
            rotate_left
            · intro w hSw; go_simp; try with_reducible rfl
            try simp only [Act.put, List.setIfInBounds_toArray, List.set_cons_zero, List.set_cons_succ]
            refine wpAnyH_done (by kernel_rfl) ?_ _
            go_wp2_with fail
            go_meet
            exact ⟨ex_row (r0.out.ext spP.stays ((Ext.refl _).alloc _)) (r1.out.ext spP.stays ((Ext.refl _).alloc _)) (r2.out.ext spP.stays ((Ext.refl _).alloc _)) (r3.out.ext spP.stays ((Ext.refl _).alloc _)) (Blk.new _ _ _), hE48.out.alloc _⟩
          exact AllReadyH.nil
        exact AllReadyH.nil
      exact AllReadyH.nil
    refine AllReadyH.cons (o := ⟨some 45, _, _, _, _, _⟩) rfl (fun K hK => ?_) ?_
    · go_simp
      have hx : Ext w0 (w0.alloc (.cells #[.int .i64 0, .int .i64 8, .int .i64 0, .int .i64 0] 66)) := (Ext.refl _).alloc _
      have hE49 := Lib.hid (hE0.out.trans hx)
      have r3 := Lib.hid (ex_line (Blk.new w0 66 #[.int .i64 0, .int .i64 8, .int .i64 0, .int .i64 0]))
      refine hK.out _ _ ⟨fun b o hb => hE49.out.below.cell (p := ⟨b, o, none⟩) hb, hE49.out⟩ (fun hHeld => ?_)
      clear hK K hx
      generalize World.alloc w0 (.cells #[.int .i64 0, .int .i64 8, .int .i64 0, .int .i64 0] 66) = w49 at *
      generalize w0.heap.size = g3 at *
      try simp only [Act.put, List.setIfInBounds_toArray, List.set_cons_zero, List.set_cons_succ]
      refine wpAnyH_take (i := 31) (oi := ⟨some 46, _, _, _, _, _⟩) (v := ?_) rfl (by kernel_rfl) (by kernel_rfl) (by kernel_rfl) (fun _ _ _ h => h) (Or.inl ⟨by rfl, ?_⟩) hHeld ?_
      rotate_left
      · intro w hSw; go_simp; try with_reducible rfl
      try simp only [Act.put, List.setIfInBounds_toArray, List.set_cons_zero, List.set_cons_succ]
      refine wpAnyH_ready (rs := [6, 14, 22]) (by kernel_rfl) (by simp) ?_
      refine AllReadyH.cons (o := ⟨some 21, _, _, _, _, _⟩) rfl (fun K hK => ?_) ?_
      · go_simp
        have hx : Ext w49 (w49.alloc (.cells #[.int .i64 0, .int .i64 0, .int .i64 10, .int .i64 0] 66)) := (Ext.refl _).alloc _
        have hE50 := Lib.hid (hE49.out.trans hx)
        have r0 := Lib.hid (ex_line (Blk.new w49 66 #[.int .i64 0, .int .i64 0, .int .i64 10, .int .i64 0]))
        replace r3 := Lib.hid (r3.out.ext spP.stays hx)
        refine hK.out _ _ ⟨fun b o hb => hE50.out.below.cell (p := ⟨b, o, none⟩) hb, hE50.out⟩ (fun hHeld => ?_)
        clear hK K hx
        generalize World.alloc w49 (.cells #[.int .i64 0, .int .i64 0, .int .i64 10, .int .i64 0] 66) = w50 at *
        generalize w49.heap.size = g0 at *
        try simp only [Act.put, List.setIfInBounds_toArray, List.set_cons_zero, List.set_cons_succ]
        refine wpAnyH_take (i := 7) (oi := ⟨some 22, _, _, _, _, _⟩) (v := ?_) rfl (by kernel_rfl) (by kernel_rfl) (by kernel_rfl) (fun _ _ _ h => h) (Or.inl ⟨by rfl, ?_⟩) hHeld ?_
        rotate_left
        · intro w hSw; go_simp; try with_reducible rfl
        try simp only [Act.put, List.setIfInBounds_toArray, List.set_cons_zero, List.set_cons_succ]
        refine wpAnyH_ready (rs := [14, 22]) (by kernel_rfl) (by simp) ?_
        refine AllReadyH.cons (o := ⟨some 29, _, _, _, _, _⟩) rfl (fun K hK => ?_) ?_
        · go_simp
          have hx : Ext w50 (w50.alloc (.cells #[.int .i64 10, .int .i64 0, .int .i64 10, .int .i64 8] 66)) := (Ext.refl _).alloc _
          have hE51 := Lib.hid (hE50.out.trans hx)
          have r1 := Lib.hid (ex_line (Blk.new w50 66 #[.int .i64 10, .int .i64 0, .int .i64 10, .int .i64 8]))
          replace r3 := Lib.hid (r3.out.ext spP.stays hx)
          replace r0 := Lib.hid (r0.out.ext spP.stays hx)
          refine hK.out _ _ ⟨fun b o hb => hE51.out.below.cell (p := ⟨b, o, none⟩) hb, hE51.out⟩ (fun hHeld => ?_)
          clear hK K hx
          generalize World.alloc w50 (.cells #[.int .i64 10, .int .i64 0, .int .i64 10, .int .i64 8] 66) = w51 at *
          generalize w50.heap.size = g1 at *
          try simp only [Act.put, List.setIfInBounds_toArray, List.set_cons_zero, List.set_cons_succ]
          refine wpAnyH_take (i := 15) (oi := ⟨some 30, _, _, _, _, _⟩) (v := ?_) rfl (by kernel_rfl) (by kernel_rfl) (by kernel_rfl) (fun _ _ _ h => h) (Or.inl ⟨by rfl, ?_⟩) hHeld ?_
          rotate_left
          · intro w hSw; go_simp; try with_reducible rfl
          try simp only [Act.put, List.setIfInBounds_toArray, List.set_cons_zero, List.set_cons_succ]
          refine wpAnyH_ready (rs := [22]) (by kernel_rfl) (by simp) ?_
          refine AllReadyH.cons (o := ⟨some 37, _, _, _, _, _⟩) rfl (fun K hK => ?_) ?_
          · go_simp
            have hx : Ext w51 (w51.alloc (.cells #[.int .i64 10, .int .i64 8, .int .i64 0, .int .i64 8] 66)) := (Ext.refl _).alloc _
            have hE52 := Lib.hid (hE51.out.trans hx)
            have r2 := Lib.hid (ex_line (Blk.new w51 66 #[.int .i64 10, .int .i64 8, .int .i64 0, .int .i64 8]))
            replace r3 := Lib.hid (r3.out.ext spP.stays hx)
            replace r0 := Lib.hid (r0.out.ext spP.stays hx)
            replace r1 := Lib.hid (r1.out.ext spP.stays hx)
            refine hK.out _ _ ⟨fun b o hb => hE52.out.below.cell (p := ⟨b, o, none⟩) hb, hE52.out⟩ (fun hHeld => ?_)
            clear hK K hx
            generalize World.alloc w51 (.cells #[.int .i64 10, .int .i64 8, .int .i64 0, .int .i64 8] 66) = w52 at *
            generalize w51.heap.size = g2 at *
            try simp only [Act.put, List.setIfInBounds_toArray, List.set_cons_zero, List.set_cons_succ]
            refine wpAnyH_take (i := 23) (oi := ⟨some 38, _, _, _, _, _⟩) (v := ?_) rfl (by kernel_rfl) (by kernel_rfl) (by kernel_rfl) (fun _ _ _ h => h) (Or.inl ⟨by rfl, ?_⟩) hHeld ?_
            rotate_left
            · intro w hSw; go_simp; try with_reducible rfl
            try simp only [Act.put, List.setIfInBounds_toArray, List.set_cons_zero, List.set_cons_succ]
            refine wpAnyH_ready (rs := [32]) (by kernel_rfl) (by simp) (AllReadyH.cons (o := ⟨some 47, _, _, _, _, _⟩) rfl (fun K hK => ?_) AllReadyH.nil)
            go_simp
            refine hK.out _ _ ⟨fun b o hb => ((hE52.out.alloc _).below.cell (p := ⟨b, o, none⟩) hb), hE52.out.alloc _⟩ (fun hHeld => ?_)
            clear hK K
            try simp only [Act.put, List.setIfInBounds_toArray, List.set_cons_zero, List.set_cons_succ]
            refine wpAnyH_take (i := 33) (oi := ⟨some 4, _, _, _, _, _⟩) (v := ?_) rfl (by kernel_rfl) (by kernel_rfl) (by kernel_rfl) (fun _ _ _ h => h) (Or.inl ⟨by rfl, ?_⟩) hHeld ?_
            rotate_left
            · intro w hSw; go_simp; try with_reducible rfl
            try simp only [Act.put, List.setIfInBounds_toArray, List.set_cons_zero, List.set_cons_succ]
            refine wpAnyH_done (by kernel_rfl) ?_ _
            go_wp2_with fail
            go_meet
            exact ⟨ex_row (r0.out.ext spP.stays ((Ext.refl _).alloc _)) (r1.out.ext spP.stays ((Ext.refl _).alloc _)) (r2.out.ext spP.stays ((Ext.refl _).alloc _)) (r3.out.ext spP.stays ((Ext.refl _).alloc _)) (Blk.new _ _ _), hE52.out.alloc _⟩
          exact AllReadyH.nil
        refine AllReadyH.cons (o := ⟨some 37, _, _, _, _, _⟩) rfl (fun K hK => ?_) ?_
        · go_simp
          have hx : Ext w50 (w50.alloc (.cells #[.int .i64 10, .int .i64 8, .int .i64 0, .int .i64 8] 66)) := (Ext.refl _).alloc _
          have hE53 := Lib.hid (hE50.out.trans hx)
          have r2 := Lib.hid (ex_line (Blk.new w50 66 #[.int .i64 10, .int .i64 8, .int .i64 0, .int .i64 8]))
          replace r3 := Lib.hid (r3.out.ext spP.stays hx)
          replace r0 := Lib.hid (r0.out.ext spP.stays hx)
          refine hK.out _ _ ⟨fun b o hb => hE53.out.below.cell (p := ⟨b, o, none⟩) hb, hE53.out⟩ (fun hHeld => ?_)
          clear hK K hx
          generalize World.alloc w50 (.cells #[.int .i64 10, .int .i64 8, .int .i64 0, .int .i64 8] 66) = w53 at *
          generalize w50.heap.size = g2 at *
          try simp only [Act.put, List.setIfInBounds_toArray, List.set_cons_zero, List.set_cons_succ]
          refine wpAnyH_take (i := 23) (oi := ⟨some 38, _, _, _, _, _⟩) (v := ?_) rfl (by kernel_rfl) (by kernel_rfl) (by kernel_rfl) (fun _ _ _ h => h) (Or.inl ⟨by rfl, ?_⟩) hHeld ?_
          rotate_left
          · intro w hSw; go_simp; try with_reducible rfl
          try simp only [Act.put, List.setIfInBounds_toArray, List.set_cons_zero, List.set_cons_succ]
          refine wpAnyH_ready (rs := [14]) (by kernel_rfl) (by simp) ?_
          refine AllReadyH.cons (o := ⟨some 29, _, _, _, _, _⟩) rfl (fun K hK => ?_) ?_
          · go_simp
            have hx : Ext w53 (w53.alloc (.cells #[.int .i64 10, .int .i64 0, .int .i64 10, .int .i64 8] 66)) := (Ext.refl _).alloc _
            have hE54 := Lib.hid (hE53.out.trans hx)
            have r1 := Lib.hid (ex_line (Blk.new w53 66 #[.int .i64 10, .int .i64 0, .int .i64 10, .int .i64 8]))
            replace r3 := Lib.hid (r3.out.ext spP.stays hx)
            replace r0 := Lib.hid (r0.out.ext spP.stays hx)
            replace r2 := Lib.hid (r2.out.ext spP.stays hx)
            refine hK.out _ _ ⟨fun b o hb => hE54.out.below.cell (p := ⟨b, o, none⟩) hb, hE54.out⟩ (fun hHeld => ?_)
            clear hK K hx
            generalize World.alloc w53 (.cells #[.int .i64 10, .int .i64 0, .int .i64 10, .int .i64 8] 66) = w54 at *
            generalize w53.heap.size = g1 at *
            try simp only [Act.put, List.setIfInBounds_toArray, List.set_cons_zero, List.set_cons_succ]
            refine wpAnyH_take (i := 15) (oi := ⟨some 30, _, _, _, _, _⟩) (v := ?_) rfl (by kernel_rfl) (by kernel_rfl) (by kernel_rfl) (fun _ _ _ h => h) (Or.inl ⟨by rfl, ?_⟩) hHeld ?_
            rotate_left
            · intro w hSw; go_simp; try with_reducible rfl
            try simp only [Act.put, List.setIfInBounds_toArray, List.set_cons_zero, List.set_cons_succ]
            refine wpAnyH_ready (rs := [32]) (by kernel_rfl) (by simp) (AllReadyH.cons (o := ⟨some 47, _, _, _, _, _⟩) rfl (fun K hK => ?_) AllReadyH.nil)
            go_simp
            refine hK.out _ _ ⟨fun b o hb => ((hE54.out.alloc _).below.cell (p := ⟨b, o, none⟩) hb), hE54.out.alloc _⟩ (fun hHeld => ?_)
            clear hK K
            try simp only [Act.put, List.setIfInBounds_toArray, List.set_cons_zero, List.set_cons_succ]
            refine wpAnyH_take (i := 33) (oi := ⟨some 4, _, _, _, _, _⟩) (v := ?_) rfl (by kernel_rfl) (by kernel_rfl) (by kernel_rfl) (fun _ _ _ h => h) (Or.inl ⟨by rfl, ?_⟩) hHeld ?_
            rotate_left
            · intro w hSw; go_simp; try with_reducible rfl
            try simp only [Act.put, List.setIfInBounds_toArray, List.set_cons_zero, List.set_cons_succ]
            refine wpAnyH_done (by kernel_rfl) ?_ _
            go_wp2_with fail
            go_meet
            exact ⟨ex_row (r0.out.ext spP.stays ((Ext.refl _).alloc _)) (r1.out.ext spP.stays ((Ext.refl _).alloc _)) (r2.out.ext spP.stays ((Ext.refl _).alloc _)) (r3.out.ext spP.stays ((Ext.refl _).alloc _)) (Blk.new _ _ _), hE54.out.alloc _⟩
          exact AllReadyH.nil
        exact AllReadyH.nil
      refine AllReadyH.cons (o := ⟨some 29, _, _, _, _, _⟩) rfl (fun K hK => ?_) ?_
      · go_simp
        have hx : Ext w49 (w49.alloc (.cells #[.int .i64 10, .int .i64 0, .int .i64 10, .int .i64 8] 66)) := (Ext.refl _).alloc _
        have hE55 := Lib.hid (hE49.out.trans hx)
        have r1 := Lib.hid (ex_line (Blk.new w49 66 #[.int .i64 10, .int .i64 0, .int .i64 10, .int .i64 8]))
        replace r3 := Lib.hid (r3.out.ext spP.stays hx)
        refine hK.out _ _ ⟨fun b o hb => hE55.out.below.cell (p := ⟨b, o, none⟩) hb, hE55.out⟩ (fun hHeld => ?_)
        clear hK K hx
        generalize World.alloc w49 (.cells #[.int .i64 10, .int .i64 0, .int .i64 10, .int .i64 8] 66) = w55 at *
        generalize w49.heap.size = g1 at *
        try simp only [Act.put, List.setIfInBounds_toArray, List.set_cons_zero, List.set_cons_succ]
        refine wpAnyH_take (i := 15) (oi := ⟨some 30, _, _, _, _, _⟩) (v := ?_) rfl (by kernel_rfl) (by kernel_rfl) (by kernel_rfl) (fun _ _ _ h => h) (Or.inl ⟨by rfl, ?_⟩) hHeld ?_
        rotate_left
        · intro w hSw; go_simp; try with_reducible rfl
        try simp only [Act.put, List.setIfInBounds_toArray, List.set_cons_zero, List.set_cons_succ]
        refine wpAnyH_ready (rs := [6, 22]) (by kernel_rfl) (by simp) ?_
        refine AllReadyH.cons (o := ⟨some 21, _, _, _, _, _⟩) rfl (fun K hK => ?_) ?_
        · go_simp
          have hx : Ext w55 (w55.alloc (.cells #[.int .i64 0, .int .i64 0, .int .i64 10, .int .i64 0] 66)) := (Ext.refl _).alloc _
          have hE56 := Lib.hid (hE55.out.trans hx)
          have r0 := Lib.hid (ex_line (Blk.new w55 66 #[.int .i64 0, .int .i64 0, .int .i64 10, .int .i64 0]))
          replace r3 := Lib.hid (r3.out.ext spP.stays hx)
          replace r1 := Lib.hid (r1.out.ext spP.stays hx)
          refine hK.out _ _ ⟨fun b o hb => hE56.out.below.cell (p := ⟨b, o, none⟩) hb, hE56.out⟩ (fun hHeld => ?_)
          clear hK K hx
          generalize World.alloc w55 (.cells #[.int .i64 0, .int .i64 0, .int .i64 10, .int .i64 0] 66) = w56 at *
          generalize w55.heap.size = g0 at *
          try simp only [Act.put, List.setIfInBounds_toArray, List.set_cons_zero, List.set_cons_succ]
          refine wpAnyH_take (i := 7) (oi := ⟨some 22, _, _, _, _, _⟩) (v := ?_) rfl (by kernel_rfl) (by kernel_rfl) (by kernel_rfl) (fun _ _ _ h => h) (Or.inl ⟨by rfl, ?_⟩) hHeld ?_
          rotate_left
          · intro w hSw; go_simp; try with_reducible rfl
          try simp only [Act.put, List.setIfInBounds_toArray, List.set_cons_zero, List.set_cons_succ]
          refine wpAnyH_ready (rs := [22]) (by kernel_rfl) (by simp) ?_
          refine AllReadyH.cons (o := ⟨some 37, _, _, _, _, _⟩) rfl (fun K hK => ?_) ?_
          · go_simp
            have hx : Ext w56 (w56.alloc (.cells #[.int .i64 10, .int .i64 8, .int .i64 0, .int .i64 8] 66)) := (Ext.refl _).alloc _
            have hE57 := Lib.hid (hE56.out.trans hx)
            have r2 := Lib.hid (ex_line (Blk.new w56 66 #[.int .i64 10, .int .i64 8, .int .i64 0, .int .i64 8]))
            replace r3 := Lib.hid (r3.out.ext spP.stays hx)
            replace r1 := Lib.hid (r1.out.ext spP.stays hx)
            replace r0 := Lib.hid (r0.out.ext spP.stays hx)
            refine hK.out _ _ ⟨fun b o hb => hE57.out.below.cell (p := ⟨b, o, none⟩) hb, hE57.out⟩ (fun hHeld => ?_)
            clear hK K hx
            generalize World.alloc w56 (.cells #[.int .i64 10, .int .i64 8, .int .i64 0, .int .i64 8] 66) = w57 at *
            generalize w56.heap.size = g2 at *
            try simp only [Act.put, List.setIfInBounds_toArray, List.set_cons_zero, List.set_cons_succ]
            refine wpAnyH_take (i := 23) (oi := ⟨some 38, _, _, _, _, _⟩) (v := ?_) rfl (by kernel_rfl) (by kernel_rfl) (by kernel_rfl) (fun _ _ _ h => h) (Or.inl ⟨by rfl, ?_⟩) hHeld ?_
            rotate_left
            · intro w hSw; go_simp; try with_reducible rfl
            try simp only [Act.put, List.setIfInBounds_toArray, List.set_cons_zero, List.set_cons_succ]
            refine wpAnyH_ready (rs := [32]) (by kernel_rfl) (by simp) (AllReadyH.cons (o := ⟨some 47, _, _, _, _, _⟩) rfl (fun K hK => ?_) AllReadyH.nil)
            go_simp
            refine hK.out _ _ ⟨fun b o hb => ((hE57.out.alloc _).below.cell (p := ⟨b, o, none⟩) hb), hE57.out.alloc _⟩ (fun hHeld => ?_)
            clear hK K
            try simp only [Act.put, List.setIfInBounds_toArray, List.set_cons_zero, List.set_cons_succ]
            refine wpAnyH_take (i := 33) (oi := ⟨some 4, _, _, _, _, _⟩) (v := ?_) rfl (by kernel_rfl) (by kernel_rfl) (by kernel_rfl) (fun _ _ _ h => h) (Or.inl ⟨by rfl, ?_⟩) hHeld ?_
            rotate_left
            · intro w hSw; go_simp; try with_reducible rfl
            try simp only [Act.put, List.setIfInBounds_toArray, List.set_cons_zero, List.set_cons_succ]
            refine wpAnyH_done (by kernel_rfl) ?_ _
            go_wp2_with fail
            go_meet
            exact ⟨ex_row (r0.out.ext spP.stays ((Ext.refl _).alloc _)) (r1.out.ext spP.stays ((Ext.refl _).alloc _)) (r2.out.ext spP.stays ((Ext.refl _).alloc _)) (r3.out.ext spP.stays ((Ext.refl _).alloc _)) (Blk.new _ _ _), hE57.out.alloc _⟩
          exact AllReadyH.nil
        refine AllReadyH.cons (o := ⟨some 37, _, _, _, _, _⟩) rfl (fun K hK => ?_) ?_
        · go_simp
          have hx : Ext w55 (w55.alloc (.cells #[.int .i64 10, .int .i64 8, .int .i64 0, .int .i64 8] 66)) := (Ext.refl _).alloc _
          have hE58 := Lib.hid (hE55.out.trans hx)
          have r2 := Lib.hid (ex_line (Blk.new w55 66 #[.int .i64 10, .int .i64 8, .int .i64 0, .int .i64 8]))
          replace r3 := Lib.hid (r3.out.ext spP.stays hx)
          replace r1 := Lib.hid (r1.out.ext spP.stays hx)
          refine hK.out _ _ ⟨fun b o hb => hE58.out.below.cell (p := ⟨b, o, none⟩) hb, hE58.out⟩ (fun hHeld => ?_)
          clear hK K hx
          generalize World.alloc w55 (.cells #[.int .i64 10, .int .i64 8, .int .i64 0, .int .i64 8] 66) = w58 at *
          generalize w55.heap.size = g2 at *
          try simp only [Act.put, List.setIfInBounds_toArray, List.set_cons_zero, List.set_cons_succ]
          refine wpAnyH_take (i := 23) (oi := ⟨some 38, _, _, _, _, _⟩) (v := ?_) rfl (by kernel_rfl) (by kernel_rfl) (by kernel_rfl) (fun _ _ _ h => h) (Or.inl ⟨by rfl, ?_⟩) hHeld ?_
          rotate_left
          · intro w hSw; go_simp; try with_reducible rfl
          try simp only [Act.put, List.setIfInBounds_toArray, List.set_cons_zero, List.set_cons_succ]
          refine wpAnyH_ready (rs := [6]) (by kernel_rfl) (by simp) ?_
          refine AllReadyH.cons (o := ⟨some 21, _, _, _, _, _⟩) rfl (fun K hK => ?_) ?_
          · go_simp
            have hx : Ext w58 (w58.alloc (.cells #[.int .i64 0, .int .i64 0, .int .i64 10, .int .i64 0] 66)) := (Ext.refl _).alloc _
            have hE59 := Lib.hid (hE58.out.trans hx)
            have r0 := Lib.hid (ex_line (Blk.new w58 66 #[.int .i64 0, .int .i64 0, .int .i64 10, .int .i64 0]))
            replace r3 := Lib.hid (r3.out.ext spP.stays hx)
            replace r1 := Lib.hid (r1.out.ext spP.stays hx)
            replace r2 := Lib.hid (r2.out.ext spP.stays hx)
            refine hK.out _ _ ⟨fun b o hb => hE59.out.below.cell (p := ⟨b, o, none⟩) hb, hE59.out⟩ (fun hHeld => ?_)
            clear hK K hx
            generalize World.alloc w58 (.cells #[.int .i64 0, .int .i64 0, .int .i64 10, .int .i64 0] 66) = w59 at *
            generalize w58.heap.size = g0 at *
            try simp only [Act.put, List.setIfInBounds_toArray, List.set_cons_zero, List.set_cons_succ]
            refine wpAnyH_take (i := 7) (oi := ⟨some 22, _, _, _, _, _⟩) (v := ?_) rfl (by kernel_rfl) (by kernel_rfl) (by kernel_rfl) (fun _ _ _ h => h) (Or.inl ⟨by rfl, ?_⟩) hHeld ?_
            rotate_left
            · intro w hSw; go_simp; try with_reducible rfl
            try simp only [Act.put, List.setIfInBounds_toArray, List.set_cons_zero, List.set_cons_succ]
            refine wpAnyH_ready (rs := [32]) (by kernel_rfl) (by simp) (AllReadyH.cons (o := ⟨some 47, _, _, _, _, _⟩) rfl (fun K hK => ?_) AllReadyH.nil)
            go_simp
            refine hK.out _ _ ⟨fun b o hb => ((hE59.out.alloc _).below.cell (p := ⟨b, o, none⟩) hb), hE59.out.alloc _⟩ (fun hHeld => ?_)
            clear hK K
            try simp only [Act.put, List.setIfInBounds_toArray, List.set_cons_zero, List.set_cons_succ]
            refine wpAnyH_take (i := 33) (oi := ⟨some 4, _, _, _, _, _⟩) (v := ?_) rfl (by kernel_rfl) (by kernel_rfl) (by kernel_rfl) (fun _ _ _ h => h) (Or.inl ⟨by rfl, ?_⟩) hHeld ?_
            rotate_left
            · intro w hSw; go_simp; try with_reducible rfl
            try simp only [Act.put, List.setIfInBounds_toArray, List.set_cons_zero, List.set_cons_succ]
            refine wpAnyH_done (by kernel_rfl) ?_ _
            go_wp2_with fail
            go_meet
            exact ⟨ex_row (r0.out.ext spP.stays ((Ext.refl _).alloc _)) (r1.out.ext spP.stays ((Ext.refl _).alloc _)) (r2.out.ext spP.stays ((Ext.refl _).alloc _)) (r3.out.ext spP.stays ((Ext.refl _).alloc _)) (Blk.new _ _ _), hE59.out.alloc _⟩
          exact AllReadyH.nil
        exact AllReadyH.nil
      refine AllReadyH.cons (o := ⟨some 37, _, _, _, _, _⟩) rfl (fun K hK => ?_) ?_
      · go_simp
        have hx : Ext w49 (w49.alloc (.cells #[.int .i64 10, .int .i64 8, .int .i64 0, .int .i64 8] 66)) := (Ext.refl _).alloc _
        have hE60 := Lib.hid (hE49.out.trans hx)
        have r2 := Lib.hid (ex_line (Blk.new w49 66 #[.int .i64 10, .int .i64 8, .int .i64 0, .int .i64 8]))
        replace r3 := Lib.hid (r3.out.ext spP.stays hx)
        refine hK.out _ _ ⟨fun b o hb => hE60.out.below.cell (p := ⟨b, o, none⟩) hb, hE60.out⟩ (fun hHeld => ?_)
        clear hK K hx
        generalize World.alloc w49 (.cells #[.int .i64 10, .int .i64 8, .int .i64 0, .int .i64 8] 66) = w60 at *
        generalize w49.heap.size = g2 at *
        try simp only [Act.put, List.setIfInBounds_toArray, List.set_cons_zero, List.set_cons_succ]
        refine wpAnyH_take (i := 23) (oi := ⟨some 38, _, _, _, _, _⟩) (v := ?_) rfl (by kernel_rfl) (by kernel_rfl) (by kernel_rfl) (fun _ _ _ h => h) (Or.inl ⟨by rfl, ?_⟩) hHeld ?_
        rotate_left
        · intro w hSw; go_simp; try with_reducible rfl
        try simp only [Act.put, List.setIfInBounds_toArray, List.set_cons_zero, List.set_cons_succ]
        refine wpAnyH_ready (rs := [6, 14]) (by kernel_rfl) (by simp) ?_
        refine AllReadyH.cons (o := ⟨some 21, _, _, _, _, _⟩) rfl (fun K hK => ?_) ?_
        · go_simp
          have hx : Ext w60 (w60.alloc (.cells #[.int .i64 0, .int .i64 0, .int .i64 10, .int .i64 0] 66)) := (Ext.refl _).alloc _
          have hE61 := Lib.hid (hE60.out.trans hx)
          have r0 := Lib.hid (ex_line (Blk.new w60 66 #[.int .i64 0, .int .i64 0, .int .i64 10, .int .i64 0]))
          replace r3 := Lib.hid (r3.out.ext spP.stays hx)
          replace r2 := Lib.hid (r2.out.ext spP.stays hx)
          refine hK.out _ _ ⟨fun b o hb => hE61.out.below.cell (p := ⟨b, o, none⟩) hb, hE61.out⟩ (fun hHeld => ?_)
          clear hK K hx
          generalize World.alloc w60 (.cells #[.int .i64 0, .int .i64 0, .int .i64 10, .int .i64 0] 66) = w61 at *
          generalize w60.heap.size = g0 at *
          try simp only [Act.put, List.setIfInBounds_toArray, List.set_cons_zero, List.set_cons_succ]
          refine wpAnyH_take (i := 7) (oi := ⟨some 22, _, _, _, _, _⟩) (v := ?_) rfl (by kernel_rfl) (by kernel_rfl) (by kernel_rfl) (fun _ _ _ h => h) (Or.inl ⟨by rfl, ?_⟩) hHeld ?_
          rotate_left
          · intro w hSw; go_simp; try with_reducible rfl
          try simp only [Act.put, List.setIfInBounds_toArray, List.set_cons_zero, List.set_cons_succ]
          refine wpAnyH_ready (rs := [14]) (by kernel_rfl) (by simp) ?_
          refine AllReadyH.cons (o := ⟨some 29, _, _, _, _, _⟩) rfl (fun K hK => ?_) ?_
          · go_simp
            have hx : Ext w61 (w61.alloc (.cells #[.int .i64 10, .int .i64 0, .int .i64 10, .int .i64 8] 66)) := (Ext.refl _).alloc _
            have hE62 := Lib.hid (hE61.out.trans hx)
            have r1 := Lib.hid (ex_line (Blk.new w61 66 #[.int .i64 10, .int .i64 0, .int .i64 10, .int .i64 8]))
            replace r3 := Lib.hid (r3.out.ext spP.stays hx)
            replace r2 := Lib.hid (r2.out.ext spP.stays hx)
            replace r0 := Lib.hid (r0.out.ext spP.stays hx)
            refine hK.out _ _ ⟨fun b o hb => hE62.out.below.cell (p := ⟨b, o, none⟩) hb, hE62.out⟩ (fun hHeld => ?_)
            clear hK K hx
            generalize World.alloc w61 (.cells #[.int .i64 10, .int .i64 0, .int .i64 10, .int .i64 8] 66) = w62 at *
            generalize w61.heap.size = g1 at *
            try simp only [Act.put, List.setIfInBounds_toArray, List.set_cons_zero, List.set_cons_succ]
            refine wpAnyH_take (i := 15) (oi := ⟨some 30, _, _, _, _, _⟩) (v := ?_) rfl (by kernel_rfl) (by kernel_rfl) (by kernel_rfl) (fun _ _ _ h => h) (Or.inl ⟨by rfl, ?_⟩) hHeld ?_
            rotate_left
            · intro w hSw; go_simp; try with_reducible rfl
            try simp only [Act.put, List.setIfInBounds_toArray, List.set_cons_zero, List.set_cons_succ]
            refine wpAnyH_ready (rs := [32]) (by kernel_rfl) (by simp) (AllReadyH.cons (o := ⟨some 47, _, _, _, _, _⟩) rfl (fun K hK => ?_) AllReadyH.nil)
            go_simp
            refine hK.out _ _ ⟨fun b o hb => ((hE62.out.alloc _).below.cell (p := ⟨b, o, none⟩) hb), hE62.out.alloc _⟩ (fun hHeld => ?_)
            clear hK K
            try simp only [Act.put, List.setIfInBounds_toArray, List.set_cons_zero, List.set_cons_succ]
            refine wpAnyH_take (i := 33) (oi := ⟨some 4, _, _, _, _, _⟩) (v := ?_) rfl (by kernel_rfl) (by kernel_rfl) (by kernel_rfl) (fun _ _ _ h => h) (Or.inl ⟨by rfl, ?_⟩) hHeld ?_
            rotate_left
            · intro w hSw; go_simp; try with_reducible rfl
            try simp only [Act.put, List.setIfInBounds_toArray, List.set_cons_zero, List.set_cons_succ]
            refine wpAnyH_done (by kernel_rfl) ?_ _
            go_wp2_with fail
            go_meet
            exact ⟨ex_row (r0.out.ext spP.stays ((Ext.refl _).alloc _)) (r1.out.ext spP.stays ((Ext.refl _).alloc _)) (r2.out.ext spP.stays ((Ext.refl _).alloc _)) (r3.out.ext spP.stays ((Ext.refl _).alloc _)) (Blk.new _ _ _), hE62.out.alloc _⟩
          exact AllReadyH.nil
        refine AllReadyH.cons (o := ⟨some 29, _, _, _, _, _⟩) rfl (fun K hK => ?_) ?_
        · go_simp
          have hx : Ext w60 (w60.alloc (.cells #[.int .i64 10, .int .i64 0, .int .i64 10, .int .i64 8] 66)) := (Ext.refl _).alloc _
          have hE63 := Lib.hid (hE60.out.trans hx)
          have r1 := Lib.hid (ex_line (Blk.new w60 66 #[.int .i64 10, .int .i64 0, .int .i64 10, .int .i64 8]))
          replace r3 := Lib.hid (r3.out.ext spP.stays hx)
          replace r2 := Lib.hid (r2.out.ext spP.stays hx)
          refine hK.out _ _ ⟨fun b o hb => hE63.out.below.cell (p := ⟨b, o, none⟩) hb, hE63.out⟩ (fun hHeld => ?_)
          clear hK K hx
          generalize World.alloc w60 (.cells #[.int .i64 10, .int .i64 0, .int .i64 10, .int .i64 8] 66) = w63 at *
          generalize w60.heap.size = g1 at *
          try simp only [Act.put, List.setIfInBounds_toArray, List.set_cons_zero, List.set_cons_succ]
          refine wpAnyH_take (i := 15) (oi := ⟨some 30, _, _, _, _, _⟩) (v := ?_) rfl (by kernel_rfl) (by kernel_rfl) (by kernel_rfl) (fun _ _ _ h => h) (Or.inl ⟨by rfl, ?_⟩) hHeld ?_
          rotate_left
          · intro w hSw; go_simp; try with_reducible rfl
          try simp only [Act.put, List.setIfInBounds_toArray, List.set_cons_zero, List.set_cons_succ]
          refine wpAnyH_ready (rs := [6]) (by kernel_rfl) (by simp) ?_
          refine AllReadyH.cons (o := ⟨some 21, _, _, _, _, _⟩) rfl (fun K hK => ?_) ?_
          · go_simp
            have hx : Ext w63 (w63.alloc (.cells #[.int .i64 0, .int .i64 0, .int .i64 10, .int .i64 0] 66)) := (Ext.refl _).alloc _
            have hE64 := Lib.hid (hE63.out.trans hx)
            have r0 := Lib.hid (ex_line (Blk.new w63 66 #[.int .i64 0, .int .i64 0, .int .i64 10, .int .i64 0]))
            replace r3 := Lib.hid (r3.out.ext spP.stays hx)
            replace r2 := Lib.hid (r2.out.ext spP.stays hx)
            replace r1 := Lib.hid (r1.out.ext spP.stays hx)
            refine hK.out _ _ ⟨fun b o hb => hE64.out.below.cell (p := ⟨b, o, none⟩) hb, hE64.out⟩ (fun hHeld => ?_)
            clear hK K hx
            generalize World.alloc w63 (.cells #[.int .i64 0, .int .i64 0, .int .i64 10, .int .i64 0] 66) = w64 at *
            generalize w63.heap.size = g0 at *
            try simp only [Act.put, List.setIfInBounds_toArray, List.set_cons_zero, List.set_cons_succ]
            refine wpAnyH_take (i := 7) (oi := ⟨some 22, _, _, _, _, _⟩) (v := ?_) rfl (by kernel_rfl) (by kernel_rfl) (by kernel_rfl) (fun _ _ _ h => h) (Or.inl ⟨by rfl, ?_⟩) hHeld ?_
            rotate_left
            · intro w hSw; go_simp; try with_reducible rfl
            try simp only [Act.put, List.setIfInBounds_toArray, List.set_cons_zero, List.set_cons_succ]
            refine wpAnyH_ready (rs := [32]) (by kernel_rfl) (by simp) (AllReadyH.cons (o := ⟨some 47, _, _, _, _, _⟩) rfl (fun K hK => ?_) AllReadyH.nil)
            go_simp
            refine hK.out _ _ ⟨fun b o hb => ((hE64.out.alloc _).below.cell (p := ⟨b, o, none⟩) hb), hE64.out.alloc _⟩ (fun hHeld => ?_)
            clear hK K
            try simp only [Act.put, List.setIfInBounds_toArray, List.set_cons_zero, List.set_cons_succ]
            refine wpAnyH_take (i := 33) (oi := ⟨some 4, _, _, _, _, _⟩) (v := ?_) rfl (by kernel_rfl) (by kernel_rfl) (by kernel_rfl) (fun _ _ _ h => h) (Or.inl ⟨by rfl, ?_⟩) hHeld ?_
            rotate_left
            · intro w hSw; go_simp; try with_reducible rfl
            try simp only [Act.put, List.setIfInBounds_toArray, List.set_cons_zero, List.set_cons_succ]
            refine wpAnyH_done (by kernel_rfl) ?_ _
            go_wp2_with fail
            go_meet
            exact ⟨ex_row (r0.out.ext spP.stays ((Ext.refl _).alloc _)) (r1.out.ext spP.stays ((Ext.refl _).alloc _)) (r2.out.ext spP.stays ((Ext.refl _).alloc _)) (r3.out.ext spP.stays ((Ext.refl _).alloc _)) (Blk.new _ _ _), hE64.out.alloc _⟩
          exact AllReadyH.nil
        exact AllReadyH.nil
      exact AllReadyH.nil
    exact AllReadyH.nil
  case rest =>
    obtain ⟨hr, hx⟩ := hcut
    go_wp2
    go_ret
    exact ⟨_, rfl, hr, hX.out.trans hx⟩

end Go.Proofs.YtiahfiopigjolaaGreat
