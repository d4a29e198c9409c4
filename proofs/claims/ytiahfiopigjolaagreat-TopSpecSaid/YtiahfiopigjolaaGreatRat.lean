/- Contracts of the functions on integers and ratios at 0 and 1 (the program's own). -/
import Derived.Test.YtiahfiopigjolaaGreatNat
import Derived.Deep.RegionHeld3
import Derived.Deep.DrawnRows
namespace Go.Proofs.YtiahfiopigjolaaGreat
open Go.RowKit
attribute [local go_sem ↓] Go.wp_at_zero Go.wp_at_succ

/-- an integer that is 0 -/
def IsInt0 (w : World) (v : Value) : Prop := ∃ u, v = .agg #[.bool false, u] ∧ RdN w u []

set_option maxHeartbeats 400000 in
theorem c_signed0 (v : Value) (xs : List Int) (w : World) (h : RdN w v xs) (hx : trimL xs = []) :
    Calls Tryz.prog 84 #[.bool false, v] w fun e w' => ∃ u, e = .returned u ∧ IsInt0 w' u ∧ Ext w w' := by
  have hx := Lib.hid hx
  have hh := Lib.hid h
  clear h
  go_enter Tryz.func84, Tryz.ntmps84
  go_wp2_with fail
  refine (c_natNorm0 _ xs _ (hh.out.ext ((Ext.refl _).alloc _)) hx.out).mono ?_
  rintro e w1 ⟨u1, rfl, h1, he⟩
  have hB := (Blk.new w 90 #[.bool false, .slice none 0 0]).ext he
  obtain ⟨hb0, hb1, hf0, hf1, hlt⟩ := hB.parts2
  obtain ⟨A, cap, rfl⟩ := h1.slice
  have h1 := Lib.hid h1
  have hX : Ext w w1 := ((Ext.refl w).alloc _).trans he
  have he := Lib.hid he
  have hX := Lib.hid hX
  have hB' := Lib.hid hB
  clear hB
  go_wp2
  have hD := (hB'.out.set_ 0 (.bool false)).set_ 1 (.slice A 0 cap)
  obtain ⟨q0, q1, _⟩ := hD.parts2
  refine bodyPost_ret (v := .agg #[.bool false, .slice A 0 cap]) (by simp [results, Tryz.results84, go_sem, q0, q1]) rfl ⟨_, rfl, ⟨_, rfl, h1.out.empty⟩, ?_⟩
  exact (hX.out.setCell (by simp) _).setCell (by simp) _

set_option maxHeartbeats 400000 in
theorem c_intNorm0 (v : Value) (xs : List Int) (w : World) (h : RdN w v xs) (hx : trimL xs = []) :
    Calls Tryz.prog 82 #[.agg #[.bool false, v]] w fun e w' => ∃ u, e = .returned u ∧ IsInt0 w' u ∧ Ext w w' := by
  have hx := Lib.hid hx
  obtain ⟨A0, cap0, rfl⟩ := h.slice
  have hh := Lib.hid h
  clear h
  go_enter Tryz.func82, Tryz.ntmps82
  go_wp2_with fail
  refine (c_signed0 _ xs _ (hh.out.ext (((Ext.refl _).alloc _).alloc _)) hx.out).mono ?_
  rintro e w1 ⟨u1, rfl, ⟨u2, rfl, h1⟩, he⟩
  have hB := (Blk.new (w.alloc (.cells #[.bool false, .slice A0 xs.length cap0] 90)) 90 #[.bool false, .slice none 0 0]).ext he
  simp only [World.size_alloc] at hB
  obtain ⟨hb0, hb1, hf0, hf1, hlt⟩ := hB.parts2
  obtain ⟨A, cap, rfl⟩ := h1.slice
  have h1 := Lib.hid h1
  have hX : Ext w w1 := (((Ext.refl w).alloc _).alloc _).trans he
  have he := Lib.hid he
  have hX := Lib.hid hX
  have hB' := Lib.hid hB
  clear hB
  go_wp2
  have hD := (hB'.out.set_ 0 (.bool false)).set_ 1 (.slice A 0 cap)
  obtain ⟨q0, q1, _⟩ := hD.parts2
  refine bodyPost_ret (v := .agg #[.bool false, .slice A 0 cap]) (by simp [results, Tryz.results82, go_sem, q0, q1]) rfl ⟨_, rfl, ⟨_, rfl, h1.out.empty⟩, ?_⟩
  exact (hX.out.setCell (by simp) _).setCell (by simp) _

set_option maxHeartbeats 400000 in
theorem c_positive (A : Option Addr) (n c : Nat) (w : World) :
    Calls Tryz.prog 67 #[.slice A n c] w fun e w' => e = .returned (.agg #[.bool false, .slice A n c]) ∧ Ext w w' := by
  go_enter Tryz.func67, Tryz.ntmps67
  go_wp2
  refine bodyPost_ret (v := .agg #[.bool false, .slice A n c]) (by simp [results, Tryz.results67, go_sem]) rfl ⟨rfl, ?_⟩
  exact (Ext.refl _).alloc _

set_option maxHeartbeats 400000 in
theorem c_value0 (w : World) :
    Calls Tryz.prog 64 #[.agg #[.bool false, .slice none 0 0, .slice none 0 0]] w fun e w' => ∃ u, e = .returned (.agg #[.bool false, .slice none 0 0, u]) ∧ RdN w' u [1] ∧ Fresh w.heap.size u ∧ Ext w w' := by
  go_enter Tryz.func64, Tryz.ntmps64
  go_wp2_with fail
  refine (c_ratZero _ [] _ (RdN.nil _) rfl).mono ?_
  rintro e w1 ⟨rfl, rfl⟩
  go_wp2_with fail
  refine (c_natOf1 _).mono ?_
  rintro e w1 ⟨u1, rfl, h1, hfr, he⟩
  have hB := (Blk.new (w.alloc (.cells #[.bool false, .slice none 0 0, .slice none 0 0] 92)) 92 #[.bool false, .slice none 0 0, .slice none 0 0]).ext he
  simp only [World.size_alloc] at hB
  obtain ⟨hb0, hb1, hb2, hf0, hf1, hf2, hlt⟩ := hB.parts3
  obtain ⟨A, cap, rfl⟩ := h1.slice
  simp only [World.size_alloc] at hfr
  have h1 := Lib.hid h1
  have hX : Ext w w1 := (((Ext.refl w).alloc _).alloc _).trans he
  have he := Lib.hid he
  have hX := Lib.hid hX
  have hfr := Lib.hid hfr
  have hB' := Lib.hid hB
  clear hB
  go_wp2
  have hD := ((hB'.out.set_ 0 (.bool false)).set_ 1 (.slice none 0 0)).set_ 2 (.slice A 1 cap)
  obtain ⟨q0, q1, q2, _⟩ := hD.parts3
  refine bodyPost_ret (v := .agg #[.bool false, .slice none 0 0, .slice A 1 cap]) (by simp [results, Tryz.results64, go_sem, q0, q1, q2]) rfl ⟨_, rfl, ?_, ?_, ?_⟩
  · exact ((h1.out.far hfr.out (by simp) _).far hfr.out (by simp) _).far hfr.out (by simp) _
  · exact hfr.out.mono (by omega)
  · exact ((hX.out.setCell (by simp) _).setCell (by simp) _).setCell (by simp) _

set_option maxHeartbeats 1000000 in
theorem c_intMul01 (v u : Value) (xs ys : List Int) (w : World) (h : RdN w v xs) (g : RdN w u ys) (hx : trimL xs = []) (hy : trimL ys = [1]) :
    Calls Tryz.prog 66 #[.agg #[.bool false, v], .agg #[.bool false, u]] w fun e w' => ∃ u, e = .returned u ∧ IsInt0 w' u ∧ Ext w w' := by
  have hx := Lib.hid hx
  have hy := Lib.hid hy
  obtain ⟨A0, cap0, rfl⟩ := h.slice
  obtain ⟨A1, cap1, rfl⟩ := g.slice
  have hh := Lib.hid h
  have gg := Lib.hid g
  clear h g
  go_enter Tryz.func66, Tryz.ntmps66
  go_wp2_with fail
  have b0 := ((Blk.new w 90 #[.bool false, .slice A0 xs.length cap0]).alloc (.cells #[.bool false, .slice A1 ys.length cap1] 90)).alloc (.cells #[.bool false, .slice none 0 0] 90)
  have b1 := (Blk.new (w.alloc (.cells #[.bool false, .slice A0 xs.length cap0] 90)) 90 #[.bool false, .slice A1 ys.length cap1]).alloc (.cells #[.bool false, .slice none 0 0] 90)
  have b2 := Blk.new ((w.alloc (.cells #[.bool false, .slice A0 xs.length cap0] 90)).alloc (.cells #[.bool false, .slice A1 ys.length cap1] 90)) 90 #[.bool false, .slice none 0 0]
  have hX := (((Ext.refl w).alloc (.cells #[.bool false, .slice A0 xs.length cap0] 90)).alloc (.cells #[.bool false, .slice A1 ys.length cap1] 90)).alloc (.cells #[.bool false, .slice none 0 0] 90)
  simp only [World.size_alloc] at b1 b2
  generalize ((w.alloc (.cells #[.bool false, .slice A0 xs.length cap0] 90)).alloc (.cells #[.bool false, .slice A1 ys.length cap1] 90)).alloc (.cells #[.bool false, .slice none 0 0] 90) = W at b0 b1 b2 hX ⊢
  obtain ⟨p0, p1, _⟩ := b0.parts2
  obtain ⟨p2, p3, _⟩ := b1.parts2
  clear b0 b1
  have hN : w.heap.size + 2 ≤ W.heap.size := by have := b2.lt; omega
  have b2 := b2.has
  have l0 : w.heap.size < w.heap.size + 2 := by omega
  have l1 : w.heap.size + 1 < w.heap.size + 2 := by omega
  go_region_held3 (fun w' => (∀ b o, b < w.heap.size + 2 → w'.cell? ⟨b, o, none⟩ = W.cell? ⟨b, o, none⟩) ∧ Kp (w.heap.size + 2) W w' ∧ HasBlk w' (w.heap.size + 2) 90 2)
    (first
      | exact ⟨(Kp.start hN).drew.cells, (Kp.start hN).drew, b2⟩
      | (go_split_ands; exact ⟨((by assumption : Kp _ _ _).call he).cells, (by assumption : Kp _ _ _).call he, (by assumption : HasBlk _ _ _ _).ext he⟩)
      | (go_split_ands; have hkk := Kp.set (Kp.set (by assumption : Kp _ _ _) (p := ⟨w.heap.size + 2, 0, none⟩) (Nat.le_refl _) (.bool false)) (p := ⟨w.heap.size + 2, 1, none⟩) (Nat.le_refl _) (.slice A3 0 cap3); exact ⟨hkk.cells, hkk, HasBlk.set (HasBlk.set (by assumption) _ _ rfl) _ _ rfl⟩))
    (first
      | (go_at_call 85; go_split_ands; have hE := (by assumption : Kp _ _ _).ext hX (by omega); refine (c_natMul01 _ _ xs ys _ (hh.out.ext hE) (gg.out.ext hE) hx.out hy.out).mono ?_; rintro e w1 ⟨u1, rfl, h1, he⟩; obtain ⟨A2, cap2, rfl⟩ := h1.slice)
      | (go_at_call 84; refine (c_signed0 _ [] _ (RdN.empty (by assumption)) rfl).mono ?_; rintro e w2 ⟨u2, rfl, ⟨u3, rfl, h2⟩, he⟩; obtain ⟨A3, cap3, rfl⟩ := h2.slice; go_split_ands; obtain ⟨x0, x1, hbb⟩ := ((by assumption : HasBlk _ _ _ _).ext he).two; obtain ⟨q0, q1, q2, q3, q4⟩ := hbb.parts2))
  go_wp2
  have hD := (hbb.set_ 0 (.bool false)).set_ 1 (.slice A3 0 cap3)
  obtain ⟨r0, r1, _⟩ := hD.parts2
  go_split_ands
  have hk := (by assumption : Kp _ _ (World.setCell _ _ _))
  refine bodyPost_ret (v := .agg #[.bool false, .slice A3 0 cap3]) (by simp [results, Tryz.results66, go_sem, r0, r1]) rfl ⟨_, rfl, ⟨_, rfl, h2.empty⟩, ?_⟩
  exact hk.ext hX (by omega)

set_option maxHeartbeats 1000000 in
theorem c_intCmp0 (v u : Value) (xs ys : List Int) (w : World) (h : RdN w v xs) (g : RdN w u ys) (hx : trimL xs = []) (hy : trimL ys = []) :
    Calls Tryz.prog 65 #[.agg #[.bool false, v], .agg #[.bool false, u]] w fun e w' => e = .returned (.int .i64 0) ∧ Ext w w' := by
  have hx := Lib.hid hx
  have hy := Lib.hid hy
  obtain ⟨A0, cap0, rfl⟩ := h.slice
  obtain ⟨A1, cap1, rfl⟩ := g.slice
  have hh := Lib.hid h
  have gg := Lib.hid g
  clear h g
  go_enter Tryz.func65, Tryz.ntmps65
  go_wp2_with fail
  have b0 := (Blk.new w 90 #[.bool false, .slice A0 xs.length cap0]).alloc (.cells #[.bool false, .slice A1 ys.length cap1] 90)
  have b1 := Blk.new (w.alloc (.cells #[.bool false, .slice A0 xs.length cap0] 90)) 90 #[.bool false, .slice A1 ys.length cap1]
  have hX := ((Ext.refl w).alloc (.cells #[.bool false, .slice A0 xs.length cap0] 90)).alloc (.cells #[.bool false, .slice A1 ys.length cap1] 90)
  simp only [World.size_alloc] at b1
  generalize (w.alloc (.cells #[.bool false, .slice A0 xs.length cap0] 90)).alloc (.cells #[.bool false, .slice A1 ys.length cap1] 90) = W at b0 b1 hX ⊢
  obtain ⟨p0, p1, _⟩ := b0.parts2
  obtain ⟨p2, p3, _⟩ := b1.parts2
  have hN : w.heap.size + 2 ≤ W.heap.size := by have := b1.lt; omega
  go_region_with (first
    | (go_at_call_of 82 (Value.agg #[.bool false, .slice A0 xs.length cap0]); refine (c_intNorm0 _ xs _ (hh.out.ext hX.drew) hx.out).mono ?_; rintro e w1 ⟨u1, rfl, ⟨u2, rfl, h1⟩, he⟩; obtain ⟨A2, cap2, rfl⟩ := h1.slice; obtain ⟨q0, q1, q2, q3, q4⟩ := (b0.drew.ext he).parts2; obtain ⟨q5, q6, q7, q8, q9⟩ := (b1.drew.ext he).parts2)
    | (go_at_call_of 82 (Value.agg #[.bool false, .slice A1 ys.length cap1]); refine (c_intNorm0 _ ys _ (gg.out.ext (hX.drew.trans he)) hy.out).mono ?_; rintro e w2 ⟨u3, rfl, ⟨u4, rfl, h2⟩, he2⟩; obtain ⟨A3, cap3, rfl⟩ := h2.slice; obtain ⟨s0, s1, s2, s3, s4⟩ := ((b0.drew.ext he).ext he2).parts2; obtain ⟨s5, s6, s7, s8, s9⟩ := ((b1.drew.ext he).ext he2).parts2))
  all_goals
    have e0 := (((((b0.drew.ext he).ext he2).set_ 0 (.bool false)).set_ 1 (.slice A2 0 cap2)).far (p := ⟨w.heap.size + 1, 0, none⟩) (by simp) (.bool false)).far (p := ⟨w.heap.size + 1, 1, none⟩) (by simp) (.slice A3 0 cap3)
    have e1 := (((((b1.drew.ext he).ext he2).far (p := ⟨w.heap.size, 0, none⟩) (by simp) (.bool false)).far (p := ⟨w.heap.size, 1, none⟩) (by simp) (.slice A2 0 cap2)).set_ 0 (.bool false)).set_ 1 (.slice A3 0 cap3)
    have hY := ((((((hX.drew.trans he).trans he2).setCell (p := ⟨w.heap.size, 0, none⟩) (by simp) (.bool false)).setCell (p := ⟨w.heap.size, 1, none⟩) (by simp) (.slice A2 0 cap2)).setCell (p := ⟨w.heap.size + 1, 0, none⟩) (by simp) (.bool false)).setCell (p := ⟨w.heap.size + 1, 1, none⟩) (by simp) (.slice A3 0 cap3))
    generalize (((w2.setCell ⟨w.heap.size, 0, none⟩ (.bool false)).setCell ⟨w.heap.size, 1, none⟩ (.slice A2 0 cap2)).setCell ⟨w.heap.size + 1, 0, none⟩ (.bool false)).setCell ⟨w.heap.size + 1, 1, none⟩ (.slice A3 0 cap3) = W3 at e0 e1 hY ⊢
    have t0 := e0.cell 0
    have t1 := e0.cell 1
    have t2 := e1.cell 0
    have t3 := e1.cell 1
    simp at t0 t1 t2 t3
    have h1 := Lib.hid h1
    have h2 := Lib.hid h2
    have hY := Lib.hid hY
    go_wp2_with fail
    refine (c_natCmp0 _ _ [] [] _ h1.out.empty h2.out.empty rfl rfl).mono ?_
    rintro e w3 ⟨rfl, rfl⟩
    go_wp2
    go_ret
    exact ⟨rfl, hY.out⟩

set_option maxHeartbeats 1000000 in
/-- ratio.Cmp at 0 and 0, as they are written -/
theorem c_ratCmp0 (w : World) :
    Calls Tryz.prog 53 #[.agg #[.bool false, .slice none 0 0, .slice none 0 0], .agg #[.bool false, .slice none 0 0, .slice none 0 0]] w fun e w' => e = .returned (.int .i64 0) ∧ Ext w w' := by
  go_enter Tryz.func53, Tryz.ntmps53
  go_wp2_with fail
  have b0 := (Blk.new w 92 #[.bool false, .slice none 0 0, .slice none 0 0]).alloc (.cells #[.bool false, .slice none 0 0, .slice none 0 0] 92)
  have b1 := Blk.new (w.alloc (.cells #[.bool false, .slice none 0 0, .slice none 0 0] 92)) 92 #[.bool false, .slice none 0 0, .slice none 0 0]
  have hX := ((Ext.refl w).alloc (.cells #[.bool false, .slice none 0 0, .slice none 0 0] 92)).alloc (.cells #[.bool false, .slice none 0 0, .slice none 0 0] 92)
  simp only [World.size_alloc] at b1
  generalize (w.alloc (.cells #[.bool false, .slice none 0 0, .slice none 0 0] 92)).alloc (.cells #[.bool false, .slice none 0 0, .slice none 0 0] 92) = W at b0 b1 hX ⊢
  obtain ⟨p0, p1, p2, _⟩ := b0.parts3
  obtain ⟨p3, p4, p5, _⟩ := b1.parts3
  have hN : w.heap.size + 2 ≤ W.heap.size := by have := b1.lt; omega
  have tok1 : True := trivial
  go_region_with (first
    | (go_at_call 64; have _t := tok1; refine (c_value0 _).mono ?_; rintro e w1 ⟨u1, rfl, h1, hf1, he⟩; obtain ⟨A2, cap2, rfl⟩ := h1.slice; obtain ⟨q0, q1, q2, q3, q4, q5, q6⟩ := (b0.drew.ext he).parts3; obtain ⟨q7, q8, q9, q10, q11, q12, q13⟩ := (b1.drew.ext he).parts3; clear tok1)
    | (go_at_call 64; refine (c_value0 _).mono ?_; rintro e w2 ⟨u2, rfl, h2, hf2, he2⟩; obtain ⟨A3, cap3, rfl⟩ := h2.slice; obtain ⟨s0, s1, s2, s3, s4, s5, s6⟩ := ((b0.drew.ext he).ext he2).parts3; obtain ⟨s7, s8, s9, s10, s11, s12, s13⟩ := ((b1.drew.ext he).ext he2).parts3))
  all_goals
    have hw2 : w.heap.size + 2 ≤ w2.heap.size := by have := he.size; have := he2.size; simp at *; omega
    have hfA : Fresh (w.heap.size + 2) (.slice A2 1 cap2) := hf1.mono (by simpa using hN)
    have hfB : Fresh (w.heap.size + 2) (.slice A3 1 cap3) := hf2.mono (by have := he.size; simp at this; omega)
    have e0 := (((((((b0.drew.ext he).ext he2).set_ 0 (.bool false)).set_ 1 (.slice none 0 0)).set_ 2 (.slice A2 1 cap2)).far (p := ⟨w.heap.size + 1, 0, none⟩) (by simp) (.bool false)).far (p := ⟨w.heap.size + 1, 1, none⟩) (by simp) (.slice none 0 0)).far (p := ⟨w.heap.size + 1, 2, none⟩) (by simp) (.slice A3 1 cap3)
    have e1 := (((((((b1.drew.ext he).ext he2).far (p := ⟨w.heap.size, 0, none⟩) (by simp) (.bool false)).far (p := ⟨w.heap.size, 1, none⟩) (by simp) (.slice none 0 0)).far (p := ⟨w.heap.size, 2, none⟩) (by simp) (.slice A2 1 cap2)).set_ 0 (.bool false)).set_ 1 (.slice none 0 0)).set_ 2 (.slice A3 1 cap3)
    have r1 := ((((((h1.ext he2).far hfA (p := ⟨w.heap.size, 0, none⟩) (by simp) (.bool false)).far hfA (p := ⟨w.heap.size, 1, none⟩) (by simp) (.slice none 0 0)).far hfA (p := ⟨w.heap.size, 2, none⟩) (by simp) (.slice A2 1 cap2)).far hfA (p := ⟨w.heap.size + 1, 0, none⟩) (by simp) (.bool false)).far hfA (p := ⟨w.heap.size + 1, 1, none⟩) (by simp) (.slice none 0 0)).far hfA (p := ⟨w.heap.size + 1, 2, none⟩) (by simp) (.slice A3 1 cap3)
    have r2 := (((((h2.far hfB (p := ⟨w.heap.size, 0, none⟩) (by simp) (.bool false)).far hfB (p := ⟨w.heap.size, 1, none⟩) (by simp) (.slice none 0 0)).far hfB (p := ⟨w.heap.size, 2, none⟩) (by simp) (.slice A2 1 cap2)).far hfB (p := ⟨w.heap.size + 1, 0, none⟩) (by simp) (.bool false)).far hfB (p := ⟨w.heap.size + 1, 1, none⟩) (by simp) (.slice none 0 0)).far hfB (p := ⟨w.heap.size + 1, 2, none⟩) (by simp) (.slice A3 1 cap3)
    have hY := ((((((((hX.drew.trans he).trans he2).setCell (p := ⟨w.heap.size, 0, none⟩) (by simp) (.bool false)).setCell (p := ⟨w.heap.size, 1, none⟩) (by simp) (.slice none 0 0)).setCell (p := ⟨w.heap.size, 2, none⟩) (by simp) (.slice A2 1 cap2)).setCell (p := ⟨w.heap.size + 1, 0, none⟩) (by simp) (.bool false)).setCell (p := ⟨w.heap.size + 1, 1, none⟩) (by simp) (.slice none 0 0)).setCell (p := ⟨w.heap.size + 1, 2, none⟩) (by simp) (.slice A3 1 cap3))
    generalize (((((w2.setCell ⟨w.heap.size, 0, none⟩ (.bool false)).setCell ⟨w.heap.size, 1, none⟩ (.slice none 0 0)).setCell ⟨w.heap.size, 2, none⟩ (.slice A2 1 cap2)).setCell ⟨w.heap.size + 1, 0, none⟩ (.bool false)).setCell ⟨w.heap.size + 1, 1, none⟩ (.slice none 0 0)).setCell ⟨w.heap.size + 1, 2, none⟩ (.slice A3 1 cap3) = W3 at e0 e1 r1 r2 hY ⊢
    have t0 := e0.cell 0
    have t1 := e0.cell 1
    have t2 := e0.cell 2
    have t3 := e1.cell 0
    have t4 := e1.cell 1
    have t5 := e1.cell 2
    simp at t0 t1 t2 t3 t4 t5
    have l0 := e0.lt
    have l1 := e1.lt
    have h1 := Lib.hid h1
    have h2 := Lib.hid h2
    have hY := Lib.hid hY
    have r1 := Lib.hid r1
    have r2 := Lib.hid r2
    clear e0 e1 q0 q1 q2 q3 q4 q5 q6 q7 q8 q9 q10 q11 q12 q13 s0 s1 s2 s3 s4 s5 s6 s7 s8 s9 s10 s11 s12 s13 p0 p1 p2 p3 p4 p5 b0 b1 hfA hfB hf1 hf2 he he2
    go_wp2_with fail
    go_region_held3 (fun w' => (∀ b o, b < W3.heap.size → w'.cell? ⟨b, o, none⟩ = W3.cell? ⟨b, o, none⟩) ∧ Kp W3.heap.size W3 w')
      (first
        | exact (Kp.start (Nat.le_refl _)).drew.both
        | (go_split_ands; exact ((by assumption : Kp _ _ _).call he).both))
      (first
        | (go_at_call 67; refine (c_positive _ _ _ _).mono ?_; rintro e w4 ⟨rfl, he⟩)
        | (go_at_call 66; go_split_ands; have hE := (by assumption : Kp _ _ _).ext (Ext.refl _) (Nat.le_refl _); refine (c_intMul01 _ _ [] [1] _ (RdN.nil _) (by first | exact r1.out.ext hE | exact r2.out.ext hE) rfl rfl).mono ?_; rintro e w5 ⟨_, rfl, ⟨u5, rfl, h5⟩, he⟩; obtain ⟨A5, cap5, rfl⟩ := h5.slice)
        | (go_at_call 65; refine (c_intCmp0 _ _ [] [] _ (RdN.empty (by assumption)) (RdN.empty (by assumption)) rfl rfl).mono ?_; rintro e w6 ⟨rfl, he⟩))
    go_wp2
    go_ret
    go_split_ands
    exact ⟨rfl, (by assumption : Kp W3.heap.size W3 w6).ext hY.out hY.out.size⟩
end Go.Proofs.YtiahfiopigjolaaGreat
