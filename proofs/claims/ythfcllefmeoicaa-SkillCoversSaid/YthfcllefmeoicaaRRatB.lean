/- Contracts of the reference's functions on ratios, at 0: Zero, Whole, Of, reduce, whole, Norm. -/
import Derived.Test.YthfcllefmeoicaaRRat
namespace Go.Proofs.Ythfcllefmeoicaa
open Go.RowKit

set_option maxHeartbeats 400000 in
theorem c_zero0 (u : Value) (A : Option Addr) (n c : Nat) (w : World) (h : RdN w u []) :
    Calls Try.prog 96 #[.agg #[.bool false, u, .slice A n c]] w fun e w' => e = .returned (.bool true) ∧ Ext w w' := by
  obtain ⟨A0, cap0, rfl⟩ := h.slice
  have h := Lib.hid h
  go_enter Try.func96, Try.ntmps96
  go_wp2_with fail
  refine (c_rNormTo [] _ [] _ h.out.empty (by simp) rfl).mono ?_
  rintro e w1 ⟨u1, rfl, h1, _, he⟩
  obtain ⟨A1, cap1, rfl⟩ := h1.slice
  have he := Lib.hid he
  go_wp2
  go_ret
  exact ⟨rfl, ((Ext.refl _).alloc _).trans he.out⟩

set_option maxHeartbeats 400000 in
theorem c_intOf0 (w : World) : Calls Try.prog 103 #[.int .i64 0] w fun e w' => e = .returned (.agg #[.bool false, .slice none 0 0]) ∧ Ext w w' := by
  go_enter Try.func103, Try.ntmps103
  go_wp2_with fail
  refine (c_rOf0 _).mono ?_
  rintro e w1 ⟨rfl, rfl⟩
  go_wp2
  refine bodyPost_ret (v := .agg #[.bool false, .slice none 0 0]) (by simp [results, Try.results103, go_sem]) rfl ⟨rfl, ?_⟩
  exact (Ext.refl _).alloc _

set_option maxHeartbeats 400000 in
theorem c_intOf1 (w : World) : Calls Try.prog 103 #[.int .i64 1] w fun e w' => ∃ u, e = .returned (.agg #[.bool false, u]) ∧ RdN w' u [1] ∧ Fresh w.heap.size u ∧ Ext w w' := by
  go_enter Try.func103, Try.ntmps103
  go_wp2_with fail
  refine (c_rOf1 _).mono ?_
  rintro e w1 ⟨u, rfl, h1, hf, he⟩
  have hB := (Blk.new w 45 #[.bool false, .slice none 0 0]).ext he
  obtain ⟨hb0, hb1, hf0, hf1, hlt⟩ := hB.parts2
  obtain ⟨A, cap, rfl⟩ := h1.slice
  have h1 := Lib.hid h1
  have hf : Fresh (w.heap.size + 1) (.slice A 1 cap) := by simpa using hf
  have hf := Lib.hid hf
  have hX := Lib.hid (((Ext.refl w).alloc _).trans he)
  have he := Lib.hid he
  have hB' := Lib.hid hB
  clear hB
  go_wp2
  have hD := (hB'.out.set_ 0 (.bool false)).set_ 1 (.slice A 1 cap)
  obtain ⟨q0, q1, _⟩ := hD.parts2
  refine bodyPost_ret (v := .agg #[.bool false, .slice A 1 cap]) (by simp [results, Try.results103, go_sem, q0, q1]) rfl ⟨_, rfl, ?_, ?_, ?_⟩
  · exact (h1.out.far hf.out (by simp) _).far hf.out (by simp) _
  · exact hf.out.mono (by omega)
  · exact (hX.out.setCell (by simp) _).setCell (by simp) _

set_option maxHeartbeats 400000 in
theorem c_whole0 (w : World) : Calls Try.prog 97 #[.int .i64 0] w fun e w' => ∃ u, e = .returned (.agg #[.bool false, .slice none 0 0, u]) ∧ RdN w' u [1] ∧ Fresh w.heap.size u ∧ Ext w w' := by
  go_enter Try.func97, Try.ntmps97
  go_wp2_with fail
  refine (c_intOf0 _).mono ?_
  rintro e w1 ⟨rfl, he⟩
  have hB := (Blk.new w 47 #[.bool false, .slice none 0 0, .slice none 0 0]).ext he
  have hX := Lib.hid (((Ext.refl w).alloc _).trans he)
  clear he
  have hB' := Lib.hid hB
  clear hB
  go_wp2_with fail
  refine (c_rOf1 _).mono ?_
  rintro e w2 ⟨u, rfl, h1, hf, he⟩
  have hB := hB'.out.ext he
  obtain ⟨hb0, hb1, hb2, hf0, hf1, hf2, hlt⟩ := hB.parts3
  obtain ⟨A, cap, rfl⟩ := h1.slice
  have h1 := Lib.hid h1
  have hf : Fresh (w.heap.size + 1) (.slice A 1 cap) := hf.mono (by have := hB'.out.lt; omega)
  have hf := Lib.hid hf
  have hX := Lib.hid (hX.out.trans he)
  have hB' := Lib.hid hB
  clear hB he
  go_wp2
  have hD := ((hB'.out.set_ 0 (.bool false)).set_ 1 (.slice none 0 0)).set_ 2 (.slice A 1 cap)
  obtain ⟨q0, q1, q2, _⟩ := hD.parts3
  refine bodyPost_ret (v := .agg #[.bool false, .slice none 0 0, .slice A 1 cap]) (by simp [results, Try.results97, go_sem, q0, q1, q2]) rfl ⟨_, rfl, ?_, ?_, ?_⟩
  · exact ((h1.out.far hf.out (by simp) _).far hf.out (by simp) _).far hf.out (by simp) _
  · exact hf.out.mono (by omega)
  · exact ((hX.out.setCell (by simp) _).setCell (by simp) _).setCell (by simp) _

set_option maxHeartbeats 400000 in
theorem c_rRatNorm0 (u : Value) (A : Option Addr) (n c : Nat) (w : World) (h : RdN w u []) :
    Calls Try.prog 84 #[.agg #[.bool false, u, .slice A n c]] w fun e w' => ∃ u, e = .returned (.agg #[.bool false, .slice none 0 0, u]) ∧ RdN w' u [1] ∧ Fresh w.heap.size u ∧ Ext w w' := by
  obtain ⟨A0, cap0, rfl⟩ := h.slice
  have h := Lib.hid h
  go_enter Try.func84, Try.ntmps84
  go_wp2_with fail
  refine (c_zero0 _ _ _ _ _ h.out.empty).mono ?_
  rintro e w1 ⟨rfl, he⟩
  have hB := (Blk.new (w.alloc (.cells #[.bool false, .slice A0 0 cap0, .slice A n c] 47)) 47 #[.bool false, .slice none 0 0, .slice none 0 0]).ext he
  simp only [World.size_alloc] at hB
  have hX := Lib.hid ((((Ext.refl w).alloc _).alloc _).trans he)
  clear he
  have hB' := Lib.hid hB
  clear hB
  go_wp2_with fail
  refine (c_whole0 _).mono ?_
  rintro e w2 ⟨u, rfl, h1, hf, he⟩
  have hB := hB'.out.ext he
  obtain ⟨hb0, hb1, hb2, hf0, hf1, hf2, hlt⟩ := hB.parts3
  obtain ⟨A1, cap1, rfl⟩ := h1.slice
  have h1 := Lib.hid h1
  have hf : Fresh (w.heap.size + 2) (.slice A1 1 cap1) := hf.mono (by have := hB'.out.lt; omega)
  have hf := Lib.hid hf
  have hX := Lib.hid (hX.out.trans he)
  have hB' := Lib.hid hB
  clear hB he
  go_wp2
  have hD := ((hB'.out.set_ 0 (.bool false)).set_ 1 (.slice none 0 0)).set_ 2 (.slice A1 1 cap1)
  obtain ⟨q0, q1, q2, _⟩ := hD.parts3
  refine bodyPost_ret (v := .agg #[.bool false, .slice none 0 0, .slice A1 1 cap1]) (by simp [results, Try.results84, go_sem, q0, q1, q2]) rfl ⟨_, rfl, ?_, ?_, ?_⟩
  · exact ((h1.out.far hf.out (by simp) _).far hf.out (by simp) _).far hf.out (by simp) _
  · exact hf.out.mono (by omega)
  · exact ((hX.out.setCell (by simp) _).setCell (by simp) _).setCell (by simp) _

set_option maxHeartbeats 1000000 in
theorem c_reduce01 (v u : Value) (w : World) (h : RdN w v []) (g : RdN w u [1]) :
    Calls Try.prog 98 #[.bool false, v, u] w fun e w' => ∃ p A n c, e = .returned (.agg #[.bool false, p, .slice A n c]) ∧ RdN w' p [] ∧ Ext w w' := by
  obtain ⟨A0, cap0, rfl⟩ := h.slice
  obtain ⟨A1, cap1, rfl⟩ := g.slice
  have h := Lib.hid h
  have g := Lib.hid g
  go_enter Try.func98, Try.ntmps98
  go_wp2_with fail
  refine (c_gcd01 _ _ _ h.out.empty (g.out.ext ((Ext.refl _).alloc _))).mono ?_
  rintro e w1 ⟨u1, rfl, h1, _, he1⟩
  obtain ⟨A2, cap2, rfl⟩ := h1.slice
  have hB1 := Lib.hid ((Blk.new w 47 #[.bool false, .slice none 0 0, .slice none 0 0]).ext he1)
  have hX1 := Lib.hid (((Ext.refl w).alloc _).trans he1)
  have h1 := Lib.hid h1
  clear he1
  go_wp2_with fail
  refine (c_divmod01 _ _ _ h.out.empty h1.out).mono ?_
  rintro e w2 ⟨u2, rfl, h2, _, he2⟩
  obtain ⟨A3, cap3, rfl⟩ := h2.slice
  have he2 := Lib.hid he2
  go_wp2_with fail
  refine (c_divmod11 _ _ _ ((g.out.ext hX1.out).ext he2.out) (h1.out.ext he2.out)).mono ?_
  rintro e w3 ⟨u3, u4, rfl, h3, h4, _, he3⟩
  obtain ⟨A4, cap4, rfl⟩ := h3.slice
  obtain ⟨A5, cap5, rfl⟩ := h4.slice
  have he3 := Lib.hid he3
  go_wp2_with fail
  refine (c_rIntNorm0 _ [] _ (RdN.nil _) (by simp) rfl).mono ?_
  rintro e w4 ⟨_, rfl, ⟨u6, rfl, h6⟩, he4⟩
  obtain ⟨A6, cap6, rfl⟩ := h6.slice
  have hB := ((hB1.out.ext he2.out).ext he3.out).ext he4
  obtain ⟨hb0, hb1, hb2, hf0, hf1, hf2, hlt⟩ := hB.parts3
  have hX := Lib.hid (((hX1.out.trans he2.out).trans he3.out).trans he4)
  have hB' := Lib.hid hB
  have h6 := Lib.hid h6
  clear hB he4
  go_wp2
  have hD := ((hB'.out.set_ 0 (.bool false)).set_ 1 (.slice A6 0 cap6)).set_ 2 (.slice A4 1 cap4)
  obtain ⟨q0, q1, q2, _⟩ := hD.parts3
  refine bodyPost_ret (v := .agg #[.bool false, .slice A6 0 cap6, .slice A4 1 cap4]) (by simp [results, Try.results98, go_sem, q0, q1, q2]) rfl ⟨_, _, _, _, rfl, h6.out.empty, ?_⟩
  exact ((hX.out.setCell (by simp) _).setCell (by simp) _).setCell (by simp) _

set_option maxHeartbeats 1000000 in
theorem c_ratOf01 (w : World) : Calls Try.prog 87 #[.int .i64 0, .int .i64 1] w fun e w' => ∃ p A n c, e = .returned (.tuple #[.agg #[.bool false, p, .slice A n c], .bool true]) ∧ RdN w' p [] ∧ Ext w w' := by
  go_enter Try.func87, Try.ntmps87
  go_wp2_with fail
  refine (c_intOf0 _).mono ?_
  rintro e w1 ⟨rfl, he1⟩
  have hB1 := Lib.hid ((Blk.new w 47 #[.bool false, .slice none 0 0, .slice none 0 0]).ext he1)
  have hX1 := Lib.hid (((Ext.refl w).alloc _).trans he1)
  clear he1
  go_wp2_with fail
  refine (c_intOf1 _).mono ?_
  rintro e w2 ⟨u2, rfl, h2, hf2, he2⟩
  obtain ⟨A2, cap2, rfl⟩ := h2.slice
  have hB2 := Lib.hid (hB1.out.ext he2)
  have hX2 := Lib.hid (hX1.out.trans he2)
  have h2 := Lib.hid h2
  clear he2
  go_wp2_with fail
  refine (c_reduce01 _ _ _ (RdN.nil _) (h2.out.ext (((Ext.refl _).alloc _).alloc _))).mono ?_
  rintro e w3 ⟨p, A3, n3, c3, rfl, h3, he3⟩
  obtain ⟨A4, cap4, rfl⟩ := h3.slice
  have hB := ((hB2.out.alloc _).alloc _).ext he3
  obtain ⟨hb0, hb1, hb2, hf0, hf1, hf2, hlt⟩ := hB.parts3
  have hX := Lib.hid (((hX2.out.alloc _).alloc _).trans he3)
  have hB' := Lib.hid hB
  have h3 := Lib.hid h3
  clear hB he3
  go_wp2
  have hD := ((hB'.out.set_ 0 (.bool false)).set_ 1 (.slice A4 0 cap4)).set_ 2 (.slice A3 n3 c3)
  obtain ⟨q0, q1, q2, _⟩ := hD.parts3
  refine bodyPost_ret (v := .tuple #[.agg #[.bool false, .slice A4 0 cap4, .slice A3 n3 c3], .bool true]) (by simp [results, Try.results87, go_sem, q0, q1, q2]) rfl ⟨_, _, _, _, rfl, h3.out.empty, ?_⟩
  exact ((hX.out.setCell (by simp) _).setCell (by simp) _).setCell (by simp) _

set_option maxHeartbeats 1000000 in
theorem c_whole (w : World) : Calls Try.prog 77 #[.int .i64 0] w fun e w' => ∃ p A n c, e = .returned (.agg #[.bool false, p, .slice A n c]) ∧ RdN w' p [] ∧ Ext w w' := by
  go_enter Try.func77, Try.ntmps77
  go_wp2_with fail
  refine (c_ratOf01 _).mono ?_
  rintro e w1 ⟨p, A1, n1, c1, rfl, h1, he1⟩
  obtain ⟨A2, cap2, rfl⟩ := h1.slice
  have hB := (Blk.new w 47 #[.bool false, .slice none 0 0, .slice none 0 0]).ext he1
  obtain ⟨hb0, hb1, hb2, hf0, hf1, hf2, hlt⟩ := hB.parts3
  have hX := Lib.hid (((Ext.refl w).alloc _).trans he1)
  have hB' := Lib.hid hB
  have h1 := Lib.hid h1
  clear he1 hB
  go_wp2
  have hD := (((hB'.out.set_ 0 (.bool false)).set_ 1 (.slice A2 0 cap2)).set_ 2 (.slice A1 n1 c1)).alloc (.cells #[.bool false, .slice A2 0 cap2, .slice A1 n1 c1] 47)
  obtain ⟨q0, q1, q2, _⟩ := hD.parts3
  refine bodyPost_ret (v := .agg #[.bool false, .slice A2 0 cap2, .slice A1 n1 c1]) (by simp [results, Try.results77, go_sem, q0, q1, q2]) rfl ⟨_, _, _, _, rfl, h1.out.empty, ?_⟩
  exact (((hX.out.setCell (by simp) _).setCell (by simp) _).setCell (by simp) _).alloc _
end Go.Proofs.Ythfcllefmeoicaa
