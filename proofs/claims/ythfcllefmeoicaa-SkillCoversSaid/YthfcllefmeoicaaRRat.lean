/- Contracts of the reference's functions on integers and ratios, at 0 and 1. -/
import Derived.Test.YthfcllefmeoicaaRNat
import Derived.Deep.RegionHeld3
import Derived.Deep.DrawnRows
namespace Go.Proofs.Ythfcllefmeoicaa
open Go.RowKit
attribute [local go_sem ↓] Go.wp_at_zero Go.wp_at_succ

set_option maxHeartbeats 400000 in
theorem c_divmod01 (v u : Value) (w : World) (h : RdN w v []) (g : RdN w u [1]) : Calls Try.prog 108 #[v, u] w fun e w' => ∃ r, e = .returned (.tuple #[.slice none 0 0, r, .bool true]) ∧ RdN w' r [] ∧ Fresh w.heap.size r ∧ Ext w w' := by
  obtain ⟨A, cap, rfl⟩ := h.slice
  obtain ⟨B, cap', rfl⟩ := g.slice
  have h := Lib.hid h
  have g := Lib.hid g
  go_enter Try.func108, Try.ntmps108
  go_wp2_with fail
  refine (c_bits1 _ _ g.out).mono ?_
  rintro e w1 ⟨rfl, he1⟩
  have he1 := Lib.hid he1
  go_wp2_with fail
  refine (c_rNormTo [] _ [] _ (h.out.ext he1.out) (by simp) rfl).mono ?_
  rintro e w2 ⟨u2, rfl, h2, hf2, he2⟩
  obtain ⟨A2, cap2, rfl⟩ := h2.slice
  have h2 := Lib.hid h2
  have hf2 := Lib.hid hf2
  have he2 := Lib.hid he2
  go_wp2_with fail
  refine (c_bits0 _ _ h2.out).mono ?_
  rintro e w3 ⟨rfl, he3⟩
  have he3 := Lib.hid he3
  go_wp2_with fail
  refine (c_bits1 _ _ (((g.out.ext he1.out).ext he2.out).ext he3.out)).mono ?_
  rintro e w4 ⟨rfl, he4⟩
  have he4 := Lib.hid he4
  go_wp2
  go_ret3
  exact ⟨_, rfl, h2.out.empty, hf2.out.mono he1.out.size, ((he1.out.trans he2.out).trans he3.out).trans he4.out⟩

set_option maxHeartbeats 1000000 in
theorem c_divmod11 (v u : Value) (w : World) (h : RdN w v [1]) (g : RdN w u [1]) : Calls Try.prog 108 #[v, u] w fun e w' => ∃ r q, e = .returned (.tuple #[r, q, .bool true]) ∧ RdN w' r [1] ∧ RdN w' q [] ∧ Fresh w.heap.size r ∧ Ext w w' := by
  obtain ⟨A, cap, rfl⟩ := h.slice
  obtain ⟨B, cap', rfl⟩ := g.slice
  have h := Lib.hid h
  have g := Lib.hid g
  have hmk : ∀ w, (Instr.makeSlice 43 (.int .i64 1) (.int .i64 1)).run Try.prog w = .ok (.slice (some ⟨w.heap.size, 0, none⟩) 1 1) (w.alloc (.cells #[.int .u32 0] 100)) := fun _ => by kernel_rfl
  go_enter Try.func108, Try.ntmps108
  go_wp2_with fail
  refine (c_bits1 _ _ g.out).mono ?_
  rintro e w1 ⟨rfl, he1⟩
  have he1 := Lib.hid he1
  go_wp2_with fail
  refine (c_rNormTo [1] _ [1] _ (h.out.ext he1.out) (by simp) rfl).mono ?_
  rintro e w2 ⟨u2, rfl, h2, hf2, he2⟩
  obtain ⟨A2, cap2, rfl⟩ := h2.slice
  have h2 := Lib.hid h2
  have hf2 := Lib.hid hf2
  have he2 := Lib.hid he2
  go_wp2_with fail
  refine (c_bits1 _ _ h2.out).mono ?_
  rintro e w3 ⟨rfl, he3⟩
  have he3 := Lib.hid he3
  go_wp2_with fail
  refine (c_bits1 _ _ (((g.out.ext he1.out).ext he2.out).ext he3.out)).mono ?_
  rintro e w4 ⟨rfl, he4⟩
  have hX4 := Lib.hid (((he1.out.trans he2.out).trans he3.out).trans he4)
  have hY4 := Lib.hid (he3.out.trans he4)
  clear he4
  go_wp2_with fail
  refine (c_rShift _ _ (g.out.ext (hX4.out.alloc _))).mono ?_
  rintro e w5 ⟨u5, rfl, h5, hf5, he5⟩
  obtain ⟨A5, cap5, rfl⟩ := h5.slice
  have hB5 := (Blk.new w4 100 #[.int .u32 0]).ext he5
  have h5 := Lib.hid h5
  have he5 := Lib.hid he5
  go_wp2_with fail
  refine wp_loop_rounds 2 ?_
  rw [rounds_succ]
  go_wp2_with fail
  refine (c_rSub _ _ _ (((h2.out.ext hY4.out).ext ((Ext.refl _).alloc _)).ext he5.out) h5.out).mono ?_
  rintro e w6 ⟨u6, rfl, h6, hf6, he6⟩
  obtain ⟨A6, cap6, rfl⟩ := h6.slice
  have hB6 := hB5.ext he6
  obtain ⟨p0, p1, p2⟩ := hB6.parts1
  have h6 := Lib.hid h6
  have hX6 := Lib.hid (((hX4.out.alloc (.cells #[.int .u32 0] 100)).trans he5.out).trans he6)
  have hh5 := Lib.hid (h5.out.ext he6)
  have hB6 := Lib.hid hB6
  have hf5 := Lib.hid hf5
  clear he6 hB5
  go_wp2_with fail
  refine (c_rHalf _ _ (hh5.out.far (B := w4.heap.size + 1) (by simpa using hf5.out) (by simp) _)).mono ?_
  rintro e w7 ⟨u7, rfl, h7, hf7, he7⟩
  obtain ⟨A7, cap7, rfl⟩ := h7.slice
  have hB7 := Lib.hid ((hB6.out.set_ 0 (.int .u32 1)).ext he7)
  have hX7 := Lib.hid ((hX6.out.setCell (p := ⟨w4.heap.size, 0, none⟩) hX4.out.size (.int .u32 1)).trans he7)
  clear he7 h7
  go_wp2_with fail
  rw [rounds_succ]
  go_wp2_with fail
  refine (c_rNormTo [1] _ [1] _ (RdN.made (xs := [1]) hB7.out (by simp [maxLen])) (by simp) rfl).mono ?_
  rintro e w8 ⟨u8, rfl, h8, hf8, he8⟩
  have h8 := Lib.hid h8
  have hf8 := Lib.hid hf8
  have he8 := Lib.hid he8
  go_wp2
  go_ret3
  exact ⟨_, _, rfl, h8.out, h6.out.empty, hf8.out.mono hX7.out.size, hX7.out.trans he8.out⟩

set_option maxHeartbeats 1000000 in
theorem c_gcd01 (v u : Value) (w : World) (h : RdN w v []) (g : RdN w u [1]) : Calls Try.prog 107 #[v, u] w fun e w' => ∃ r, e = .returned r ∧ RdN w' r [1] ∧ Fresh w.heap.size r ∧ Ext w w' := by
  obtain ⟨A, cap, rfl⟩ := h.slice
  obtain ⟨B, cap', rfl⟩ := g.slice
  have h := Lib.hid h
  have g := Lib.hid g
  go_enter Try.func107, Try.ntmps107
  go_wp2_with fail
  refine (c_rNormTo [] _ [] _ h.out (by simp) rfl).mono ?_
  rintro e w1 ⟨u1, rfl, h1, hf1, he1⟩
  obtain ⟨A1, cap1, rfl⟩ := h1.slice
  have h1 := Lib.hid h1
  have he1 := Lib.hid he1
  go_wp2_with fail
  refine (c_rNormTo [1] _ [1] _ (g.out.ext he1.out) (by simp) rfl).mono ?_
  rintro e w2 ⟨u2, rfl, h2, hf2, he2⟩
  obtain ⟨A2, cap2, rfl⟩ := h2.slice
  have h2 := Lib.hid h2
  have hf2 := Lib.hid hf2
  have he2 := Lib.hid he2
  go_wp2_with fail
  refine wp_loop_rounds 2 ?_
  rw [rounds_succ]
  go_wp2_with fail
  refine (c_divmod01 _ _ _ (h1.out.ext he2.out) h2.out).mono ?_
  rintro e w3 ⟨u3, rfl, h3, hf3, he3⟩
  obtain ⟨A3, cap3, rfl⟩ := h3.slice
  have h3 := Lib.hid h3
  have he3 := Lib.hid he3
  go_wp2_with fail
  rw [rounds_succ]
  go_wp2_with fail
  go_ret
  exact ⟨_, rfl, h2.out.ext he3.out, hf2.out.mono he1.out.size, (he1.out.trans he2.out).trans he3.out⟩

set_option maxHeartbeats 400000 in
theorem c_rMul01 (v u : Value) (w : World) (h : RdN w v []) (g : RdN w u [1]) : Calls Try.prog 102 #[v, u] w fun e w' => ∃ r, e = .returned r ∧ RdN w' r [] ∧ Fresh w.heap.size r ∧ Ext w w' := by
  obtain ⟨A, cap, rfl⟩ := h.slice
  obtain ⟨B, cap', rfl⟩ := g.slice
  have hmk : ∀ w, (Instr.makeSlice 43 (.int .i64 1) (.int .i64 1)).run Try.prog w = .ok (.slice (some ⟨w.heap.size, 0, none⟩) 1 1) (w.alloc (.cells #[.int .u32 0] 100)) := fun _ => by kernel_rfl
  go_enter Try.func102, Try.ntmps102
  go_wp2_with fail
  refine wp_loop_rounds 1 ?_
  rw [rounds_succ]
  go_wp2_with fail
  refine (c_rNormTo [] _ [0] _ (RdN.made (xs := [0]) (Blk.new _ _ _) (by simp [maxLen])) (by simp) rfl).mono ?_
  rintro e w1 ⟨u1, rfl, h1, hf1, he1⟩
  have h1 := Lib.hid h1
  have hf1 := Lib.hid hf1
  have he1 := Lib.hid he1
  go_wp2
  go_ret
  exact ⟨_, rfl, h1.out, hf1.out.mono (by simp), ((Ext.refl _).alloc _).trans he1.out⟩

set_option maxHeartbeats 400000 in
theorem c_make0 (v : Value) (xs : List Int) (w : World) (h : RdN w v xs) (hl : xs.length ≤ 1000000) (hx : trimL xs = []) :
    Calls Try.prog 101 #[.bool false, v] w fun e w' => ∃ u, e = .returned u ∧ IsInt0 w' u ∧ Ext w w' := by
  have hx := Lib.hid hx
  have hh := Lib.hid h
  clear h
  go_enter Try.func101, Try.ntmps101
  go_wp2_with fail
  refine (c_rNormTo [] _ xs _ (hh.out.ext ((Ext.refl _).alloc _)) hl hx.out).mono ?_
  rintro e w1 ⟨u1, rfl, h1, _, he⟩
  have hB := (Blk.new w 45 #[.bool false, .slice none 0 0]).ext he
  obtain ⟨hb0, hb1, hf0, hf1, hlt⟩ := hB.parts2
  obtain ⟨A, cap, rfl⟩ := h1.slice
  have h1 := Lib.hid h1
  have hX : Ext w w1 := ((Ext.refl w).alloc _).trans he
  have he := Lib.hid he
  have hX := Lib.hid hX
  have hB' := Lib.hid hB
  clear hB
  go_wp2
  have hD := (hB'.out.set_ 0 (.bool false)).set_ 1 (.slice A 0 cap)
  obtain ⟨q0, q1, _⟩ := hD.parts2
  refine bodyPost_ret (v := .agg #[.bool false, .slice A 0 cap]) (by simp [results, Try.results101, go_sem, q0, q1]) rfl ⟨_, rfl, ⟨_, rfl, h1.out.empty⟩, ?_⟩
  exact (hX.out.setCell (by simp) _).setCell (by simp) _

set_option maxHeartbeats 400000 in
theorem c_rIntNorm0 (v : Value) (xs : List Int) (w : World) (h : RdN w v xs) (hl : xs.length ≤ 1000000) (hx : trimL xs = []) :
    Calls Try.prog 99 #[.agg #[.bool false, v]] w fun e w' => ∃ u, e = .returned u ∧ IsInt0 w' u ∧ Ext w w' := by
  have hx := Lib.hid hx
  obtain ⟨A0, cap0, rfl⟩ := h.slice
  have hh := Lib.hid h
  clear h
  go_enter Try.func99, Try.ntmps99
  go_wp2_with fail
  refine (c_make0 _ xs _ (hh.out.ext (((Ext.refl _).alloc _).alloc _)) hl hx.out).mono ?_
  rintro e w1 ⟨u1, rfl, ⟨u2, rfl, h1⟩, he⟩
  have hB := (Blk.new (w.alloc (.cells #[.bool false, .slice A0 xs.length cap0] 45)) 45 #[.bool false, .slice none 0 0]).ext he
  simp only [World.size_alloc] at hB
  obtain ⟨hb0, hb1, hf0, hf1, hlt⟩ := hB.parts2
  obtain ⟨A, cap, rfl⟩ := h1.slice
  have h1 := Lib.hid h1
  have hX : Ext w w1 := (((Ext.refl w).alloc _).alloc _).trans he
  have he := Lib.hid he
  have hX := Lib.hid hX
  have hB' := Lib.hid hB
  clear hB
  go_wp2
  have hD := (hB'.out.set_ 0 (.bool false)).set_ 1 (.slice A 0 cap)
  obtain ⟨q0, q1, _⟩ := hD.parts2
  refine bodyPost_ret (v := .agg #[.bool false, .slice A 0 cap]) (by simp [results, Try.results99, go_sem, q0, q1]) rfl ⟨_, rfl, ⟨_, rfl, h1.out.empty⟩, ?_⟩
  exact (hX.out.setCell (by simp) _).setCell (by simp) _

set_option maxHeartbeats 1000000 in
theorem c_rIntMul01 (v u : Value) (w : World) (h : RdN w v []) (g : RdN w u [1]) :
    Calls Try.prog 86 #[.agg #[.bool false, v], .agg #[.bool false, u]] w fun e w' => ∃ u, e = .returned u ∧ IsInt0 w' u ∧ Ext w w' := by
  obtain ⟨A0, cap0, rfl⟩ := h.slice
  obtain ⟨A1, cap1, rfl⟩ := g.slice
  have hh := Lib.hid h
  have gg := Lib.hid g
  clear h g
  go_enter Try.func86, Try.ntmps86
  go_wp2_with fail
  have b0 := ((Blk.new w 45 #[.bool false, .slice A0 0 cap0]).alloc (.cells #[.bool false, .slice A1 1 cap1] 45)).alloc (.cells #[.bool false, .slice none 0 0] 45)
  have b1 := (Blk.new (w.alloc (.cells #[.bool false, .slice A0 0 cap0] 45)) 45 #[.bool false, .slice A1 1 cap1]).alloc (.cells #[.bool false, .slice none 0 0] 45)
  have b2 := Blk.new ((w.alloc (.cells #[.bool false, .slice A0 0 cap0] 45)).alloc (.cells #[.bool false, .slice A1 1 cap1] 45)) 45 #[.bool false, .slice none 0 0]
  have hX := (((Ext.refl w).alloc (.cells #[.bool false, .slice A0 0 cap0] 45)).alloc (.cells #[.bool false, .slice A1 1 cap1] 45)).alloc (.cells #[.bool false, .slice none 0 0] 45)
  simp only [World.size_alloc] at b1 b2
  generalize ((w.alloc (.cells #[.bool false, .slice A0 0 cap0] 45)).alloc (.cells #[.bool false, .slice A1 1 cap1] 45)).alloc (.cells #[.bool false, .slice none 0 0] 45) = W at b0 b1 b2 hX ⊢
  obtain ⟨p0, p1, _⟩ := b0.parts2
  obtain ⟨p2, p3, _⟩ := b1.parts2
  clear b0 b1
  have hN : w.heap.size + 2 ≤ W.heap.size := by have := b2.lt; omega
  have b2 := b2.has
  have l0 : w.heap.size < w.heap.size + 2 := by omega
  have l1 : w.heap.size + 1 < w.heap.size + 2 := by omega
  go_region_held3 (fun w' => (∀ b o, b < w.heap.size + 2 → w'.cell? ⟨b, o, none⟩ = W.cell? ⟨b, o, none⟩) ∧ Kp (w.heap.size + 2) W w' ∧ HasBlk w' (w.heap.size + 2) 45 2)
    (first
      | exact ⟨(Kp.start hN).drew.cells, (Kp.start hN).drew, b2⟩
      | (go_split_ands; exact ⟨((by assumption : Kp _ _ _).call he).cells, (by assumption : Kp _ _ _).call he, (by assumption : HasBlk _ _ _ _).ext he⟩)
      | (go_split_ands; have hkk := Kp.set (Kp.set (by assumption : Kp _ _ _) (p := ⟨w.heap.size + 2, 0, none⟩) (Nat.le_refl _) (.bool false)) (p := ⟨w.heap.size + 2, 1, none⟩) (Nat.le_refl _) (.slice A3 0 cap3); exact ⟨hkk.cells, hkk, HasBlk.set (HasBlk.set (by assumption) _ _ rfl) _ _ rfl⟩))
    (first
      | (go_at_call 102; go_split_ands; have hE := (by assumption : Kp _ _ _).ext hX (by omega); refine (c_rMul01 _ _ _ (hh.out.ext hE) (gg.out.ext hE)).mono ?_; rintro e w1 ⟨u1, rfl, h1, _, he⟩; obtain ⟨A2, cap2, rfl⟩ := h1.slice)
      | (go_at_call 101; refine (c_make0 _ [] _ (RdN.empty (by assumption)) (by simp) rfl).mono ?_; rintro e w2 ⟨u2, rfl, ⟨u3, rfl, h2⟩, he⟩; obtain ⟨A3, cap3, rfl⟩ := h2.slice; go_split_ands; obtain ⟨x0, x1, hbb⟩ := ((by assumption : HasBlk _ _ _ _).ext he).two; obtain ⟨q0, q1, q2, q3, q4⟩ := hbb.parts2))
  go_wp2
  have hD := (hbb.set_ 0 (.bool false)).set_ 1 (.slice A3 0 cap3)
  obtain ⟨r0, r1, _⟩ := hD.parts2
  go_split_ands
  have hk := (by assumption : Kp _ _ (World.setCell _ _ _))
  refine bodyPost_ret (v := .agg #[.bool false, .slice A3 0 cap3]) (by simp [results, Try.results86, go_sem, r0, r1]) rfl ⟨_, rfl, ⟨_, rfl, h2.empty⟩, ?_⟩
  exact hk.ext hX (by omega)

end Go.Proofs.Ythfcllefmeoicaa
