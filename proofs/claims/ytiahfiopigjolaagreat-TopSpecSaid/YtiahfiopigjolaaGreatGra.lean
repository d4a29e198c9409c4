/- Contracts of grade.within, rounded, corner. -/
import Derived.Test.YtiahfiopigjolaaGreatOli
import Derived.BigRegion
namespace Go.Proofs.YtiahfiopigjolaaGreat
open Go Go.RowKit
attribute [local go_sem ↓] Go.wp_at_zero Go.wp_at_succ

set_option maxHeartbeats 1000000 in
theorem c_within (n b : Int) (w : World) (h0 : 0 ≤ b) (h1 : b ≤ 1000000) : Calls Tryz.prog 19 #[.int .i64 n, .int .i64 b] w fun e w' => e = .returned (.bool (inR (-b) b n)) ∧ w' = w := by
  have hd := Lib.hid (show inR (-b) b n = decide (-b ≤ n ∧ n ≤ b) from rfl)
  go_enter Tryz.func19, Tryz.ntmps19
  go_wp2
  all_goals
    go_ret
    exact ⟨ret_bool (Eq.symm (by rw [hd.out]; first | (simp only [decide_eq_true_eq]; omega) | (simp only [decide_eq_false_iff_not]; omega) | (rw [Bool.eq_iff_iff]; simp only [decide_eq_true_eq]; omega))), rfl⟩

theorem half_in {a b : Int} (h0 : 0 ≤ a) (h1 : a ≤ 100000000) (hb : 1 ≤ b) (hb2 : b ≤ 100) : 0 ≤ (2 * a + b) / (2 * b) ∧ (2 * a + b) / (2 * b) ≤ 200000100 := by
  refine ⟨Int.ediv_nonneg (by omega) (by omega), Int.le_trans (Int.ediv_le_self _ (by omega)) (by omega)⟩

set_option maxHeartbeats 1000000 in
theorem c_half (a b : Int) (w : World) (h0 : 0 ≤ a) (h1 : a ≤ 100000000) (hb : 1 ≤ b) (hb2 : b ≤ 100) : Calls Tryz.prog 36 #[.int .i64 a, .int .i64 b] w fun e w' => e = .returned (.int .i64 (half a b)) ∧ w' = w := by
  have hd := Lib.hid (show half a b = (2 * a + b) / (2 * b) from rfl)
  obtain ⟨g0, g1⟩ := half_in h0 h1 hb hb2
  have hz : ¬ 2 * b = 0 := by omega
  have hz2 : ((2 * b : Int) == 0) = false := beq_eq_false_iff_ne.2 hz
  obtain ⟨q, hq⟩ : ∃ q, (2 * a + b) / (2 * b) = q := ⟨_, rfl⟩
  rw [hq] at hd g0 g1
  go_enter Tryz.func36, Tryz.ntmps36
  go_wp2
  go_ret
  exact ⟨ret_int (hq.trans hd.out.symm), rfl⟩
set_option maxHeartbeats 1000000 in
theorem c_rounded (a b : Int) (w : World) (h0 : -100000000 ≤ a) (h1 : a ≤ 100000000) (hb : 1 ≤ b) (hb2 : b ≤ 100) : Calls Tryz.prog 36 #[.int .i64 a, .int .i64 b] w fun e w' => e = .returned (.int .i64 (rnd a b)) ∧ w' = w := by
  by_cases hs : a < 0
  · have hd := Lib.hid (show rnd a b = -(half (-a) b) by unfold rnd; rw [if_pos hs])
    have hin := half_in (a := -a) (b := b) (by omega) (by omega) hb hb2
    have hin2 : 0 ≤ half (-a) b ∧ half (-a) b ≤ 200000100 := hin
    clear hin
    obtain ⟨g0, g1⟩ := hin2
    go_enter Tryz.func36, Tryz.ntmps36
    go_wp2_with fail
    refine (c_half (-a) b _ (by omega) (by omega) hb hb2).mono ?_
    rintro e w1 ⟨rfl, rfl⟩
    go_wp2
    go_ret
    exact ⟨ret_int hd.out.symm, rfl⟩
  · have hd := Lib.hid (show rnd a b = half a b by unfold rnd; rw [if_neg hs])
    rw [hd.out]
    exact c_half a b w (by omega) h1 hb hb2
theorem rnd_in {a b : Int} (h0 : -100000000 ≤ a) (h1 : a ≤ 100000000) (hb : 1 ≤ b) (hb2 : b ≤ 100) : -200000100 ≤ rnd a b ∧ rnd a b ≤ 200000100 := by
  unfold rnd half
  split
  · have := half_in (a := -a) (b := b) (by omega) (by omega) hb hb2
    omega
  · have := half_in (a := a) (b := b) (by omega) h1 hb hb2
    omega

/-- a shift within its bounds -/
structure Sh (s : Sp) : Prop where
  x0 : -1000 ≤ s.x
  x1 : s.x ≤ 1000
  y0 : -1000 ≤ s.y
  y1 : s.y ≤ 1000
theorem mul_small {m x : Int} (h0 : -100 ≤ m) (h1 : m ≤ 100) (h2 : -1000 ≤ x) (h3 : x ≤ 1000) : -100000 ≤ m * x ∧ m * x ≤ 100000 := by
  have a1 : m.natAbs ≤ 100 := by omega
  have a2 : x.natAbs ≤ 1000 := by omega
  have a3 : (m * x).natAbs ≤ 100 * 1000 := by rw [Int.natAbs_mul]; exact Nat.mul_le_mul a1 a2
  omega

set_option maxHeartbeats 2000000 in
theorem c_corner (v : Value) (l : List Sp) (m : Int) (i : Nat) (w : World) (h : RdL 2 spP w v l) (hs : ∀ s ∈ l, Sh s) (hm0 : -100 ≤ m) (hm1 : m ≤ 100) (h0 : 0 < l.length) (_h16 : l.length ≤ 1000) (_hi : i ≤ 1000) : Calls Tryz.prog 21 #[.agg #[v, .int .i64 m], .int .i64 i] w fun e w' => e = .returned (spV (cornerAt l m i)) ∧ Ext w w' := by
  obtain ⟨A, c, rfl⟩ := h.slice
  replace h := Lib.hid h
  obtain ⟨k, hk⟩ : ∃ k, i % l.length = k := ⟨_, rfl⟩
  have hkl : k < l.length := hk ▸ Nat.mod_lt _ h0
  obtain ⟨b, o, rfl, c0, c1⟩ := h.out.sp k hkl
  have hsk := hs _ (List.getElem_mem hkl)
  have hd := Lib.hid (show cornerAt l m i = ⟨m * l[k].x, m * l[k].y⟩ by unfold cornerAt; rw [hk, nth_eq l hkl])
  obtain ⟨f, hf⟩ : ∃ f, f = l[k] := ⟨_, rfl⟩
  rw [← hf] at c0 c1 hsk hd
  clear hf
  obtain ⟨g0, g1, g2, g3⟩ := hsk
  have m1 := mul_small hm0 hm1 g0 g1
  have m2 := mul_small hm0 hm1 g2 g3
  have t1 : Int.tmod (i : Int) (l.length : Int) = (k : Int) := by rw [← hk]; exact tmod_nat i l.length
  have t2 : (i : Int) % (l.length : Int) = (k : Int) := by rw [← hk]; rfl
  have n1 : ¬ (l.length : Int) = 0 := by omega
  have n2 : ¬ l.length = 0 := by omega
  have n3 : ¬ l = [] := fun e => by rw [e] at h0; exact absurd h0 (by simp)
  have n4 : ((l.length : Int) == 0) = false := beq_eq_false_iff_ne.2 n1
  have hki : (k : Int) < l.length := by omega
  have hk0 : (0 : Int) ≤ k := by omega
  replace hk := Lib.hid hk
  go_enter Tryz.func21, Tryz.ntmps21
  go_wp2_with fail
  obtain ⟨W, hW⟩ : ∃ W, W = (w.alloc (.cells #[.slice (some ⟨b, o, none⟩) l.length c, .int .i64 m] 70)).alloc (.cells #[.int .i64 0, .int .i64 0] 66) := ⟨_, rfl⟩
  have hX := Lib.hid (show Ext w W from hW ▸ ((Ext.refl w).alloc _).alloc _)
  have hbG := Lib.hid (show Blk W w.heap.size 70 #[.slice (some ⟨b, o, none⟩) l.length c, .int .i64 m] from hW ▸ (Blk.new _ _ _).alloc _)
  have hbR := Lib.hid (show Blk W (w.heap.size + 1) 66 #[.int .i64 0, .int .i64 0] from hW ▸ Blk.at (by simp))
  rw [← hW]
  clear hW
  replace c0 := hX.out.cell c0
  replace c1 := hX.out.cell c1
  have lb : b < W.heap.size := World.block_lt_of_cell? _ _ c0
  obtain ⟨p0, p1, _, _, lG⟩ := hbG.out.parts2
  go_region
  obtain ⟨W2, hW2⟩ : ∃ W2, W2 = (W.alloc (.cells #[.int .i64 f.x, .int .i64 f.y] 66)).drew := ⟨_, rfl⟩
  have hX2 := Lib.hid (show Ext W W2 from hW2 ▸ ((Ext.refl W).alloc _).drew)
  have hbS := Lib.hid (show Blk W2 W.heap.size 66 #[.int .i64 f.x, .int .i64 f.y] from hW2 ▸ (Blk.new W _ _).drew)
  rw [← hW2]
  clear hW2 c0 c1 lb p0 p1 lG
  obtain ⟨p0, p1, _, _, lG⟩ := (hbG.out.ext hX2.out).parts2
  obtain ⟨r0, r1, rf0, rf1, lR⟩ := (hbR.out.ext hX2.out).parts2
  obtain ⟨s0, s1, _, _, lS⟩ := hbS.out.parts2
  go_wp2
  have hD := ((hbR.out.ext hX2.out).set_ 0 (.int .i64 (m * f.x))).set_ 1 (.int .i64 (m * f.y))
  obtain ⟨u0, u1, _⟩ := hD.parts2
  refine bodyPost_ret (v := .agg #[.int .i64 (m * f.x), .int .i64 (m * f.y)]) (by simp [results, Tryz.results21, go_sem, u0, u1]) rfl ⟨by rw [hd.out]; rfl, ?_⟩
  exact ((hX.out.trans hX2.out).setCell (by simp) _).setCell (by simp) _

end Go.Proofs.YtiahfiopigjolaaGreat
